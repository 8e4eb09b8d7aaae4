/- Regions whose order is open, with operations that move the world: those are forced (alone when they come up), the rest (loads, sums) floats. Nothing here speaks of a program. -/
import Derived.Test.YtbgmjlonbbmffaaDoorReg
namespace Go.Proofs.YtbgmjlonbbmffaaDoor
open Go Go.RowKit
section
variable {P : Program} {ops : Array Oper} {md : Region.Mode} {C : World → Prop}
/-- What is asked of an operation that may move the world: R of the value and of the world behind it. -/
def Oper.loudUpon (P : Program) (R : Value → World → Prop) : Result Next → Prop
  | .ok (.value u) w' => R u w'
  | .ok .skip w' => R undef w'
  | .ok (.enter f args) w' => Calls P f args w' (fun e w'' => ∃ v, e = .returned v ∧ R v w'')
  | _ => False
def Oper.loudAt (P : Program) (o : Oper) (a : Act) (w : World) (R : Value → World → Prop) : Prop := Oper.loudUpon P R ((execOp a.eval o).run P w)
theorem loudUpon_mono {R R' : Value → World → Prop} (h : ∀ v w, R v w → R' v w) {r : Result Next} (hr : Oper.loudUpon P R r) : Oper.loudUpon P R' r := by
  cases r with
  | ok n w' =>
    cases n <;> simp only [Oper.loudUpon] at hr ⊢
    case value u => exact h _ _ hr
    case skip => exact h _ _ hr
    case enter f args => exact hr.mono fun e w'' ⟨v, he, hv⟩ => ⟨v, he, h _ _ hv⟩
  | halt x w' => simp only [Oper.loudUpon] at hr
theorem loudUpon_of_quiet {w : World} {v : Value} (hw : C w) {r : Result Next} (hr : Oper.quietUpon P C w v r) : Oper.loudUpon P (fun u w' => u = v ∧ C w') r := by
  cases r with
  | ok n w' =>
    cases n <;> simp only [Oper.quietUpon] at hr <;> simp only [Oper.loudUpon]
    case value u => obtain ⟨rfl, rfl⟩ := hr; exact ⟨rfl, hw⟩
    case skip => obtain ⟨rfl, rfl⟩ := hr; exact ⟨rfl, hw⟩
    case enter f args => obtain ⟨rfl, hc⟩ := hr; exact hc.mono fun e w'' ⟨he, hv⟩ => ⟨v, he, rfl, hv⟩
  | halt x w' => simp only [Oper.quietUpon] at hr
theorem wp_of_loud {o : Oper} {a : Act} {R : Value → World → Prop} {K' : Act → World → Prop} {Q' : Exit → Act → World → Prop} {w : World}
    (h : ∀ v w', R v w' → K' (a.put o.dst v) w') (hh : Oper.loudAt P o a w R) : o.wp P a w K' Q' := by
  unfold Oper.loudAt at hh
  unfold Oper.wp
  generalize (execOp a.eval o).run P w = r at *
  cases r with
  | ok n w' =>
    cases n <;> simp only [Oper.loudUpon] at hh <;> simp only [Oper.upon]
    case value u => exact h _ _ hh
    case skip => exact h _ _ hh
    case enter f args => exact hh.mono fun e w'' ⟨v, he, hv⟩ => by subst he; exact h _ _ hv
  | halt x w' => simp only [Oper.loudUpon] at hh

/-- One operation of a walk over classes of worlds. -/
def mStep (P : Program) (ops : Array Oper) (o : Oper) (K : Act → (World → Prop) → Prop) (a : Act) (C : World → Prop) : Prop :=
  if Region.wanted o (yielded ops a.tmps) then ∀ w, C w → Oper.loudAt P o a w (fun u w' => ∃ C' : World → Prop, C' w' ∧ (∀ x, C' x → C x) ∧ K (a.put o.dst u) C') else K (a.put o.dst undef) C
def mOp (P : Program) (ops : Array Oper) (i : Nat) (K : Act → (World → Prop) → Prop) (a : Act) (C : World → Prop) : Prop :=
  match ops[i]? with
  | none => K a C
  | some o => mStep P ops o K a C
def headM (P : Program) (md : Region.Mode) (ops : Array Oper) (Q : Act → World → Prop) : Nat → Array Bool → Act → (World → Prop) → Prop
  | 0, listed, a, C => Region.ready md ops listed = [] ∧ ∀ w, C w → Q a w
  | f + 1, listed, a, C => Region.ready md ops listed ≠ [] ∧ ∀ i ∈ Region.ready md ops listed, mOp P ops i (headM P md ops Q f (listed.setIfInBounds i true)) a C

theorem mStep_mono {o : Oper} {K K' : Act → (World → Prop) → Prop} {a : Act} (h : ∀ a' C', K a' C' → K' a' C') (hh : mStep P ops o K a C) : mStep P ops o K' a C := by
  unfold mStep at *
  split
  · rename_i hw; rw [if_pos hw] at hh
    exact fun w hC => loudUpon_mono (fun v w' ⟨C', h1, h2, h3⟩ => ⟨C', h1, h2, h _ _ h3⟩) (hh w hC)
  · rename_i hw; rw [if_neg hw] at hh; exact h _ _ hh
theorem mOp_mono {i : Nat} {K K' : Act → (World → Prop) → Prop} {a : Act} (h : ∀ a' C', K a' C' → K' a' C') (hh : mOp P ops i K a C) : mOp P ops i K' a C := by
  unfold mOp at *
  split
  · rename_i ho; simp only [ho] at hh; exact h _ _ hh
  · rename_i o ho; simp only [ho] at hh; exact mStep_mono h hh

theorem wpAny_of_headM {Q : Act → World → Prop} {Q' : Exit → Act → World → Prop} (hQ : ∀ a w, Q a w → Q' .normal a w) : ∀ (f : Nat) (listed : Array Bool) (a : Act) (C : World → Prop) (w : World), C w →
    headM P md ops Q f listed a C → wpAny P md ops Q' f listed a w
  | 0, _, _, _, w, hw, h => ⟨h.1, hQ _ _ (h.2 w hw)⟩
  | f + 1, listed, a, C, w, hw, h => ⟨fun h0 => absurd h0 h.1, fun i hi => by
      have hh := h.2 i hi
      unfold mOp mStep at hh
      unfold wpOp
      split
      · rename_i ho; simp only [ho] at hh; exact wpAny_of_headM hQ f _ _ _ _ hw hh
      · rename_i o ho
        simp only [ho] at hh
        split
        · rename_i hg
          rw [if_pos hg] at hh
          exact .inl (wp_of_loud (fun v w' ⟨C', h1, _, h3⟩ => wpAny_of_headM hQ f _ _ _ _ h1 h3) (hh w hw))
        · rename_i hg
          rw [if_neg hg] at hh
          exact wpAny_of_headM hQ f _ _ _ _ hw hh⟩

/-- Whatever narrower class comes: this value. -/
def SYield (P : Program) (ops : Array Oper) (C : World → Prop) (o : Oper) (v : Value) (a : Act) : Prop :=
  (Region.wanted o (yielded ops a.tmps) = true ∧ ∀ C' : World → Prop, (∀ x, C' x → C x) → ∀ w, C' w → o.quietAt P a C' w v) ∨
  (Region.wanted o (yielded ops a.tmps) = false ∧ v = undef)
theorem SYield.sub {C' : World → Prop} {o : Oper} {v : Value} {a : Act} (h : SYield P ops C o v a) (hs : ∀ x, C' x → C x) : SYield P ops C' o v a := by
  rcases h with ⟨h1, h2⟩ | h
  · exact .inl ⟨h1, fun C'' hs' w hw => h2 C'' (fun x hx => hs x (hs' x hx)) w hw⟩
  · exact .inr h
theorem SYield.mOp {i : Nat} {o : Oper} {v : Value} {a : Act} (hi : ops[i]? = some o) (hy : SYield P ops C o v a) {K : Act → (World → Prop) → Prop} (h : K (a.put o.dst v) C) : mOp P ops i K a C := by
  unfold YtbgmjlonbbmffaaDoor.mOp mStep
  simp only [hi]
  rcases hy with ⟨hw, hv⟩ | ⟨hw, rfl⟩
  · rw [if_pos hw]
    exact fun w hC => loudUpon_mono (fun u w' ⟨hu, hw'⟩ => ⟨C, hw', fun _ h => h, by rw [hu]; exact h⟩) (loudUpon_of_quiet hC (hv C (fun _ h => h) w hC))
  · rw [if_neg (by rw [hw]; simp)]; exact h
theorem SYield.of_same {o : Oper} {v : Value} {a a' : Act} (hy : SYield P ops C o v a) (he : execOp a'.eval o = execOp a.eval o)
    (hw : Region.wanted o (yielded ops a'.tmps) = Region.wanted o (yielded ops a.tmps)) : SYield P ops C o v a' := by
  unfold SYield Oper.quietAt at *
  rw [he, hw]
  exact hy
theorem mOp_put {j : Nat} {oi oj : Oper} {v : Value} (hj : ops[j]? = some oj) (hap : oi.apart ops oj = true)
    (hsi : ∀ cs b, oi.op ≠ .select cs b) (hsj : ∀ cs b, oj.op ≠ .select cs b) {K : Act → (World → Prop) → Prop} {a : Act}
    (hy : SYield P ops C oi v a) (h : mOp P ops j K (a.put oi.dst v) C) :
    mOp P ops j (fun a' C' => SYield P ops C' oi v a' ∧ K (a'.put oi.dst v) C') a C := by
  obtain ⟨h1, h2, h3⟩ := Oper.apart_spec hap
  have keep : ∀ u, SYield P ops C oi v (a.put oj.dst u) := fun u =>
    hy.of_same (execOp_put oi hsi a oj.dst u h3) (wanted_put oi a oj.dst u h3)
  unfold mOp mStep at *
  simp only [hj] at *
  rw [wanted_put oj a oi.dst v h1] at h
  split
  · rename_i hw
    rw [if_pos hw] at h
    intro w hC
    have := h w hC
    unfold Oper.loudAt at *
    rw [execOp_put oj hsj a oi.dst v h1] at this
    exact loudUpon_mono (fun u w' ⟨C', c1, c2, c3⟩ => ⟨C', c1, c2, (keep u).sub c2, by rw [← Act.put_comm a v u h2]; exact c3⟩) this
  · rename_i hw
    rw [if_neg hw] at h
    exact ⟨keep _, by rw [← Act.put_comm a v undef h2]; exact h⟩

theorem headM_first {Q : Act → World → Prop} {i : Nat} {oi : Oper} {v : Value} (hi : ops[i]? = some oi) (hsel : ∀ (j : Nat) (o : Oper) cs b, ops[j]? = some o → o.op ≠ .select cs b) :
    ∀ (f : Nat) (listed : Array Bool) (a : Act) (C : World → Prop),
      (∀ j oj, ops[j]? = some oj → j ≠ i → listed.getD j true = false → (∀ e ∈ oj.after, Region.binds md e = true → e.on ≠ i) → oi.apart ops oj = true) →
      i ∈ Region.ready md ops listed → SYield P ops C oi v a →
      headM P md ops Q f (listed.setIfInBounds i true) (a.put oi.dst v) C → headM P md ops Q (f + 1) listed a C := by
  intro f
  induction f with
  | zero =>
    intro listed a C _ hr hy H
    refine ⟨fun h => (by rw [h] at hr; cases hr), fun j hj => ?_⟩
    by_cases hji : j = i
    · subst hji; exact hy.mOp hi H
    · have := ready_mono hj hji
      rw [H.1] at this
      cases this
  | succ f ih =>
    intro listed a C hfree hr hy H
    refine ⟨fun h => (by rw [h] at hr; cases hr), fun j hj => ?_⟩
    by_cases hji : j = i
    · subst hji; exact hy.mOp hi H
    · have h1 := H.2 j (ready_mono hj hji)
      obtain ⟨hjun, oj, hoj, hall⟩ := mem_ready.1 hj
      have hnot : ∀ e ∈ oj.after, Region.binds md e = true → e.on ≠ i := fun e he hb heq => by
        have h1 := hall e he hb
        have h0 := (mem_ready.1 hr).1
        rw [heq] at h1
        rcases Nat.lt_or_ge i listed.size with h' | h'
        · simp [h'] at h0 h1; rw [h0] at h1; cases h1
        · simp [Array.getElem?_eq_none h'] at h1
      have h2 := mOp_put hoj (hfree j oj hoj hji hjun hnot) (fun cs b => hsel i oi cs b hi) (fun cs b => hsel j oj cs b hoj) hy h1
      have hfree' : ∀ k ok, ops[k]? = some ok → k ≠ i → (listed.setIfInBounds j true).getD k true = false →
          (∀ e ∈ ok.after, Region.binds md e = true → e.on ≠ i) → oi.apart ops ok = true := fun k ok hk hki hun hno => by
        refine hfree k ok hk hki ?_ hno
        by_cases hjk : j = k
        · subst hjk; exact hjun
        · rw [getD_set_ne true hjk] at hun; exact hun
      refine mOp_mono (fun a' C' h3 => ih (listed.setIfInBounds j true) a' C' hfree' (ready_mono hr (Ne.symm hji)) h3.1 ?_) h2
      rw [Array.setIfInBounds_comm _ _ hji]
      exact h3.2

/-- The walk, in an order of one's own: true: the operation floats; false: it is alone when it comes up. -/
def wpM (P : Program) (ops : Array Oper) (Q : Act → World → Prop) : List (Bool × Oper) → Act → (World → Prop) → Prop
  | [], a, C => ∀ w, C w → Q a w
  | (true, o) :: r, a, C => ∃ v, SYield P ops C o v a ∧ wpM P ops Q r (a.put o.dst v) C
  | (false, o) :: r, a, C => mStep P ops o (wpM P ops Q r) a C
def chkM (md : Region.Mode) (ops : Array Oper) : List (Bool × Nat) → Array Bool → Bool
  | [], listed => (Region.ready md ops listed).isEmpty
  | (true, i) :: r, listed => (Region.ready md ops listed).contains i && Region.free md ops listed i && chkM md ops r (listed.setIfInBounds i true)
  | (false, i) :: r, listed => (Region.ready md ops listed == [i]) && chkM md ops r (listed.setIfInBounds i true)
def layOps (l : List Oper) (p : List (Bool × Nat)) : List (Bool × Oper) := p.filterMap fun x => (l[x.2]?).map fun o => (x.1, o)
theorem headM_of_walk {Q : Act → World → Prop} {l : List Oper} (hs : Region.noSelect l.toArray = true) : ∀ (p : List (Bool × Nat)) (listed : Array Bool) (a : Act) (C : World → Prop),
    chkM md l.toArray p listed = true → wpM P l.toArray Q (layOps l p) a C → headM P md l.toArray Q p.length listed a C
  | [], _, _, _, hB, h => ⟨by simpa [chkM] using hB, h⟩
  | (true, i) :: p, listed, a, C, hB, h => by
    simp only [chkM, Bool.and_eq_true] at hB
    obtain ⟨⟨hr, hf⟩, hB'⟩ := hB
    have hr' : i ∈ Region.ready md l.toArray listed := by simpa using hr
    obtain ⟨_, o, ho, _⟩ := mem_ready.1 hr'
    have ho' : l[i]? = some o := by simpa using ho
    simp only [layOps, List.filterMap_cons, ho', Option.map_some] at h
    obtain ⟨v, hy, hK⟩ := h
    exact headM_first ho (Region.noSelect_spec hs) p.length listed a C (Region.free_spec ho hf) hr' hy (headM_of_walk hs p _ _ _ hB' hK)
  | (false, i) :: p, listed, a, C, hB, h => by
    simp only [chkM, Bool.and_eq_true, beq_iff_eq] at hB
    obtain ⟨hr, hB'⟩ := hB
    have hr' : i ∈ Region.ready md l.toArray listed := by rw [hr]; simp
    obtain ⟨_, o, ho, _⟩ := mem_ready.1 hr'
    have ho' : l[i]? = some o := by simpa using ho
    simp only [layOps, List.filterMap_cons, ho', Option.map_some] at h
    refine ⟨by rw [hr]; simp, fun j hj => ?_⟩
    rw [hr] at hj
    obtain rfl : j = i := by simpa using hj
    unfold mOp
    simp only [ho]
    exact mStep_mono (fun a' C' h' => headM_of_walk hs p _ _ _ hB' h') h

theorem wp_region_lay {id : Nat} {Q : Exit → Act → World → Prop} {a : Act} {w : World} {l : List Oper} (p : List (Bool × Nat)) (hm : P.follows .mixedOrders = true)
    (hB : (Region.noSelect l.toArray && (p.length == l.length) && chkM .any l.toArray p (Array.replicate l.toArray.size false)) = true) (hC : C w.drew)
    (h : wpM P l.toArray (fun a' w' => Q .normal a' w') (layOps l p) a C) : (Code.region id l.toArray true).wp P Q a w := by
  simp only [Bool.and_eq_true, beq_iff_eq] at hB
  obtain ⟨⟨hs, hl⟩, hB'⟩ := hB
  refine wp_region_any hm (wpAny_of_headM (Q := fun a' w' => Q .normal a' w') (fun _ _ h => h) _ _ _ C _ hC ?_)
  have := headM_of_walk (md := .any) (P := P) hs p _ a C hB' h
  rw [hl] at this
  simpa using this

theorem lay_nil {Q : Act → World → Prop} {a : Act} (h : ∀ w, C w → Q a w) : wpM P ops Q [] a C := h
theorem lay_free {Q : Act → World → Prop} {a : Act} {o : Oper} {r : List (Bool × Oper)} (v : Value) (hw : Region.wanted o (yielded ops a.tmps) = true)
    (h : ∀ C' : World → Prop, (∀ x, C' x → C x) → ∀ w, C' w → o.quietAt P a C' w v) (hK : wpM P ops Q r (a.put o.dst v) C) : wpM P ops Q ((true, o) :: r) a C :=
  ⟨v, .inl ⟨hw, h⟩, hK⟩
theorem lay_skip {Q : Act → World → Prop} {a : Act} {o : Oper} {b : Bool} {r : List (Bool × Oper)} (hw : Region.wanted o (yielded ops a.tmps) = false)
    (hK : wpM P ops Q r (a.put o.dst undef) C) : wpM P ops Q ((b, o) :: r) a C := by
  cases b
  · show mStep P ops o _ a C
    unfold mStep; rw [if_neg (by rw [hw]; simp)]; exact hK
  · exact ⟨undef, .inr ⟨hw, rfl⟩, hK⟩
theorem lay_quiet {Q : Act → World → Prop} {a : Act} {o : Oper} {r : List (Bool × Oper)} (v : Value) (hw : Region.wanted o (yielded ops a.tmps) = true)
    (h : ∀ w, C w → o.quietAt P a C w v) (hK : wpM P ops Q r (a.put o.dst v) C) : wpM P ops Q ((false, o) :: r) a C := by
  show mStep P ops o _ a C
  unfold mStep; rw [if_pos hw]
  exact fun w hC => loudUpon_mono (fun u w' ⟨hu, hw'⟩ => ⟨C, hw', fun _ h => h, by rw [hu]; exact hK⟩) (loudUpon_of_quiet hC (h w hC))
theorem lay_loud {Q : Act → World → Prop} {a : Act} {o : Oper} {r : List (Bool × Oper)} (hw : Region.wanted o (yielded ops a.tmps) = true)
    (h : ∀ K : Act → (World → Prop) → Prop, (∀ a' C', wpM P ops Q r a' C' → K a' C') → ∀ w, C w → Oper.loudAt P o a w (fun u w' => ∃ C' : World → Prop, C' w' ∧ (∀ x, C' x → C x) ∧ K (a.put o.dst u) C')) : wpM P ops Q ((false, o) :: r) a C := by
  show mStep P ops o _ a C
  unfold mStep; rw [if_pos hw]
  exact h _ (fun _ _ h => h)
end
end Go.Proofs.YtbgmjlonbbmffaaDoor
