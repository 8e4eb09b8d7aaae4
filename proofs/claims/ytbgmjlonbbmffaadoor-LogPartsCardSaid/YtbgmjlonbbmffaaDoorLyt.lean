/- Regions whose order is open: a head of operations that float (they read what no operation of the region turns) and of forced ones (whatever they do to the world), then a tail in one forced order. Nothing here speaks of a program. -/
import Derived.Test.YtbgmjlonbbmffaaDoorApp
namespace Go.Proofs.YtbgmjlonbbmffaaDoor
open Go Go.RowKit
section
variable {P : Program} {ops : Array Oper} {md : Region.Mode} {I : World → Prop}
/-- One operation; I: what stays true of the world as long as the region runs. -/
def iStep (P : Program) (ops : Array Oper) (I : World → Prop) (o : Oper) (K : Act → (World → Prop) → Prop) (a : Act) (C : World → Prop) : Prop :=
  if Region.wanted o (yielded ops a.tmps) then ∀ w, C w → Oper.loudAt P o a w (fun u w' => ∃ C' : World → Prop, C' w' ∧ (∀ x, C' x → I x) ∧ K (a.put o.dst u) C') else K (a.put o.dst undef) C
def iOp (P : Program) (ops : Array Oper) (I : World → Prop) (i : Nat) (K : Act → (World → Prop) → Prop) (a : Act) (C : World → Prop) : Prop :=
  match ops[i]? with
  | none => K a C
  | some o => iStep P ops I o K a C
theorem iStep_mono {o : Oper} {K K' : Act → (World → Prop) → Prop} {a : Act} {C : World → Prop} (h : ∀ a' C', K a' C' → K' a' C') (hh : iStep P ops I o K a C) : iStep P ops I o K' a C := by
  unfold iStep at *
  split
  · rename_i hw; rw [if_pos hw] at hh
    exact fun w hC => loudUpon_mono (fun v w' ⟨C', h1, h2, h3⟩ => ⟨C', h1, h2, h _ _ h3⟩) (hh w hC)
  · rename_i hw; rw [if_neg hw] at hh; exact h _ _ hh
theorem iOp_mono {i : Nat} {K K' : Act → (World → Prop) → Prop} {a : Act} {C : World → Prop} (h : ∀ a' C', K a' C' → K' a' C') (hh : iOp P ops I i K a C) : iOp P ops I i K' a C := by
  unfold iOp at *
  split
  · rename_i ho; simp only [ho] at hh; exact h _ _ hh
  · rename_i o ho; simp only [ho] at hh; exact iStep_mono h hh
def headT (P : Program) (md : Region.Mode) (ops : Array Oper) (I : World → Prop) (n : Nat) (L : Array Bool → Act → (World → Prop) → Prop) : Nat → Array Bool → Act → (World → Prop) → Prop
  | 0, listed, a, C => L listed a C
  | f + 1, listed, a, C => Region.ready md ops listed ≠ [] ∧ ∀ i ∈ Region.ready md ops listed, i < n ∧ iOp P ops I i (headT P md ops I n L f (listed.setIfInBounds i true)) a C
theorem wpAny_of_headT {n g : Nat} {L : Array Bool → Act → (World → Prop) → Prop} {Q' : Exit → Act → World → Prop} (hL : ∀ listed a C w, C w → L listed a C → wpAny P md ops Q' g listed a w) :
    ∀ (f : Nat) (listed : Array Bool) (a : Act) (C : World → Prop) (w : World), C w → headT P md ops I n L f listed a C → wpAny P md ops Q' (f + g) listed a w
  | 0, listed, a, C, w, hw, h => by rw [Nat.zero_add]; exact hL _ _ _ _ hw h
  | f + 1, listed, a, C, w, hw, h => by
    rw [show f + 1 + g = (f + g) + 1 by omega]
    refine ⟨fun h0 => absurd h0 h.1, fun i hi => ?_⟩
    have hh := (h.2 i hi).2
    unfold iOp iStep at hh
    unfold wpOp
    split
    · rename_i ho; simp only [ho] at hh; exact wpAny_of_headT hL f _ _ _ _ hw hh
    · rename_i o ho
      simp only [ho] at hh
      split
      · rename_i hg
        rw [if_pos hg] at hh
        exact .inl (wp_of_loud (fun v w' ⟨C', h1, _, h3⟩ => wpAny_of_headT hL f _ _ _ _ h1 h3) (hh w hw))
      · rename_i hg
        rw [if_neg hg] at hh
        exact wpAny_of_headT hL f _ _ _ _ hw hh
theorem SYield.iOp {i : Nat} {o : Oper} {v : Value} {a : Act} {C : World → Prop} (hi : ops[i]? = some o) (hCI : ∀ x, C x → I x) (hy : SYield P ops I o v a) {K : Act → (World → Prop) → Prop} (h : K (a.put o.dst v) C) : iOp P ops I i K a C := by
  unfold YtbgmjlonbbmffaaDoor.iOp iStep
  simp only [hi]
  rcases hy with ⟨hw, hv⟩ | ⟨hw, rfl⟩
  · rw [if_pos hw]
    exact fun w hC => loudUpon_mono (fun u w' ⟨hu, hw'⟩ => ⟨C, hw', hCI, by rw [hu]; exact h⟩) (loudUpon_of_quiet hC (hv C hCI w hC))
  · rw [if_neg (by rw [hw]; simp)]; exact h
theorem iOp_put {j : Nat} {oi oj : Oper} {v : Value} {C : World → Prop} (hj : ops[j]? = some oj) (hCI : ∀ x, C x → I x) (hap : oi.apart ops oj = true)
    (hsi : ∀ cs b, oi.op ≠ .select cs b) (hsj : ∀ cs b, oj.op ≠ .select cs b) {K : Act → (World → Prop) → Prop} {a : Act}
    (hy : SYield P ops I oi v a) (h : iOp P ops I j K (a.put oi.dst v) C) :
    iOp P ops I j (fun a' C' => (∀ x, C' x → I x) ∧ SYield P ops I oi v a' ∧ K (a'.put oi.dst v) C') a C := by
  obtain ⟨h1, h2, h3⟩ := Oper.apart_spec hap
  have keep : ∀ u, SYield P ops I oi v (a.put oj.dst u) := fun u =>
    hy.of_same (execOp_put oi hsi a oj.dst u h3) (wanted_put oi a oj.dst u h3)
  unfold iOp iStep at *
  simp only [hj] at *
  rw [wanted_put oj a oi.dst v h1] at h
  split
  · rename_i hw
    rw [if_pos hw] at h
    intro w hC
    have := h w hC
    unfold Oper.loudAt at *
    rw [execOp_put oj hsj a oi.dst v h1] at this
    exact loudUpon_mono (fun u w' ⟨C', c1, c2, c3⟩ => ⟨C', c1, c2, c2, keep u, by rw [← Act.put_comm a v u h2]; exact c3⟩) this
  · rename_i hw
    rw [if_neg hw] at h
    exact ⟨hCI, keep _, by rw [← Act.put_comm a v undef h2]; exact h⟩
theorem headT_first {n i : Nat} {oi : Oper} {v : Value} {L : Array Bool → Act → (World → Prop) → Prop} (hi : ops[i]? = some oi) (hsel : ∀ (j : Nat) (o : Oper) cs b, ops[j]? = some o → o.op ≠ .select cs b)
    (hs : Region.sinkB md ops n = true) (hc : Region.chainB md ops n = true) (hn : n < ops.size) (hin : i < n)
    (hdone : ∀ listed a C, L listed a C → ∀ j ∈ Region.ready md ops listed, n ≤ j) :
    ∀ (f : Nat) (listed : Array Bool) (a : Act) (C : World → Prop), (∀ x, C x → I x) → HeadInv md ops n listed →
      (∀ j oj, ops[j]? = some oj → j ≠ i → listed.getD j true = false → (∀ e ∈ oj.after, Region.binds md e = true → e.on ≠ i) → oi.apart ops oj = true) →
      i ∈ Region.ready md ops listed → SYield P ops I oi v a →
      headT P md ops I n L f (listed.setIfInBounds i true) (a.put oi.dst v) C → headT P md ops I n L (f + 1) listed a C := by
  intro f
  induction f with
  | zero =>
    intro listed a C hCI inv _ hr hy H
    have hun := (mem_ready.1 hr).1
    refine ⟨fun h => (by rw [h] at hr; cases hr), fun j hj => ?_⟩
    have hjn : j < n := Nat.lt_of_not_le fun h => tail_waits hs hc hn inv _ i rfl hin hun j h hj
    refine ⟨hjn, ?_⟩
    by_cases hji : j = i
    · subst hji; exact hy.iOp hi hCI H
    · exact absurd (hdone _ _ _ H j (ready_mono hj hji)) (by omega)
  | succ f ih =>
    intro listed a C hCI inv hfree hr hy H
    have hun := (mem_ready.1 hr).1
    refine ⟨fun h => (by rw [h] at hr; cases hr), fun j hj => ?_⟩
    have hjn : j < n := Nat.lt_of_not_le fun h => tail_waits hs hc hn inv _ i rfl hin hun j h hj
    refine ⟨hjn, ?_⟩
    by_cases hji : j = i
    · subst hji; exact hy.iOp hi hCI H
    · have h1 := (H.2 j (ready_mono hj hji)).2
      obtain ⟨hjun, oj, hoj, hall⟩ := mem_ready.1 hj
      have hnot : ∀ e ∈ oj.after, Region.binds md e = true → e.on ≠ i := fun e he hb heq => by
        have h1 := hall e he hb
        rw [heq, getD_both hun] at h1
        cases h1
      have h2 := iOp_put hoj hCI (hfree j oj hoj hji hjun hnot) (fun cs b => hsel i oi cs b hi) (fun cs b => hsel j oj cs b hoj) hy h1
      have hfree' : ∀ k ok, ops[k]? = some ok → k ≠ i → (listed.setIfInBounds j true).getD k true = false →
          (∀ e ∈ ok.after, Region.binds md e = true → e.on ≠ i) → oi.apart ops ok = true := fun k ok hk hki hun hno => by
        refine hfree k ok hk hki ?_ hno
        by_cases hjk : j = k
        · subst hjk; exact hjun
        · rw [getD_set_ne true hjk] at hun; exact hun
      refine iOp_mono (fun a' C' h3 => ih (listed.setIfInBounds j true) a' C' h3.1 (inv.set hj hjn) hfree' (ready_mono hr (Ne.symm hji)) h3.2.1 ?_) h2
      rw [Array.setIfInBounds_comm _ _ hji]
      exact h3.2.2
/-- The walk, in an order of one's own: true: the operation floats; false: it is alone when it comes up. -/
def wpI (P : Program) (ops : Array Oper) (I : World → Prop) (Q : Act → World → Prop) : List (Bool × Oper) → Act → (World → Prop) → Prop
  | [], a, C => ∀ w, C w → Q a w
  | (true, o) :: r, a, C => ∃ v, SYield P ops I o v a ∧ wpI P ops I Q r (a.put o.dst v) C
  | (false, o) :: r, a, C => iStep P ops I o (fun a' C' => (∀ x, C' x → I x) → wpI P ops I Q r a' C') a C
def chkT (md : Region.Mode) (ops : Array Oper) (g n : Nat) : List (Bool × Nat) → Array Bool → Bool
  | [], listed => Region.seqB md ops g n listed
  | (true, i) :: r, listed => decide (i < n) && (Region.ready md ops listed).contains i && Region.free md ops listed i && chkT md ops g n r (listed.setIfInBounds i true)
  | (false, i) :: r, listed => decide (i < n) && (Region.ready md ops listed == [i]) && chkT md ops g n r (listed.setIfInBounds i true)
theorem iStep_in {o : Oper} {K : Act → (World → Prop) → Prop} {a : Act} {C : World → Prop} (hCI : ∀ x, C x → I x) (h : iStep P ops I o (fun a' C' => (∀ x, C' x → I x) → K a' C') a C) : iStep P ops I o (fun a' C' => (∀ x, C' x → I x) ∧ K a' C') a C := by
  unfold iStep at *
  split
  · rename_i hw; rw [if_pos hw] at h
    exact fun w hC => loudUpon_mono (fun v w' ⟨C', h1, h2, h3⟩ => ⟨C', h1, h2, h2, h3 h2⟩) (h w hC)
  · rename_i hw; rw [if_neg hw] at h; exact ⟨hCI, h hCI⟩
theorem headT_of_walk {Q : Act → World → Prop} {l : List Oper} {g n : Nat} (hsel : Region.noSelect l.toArray = true) (hs : Region.sinkB md l.toArray n = true) (hc : Region.chainB md l.toArray n = true) (hn : n < l.toArray.size) :
    ∀ (p : List (Bool × Nat)) (listed : Array Bool) (a : Act) (C : World → Prop), (∀ x, C x → I x) → HeadInv md l.toArray n listed →
    chkT md l.toArray g n p listed = true → wpI P l.toArray I Q (layOps l p) a C → headT P md l.toArray I n (fun listed' a' C' => Region.seqB md l.toArray g n listed' = true ∧ ∀ w, C' w → Q a' w) p.length listed a C
  | [], _, _, _, _, _, hB, h => ⟨hB, h⟩
  | (true, i) :: p, listed, a, C, hCI, inv, hB, h => by
    simp only [chkT, Bool.and_eq_true, decide_eq_true_eq] at hB
    obtain ⟨⟨⟨hin, hr⟩, hf⟩, hB'⟩ := hB
    have hr' : i ∈ Region.ready md l.toArray listed := by simpa using hr
    obtain ⟨_, o, ho, _⟩ := mem_ready.1 hr'
    have ho' : l[i]? = some o := by simpa using ho
    simp only [layOps, List.filterMap_cons, ho', Option.map_some] at h
    obtain ⟨v, hy, hK⟩ := h
    exact headT_first ho (Region.noSelect_spec hsel) hs hc hn hin (fun listed' a' C' hL => seqB_ready hL.1) p.length listed a C hCI inv (Region.free_spec ho hf) hr' hy (headT_of_walk hsel hs hc hn p _ _ _ hCI (inv.set hr' hin) hB' hK)
  | (false, i) :: p, listed, a, C, hCI, inv, hB, h => by
    simp only [chkT, Bool.and_eq_true, beq_iff_eq, decide_eq_true_eq] at hB
    obtain ⟨⟨hin, hr⟩, hB'⟩ := hB
    have hr' : i ∈ Region.ready md l.toArray listed := by rw [hr]; simp
    obtain ⟨_, o, ho, _⟩ := mem_ready.1 hr'
    have ho' : l[i]? = some o := by simpa using ho
    simp only [layOps, List.filterMap_cons, ho', Option.map_some] at h
    refine ⟨by rw [hr]; simp, fun j hj => ?_⟩
    rw [hr] at hj
    obtain rfl : j = i := by simpa using hj
    refine ⟨hin, ?_⟩
    unfold iOp
    simp only [ho]
    exact iStep_mono (fun a' C' h' => headT_of_walk hsel hs hc hn p _ _ _ h'.1 (inv.set hr' hin) hB' h'.2) (iStep_in hCI h)
/-- A region that draws its order: a head by a plan of one's own, then the forced tail. -/
theorem wp_region_lay_tail {id : Nat} {Q : Exit → Act → World → Prop} {a : Act} {w : World} {l : List Oper} (p : List (Bool × Nat)) (n : Nat) (hm : P.follows .mixedOrders = true)
    (hB : (Region.noSelect l.toArray && decide (n < l.toArray.size) && Region.sinkB .any l.toArray n && Region.chainB .any l.toArray n && (p.length == n) && chkT .any l.toArray (l.toArray.size - n) n p (Array.replicate l.toArray.size false)) = true) (hI : I w.drew)
    (h : wpI P l.toArray I (fun a' w' => wpList P l.toArray Q (l.drop n) a' w') (layOps l p) a (fun x => x = w.drew)) : (Code.region id l.toArray true).wp P Q a w := by
  simp only [Bool.and_eq_true, decide_eq_true_eq, beq_iff_eq] at hB
  obtain ⟨⟨⟨⟨⟨hsel, hn⟩, hs⟩, hc⟩, hpl⟩, hchk⟩ := hB
  have hn' : n < l.length := by simpa using hn
  have hdl : (l.drop n).length = l.toArray.size - n := by simp
  have inv0 : HeadInv .any l.toArray n (Array.replicate l.toArray.size false) :=
    ⟨by simp, fun j oj _ hl => (by rw [getD_replicate_false] at hl; cases hl), fun t _ ht => getD_in (by simpa using ht) (getD_replicate_false _ _)⟩
  have H := headT_of_walk (md := .any) (P := P) (I := I) (g := l.toArray.size - n) hsel hs hc hn p _ a (fun x => x = w.drew) (fun x hx => by rw [hx]; exact hI) inv0 hchk h
  refine wp_region_any hm ?_
  have := wpAny_of_headT (P := P) (md := .any) (ops := l.toArray) (I := I) (n := n) (Q' := Q) (g := l.toArray.size - n) (L := fun listed' a' C' => Region.seqB .any l.toArray (l.toArray.size - n) n listed' = true ∧ ∀ w, C' w → wpList P l.toArray Q (l.drop n) a' w) (fun listed a' C' w' hw' hL => by
    have := wpAny_of_seq (md := .any) (Q' := Q) (l.drop n) n listed a' w' (fun j => by simp [List.getElem?_drop]) (by rw [hdl]; exact hL.1) (hL.2 w' hw')
    rwa [hdl] at this) p.length (Array.replicate l.toArray.size false) a (fun x => x = w.drew) w.drew rfl H
  rw [hpl, show n + (l.toArray.size - n) = l.toArray.size by omega] at this
  exact this
theorem i_nil {Q : Act → World → Prop} {a : Act} {w : World} (h : Q a w) : wpI P ops I Q [] a (fun x => x = w) := fun _ e => by rw [e]; exact h
theorem i_free {Q : Act → World → Prop} {a : Act} {C : World → Prop} {o : Oper} {r : List (Bool × Oper)} (v : Value) (hw : Region.wanted o (yielded ops a.tmps) = true)
    (h : ∀ C' : World → Prop, (∀ x, C' x → I x) → ∀ w, C' w → o.quietAt P a C' w v) (hK : wpI P ops I Q r (a.put o.dst v) C) : wpI P ops I Q ((true, o) :: r) a C :=
  ⟨v, .inl ⟨hw, h⟩, hK⟩
theorem i_skip {Q : Act → World → Prop} {a : Act} {C : World → Prop} {o : Oper} {r : List (Bool × Oper)} (hw : Region.wanted o (yielded ops a.tmps) = false)
    (hK : wpI P ops I Q r (a.put o.dst undef) C) : wpI P ops I Q ((true, o) :: r) a C := ⟨undef, .inr ⟨hw, rfl⟩, hK⟩
theorem i_skip2 {Q : Act → World → Prop} {a : Act} {w : World} {o : Oper} {r : List (Bool × Oper)} (hw : Region.wanted o (yielded ops a.tmps) = false)
    (hK : wpI P ops I Q r (a.put o.dst undef) (fun x => x = w)) : wpI P ops I Q ((false, o) :: r) a (fun x => x = w) := by
  show iStep P ops I o _ a _
  unfold iStep; rw [if_neg (by rw [hw]; simp)]
  exact fun _ => hK
/-- A forced operation, in the one world that it comes up in: it may do what it will, so long as I stays. -/
theorem i_loud {Q : Act → World → Prop} {a : Act} {w : World} {o : Oper} {r : List (Bool × Oper)} (hw : Region.wanted o (yielded ops a.tmps) = true)
    (h : ∀ K : Act → World → Prop, (∀ a' w', wpI P ops I Q r a' (fun x => x = w') → K a' w') → Oper.loudAt P o a w (fun u w' => I w' ∧ K (a.put o.dst u) w')) : wpI P ops I Q ((false, o) :: r) a (fun x => x = w) := by
  show iStep P ops I o _ a _
  unfold iStep; rw [if_pos hw]
  rintro _ rfl
  refine loudUpon_mono ?_ (h (fun a' w' => wpI P ops I Q r a' (fun x => x = w')) (fun _ _ h => h))
  rintro v w' ⟨h1, h2⟩
  exact ⟨fun x => x = w', rfl, fun x hx => by rw [hx]; exact h1, fun _ => h2⟩
end
/-- All but block k lies as it lay. -/
def Grw (W : World) (k : Nat) (w : World) : Prop := W.grownBy w (some k)
theorem Grw.start (W : World) (k : Nat) : Grw W k W := World.grownBy.refl _ _
theorem Grw.drew {W w : World} {k : Nat} (h : Grw W k w) : Grw W k w.drew := grownBy_trans h ⟨rfl, rfl, rfl, Nat.le_refl _, fun _ _ _ => rfl⟩
theorem Grw.cells {W w : World} {k : Nat} (h : Grw W k w) (b o : Nat) (hb : b < W.heap.size) (hk : b ≠ k) : w.cell? ⟨b, o, none⟩ = W.cell? ⟨b, o, none⟩ := by
  exact World.cell?_of_block (w := W) (World.grownBy.block h b hb (by simpa using hk))
theorem Grw.size {W w : World} {k : Nat} (h : Grw W k w) : W.heap.size ≤ w.heap.size := World.grownBy.size h
/-- An append, as a forced operation: a row of the call's own, the element laid just now. -/
theorem loud_push {P : Program} {w : World} {o : Oper} {a : Act} {R : Value → World → Prop} (s x : Operand) (t : TypeId)
    (ho : o.op = .call { callee := .builtin .append, args := #[s, x], argTypes := #[t, t] })
    (base : Nat) (e : TypeId) (z : Value) (size bytes : Nat) (ht : P.underlying t = some (.slice e)) (hi : (P.info? e).map (fun i => (i.zero, i.size, i.bytes)) = some (some z, size, bytes)) (hzs : z.cells.size = size) (hsz : 0 < size)
    (v : Value) (n : Nat) (xs : List Value) (hs : a.eval s = v) (hown : w.ownsRow base e size v n xs) (us : List Value)
    (hx : a.eval x = .slice (some ⟨w.heap.size, 0, none⟩) 1 1) (hul : us.length = size) (h1 : ∀ u ∈ us, u.oneCell' = true)
    (h63 : n + 1 ≤ 9223372036854775807) (hbytes : (n + 1) * bytes ≤ 140737488355328) (hbase : base ≤ w.heap.size)
    (h : ∀ v' w', w'.ownsRow base e size v' (n + 1) (xs ++ us) → w.grownBy w' v.ownBlock → v' ≠ .slice none 0 0 → (∀ g', v'.ownBlock = some g' → v.ownBlock = some g' ∨ w.heap.size < g') → R v' w') : Oper.loudAt P o a (w.alloc (.cells us.toArray e)) R := by
  obtain ⟨i0, hi0, hz0, hz1, hz2⟩ := info_parts hi
  have hnews : ∀ j y, us[j]? = some y → (w.alloc (.cells us.toArray e)).cell? ((⟨w.heap.size, 0, none⟩ : Addr).add j) = some y := fun j y hj => by
    have hadd : (⟨w.heap.size, 0, none⟩ : Addr).add j = ⟨w.heap.size, j, none⟩ := by unfold Addr.add; split <;> simp_all
    rw [hadd]
    have := (Blk.new w e us.toArray).cell j
    rw [this]
    simpa using hj
  obtain ⟨v', w', hr, h2, h3, h4, h5⟩ := run_append_fresh (P := P) (w := w.alloc (.cells us.toArray e)) base t o.type e i0 z size bytes ht hi0 hz0 hz1 hz2 hzs hsz v n xs (hown.alloc _) ⟨w.heap.size, 0, none⟩ 1 1 us (by omega) hnews h1 (by unfold maxLen; omega) hbytes (by simp; omega)
  unfold Oper.loudAt execOp
  simp only [ho, resolve, invoke, builtin, Sem.run_bind, Sem.run_pure, Result.andThen_ok, List.map_toArray, List.map_cons, List.map_nil, hs, hx, hr, Oper.loudUpon]
  refine h v' w' h2 ⟨h3.os, h3.tape, h3.output, Nat.le_trans (by simp) h3.size, fun k hk hne => (h3.block k (by simp; omega) hne).trans (Below.heap_alloc w _ k hk)⟩ (fun e0 => by have := h4.1 e0; omega) (fun g' hg' => ?_)
  rcases h5 g' hg' with h6 | h6
  · exact .inl h6
  · exact .inr (by simp at h6; omega)
end Go.Proofs.YtbgmjlonbbmffaaDoor
