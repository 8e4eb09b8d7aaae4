/- A range over a function whose iterator writes one block of its own accord between two rounds (a reader that moves on). Over any program. -/
import Derived.RangeFuncWrites
import Derived.RangeFuncNested
import Derived.Test.YtakcckdnliiieaaDoorReg
namespace Go.Proofs.YtakcckdnliiieaaDoor
open Go Go.RowKit
variable {F : Fence} {n : Nat} {P : Program}
/-- An iterator that owns block gr's content: R where a round may begin, R1 where it hands x to the body, E where it ends. -/
def SeqRd {α : Type} (F : Fence) (n : Nat) (P : Program) (gf : Nat) (lb : Array Value) (encs : α → Array Value) (gr : Nat) (R : List α → World → Prop) (R1 : List α → α → World → Prop) (E : List α → World → Prop) : Prop :=
  ∀ (l : Nat) (U Ux : List α → World → Prop) (W : World), (∀ s A B, U s A → A.grownBy B (some gr) → U s B) →
    (∀ pre x A, U pre A → R1 pre x A → YieldAt F (n - 1) P l (encs x) A fun e B =>
      (e = .returned (.bool true) ∧ U (pre ++ [x]) B ∧ R (pre ++ [x]) B) ∨ (e = .returned (.bool false) ∧ Ux (pre ++ [x]) B)) →
    U [] W → R [] W →
    CallsIn F n P gf (#[.func (.yield l) #[] #[]] ++ lb) W fun e B => (∃ v, e = .returned v) ∧ ((∃ xs, U xs B ∧ E xs B) ∨ (∃ pre, Ux pre B))
theorem wpIn_rangeFunc_rd {α : Type} {g : Operand} {ps : Array Tmp} {assign body : Code} {Q : Exit → Act → World → Prop} {a : Act} {w : World}
    (hro : F.round = none) (h1 : 1 ≤ n) {gf : Nat} {lb : Array Value} (hg : a.eval g = .func (.func gf) #[] lb) (hFg : F.fn gf) (eg : ∀ args w, (callFunc gf args).run P w = .ok (.enter gf args) w)
    {encs : α → Array Value} {gr : Nat} {R : List α → World → Prop} {R1 : List α → α → World → Prop} {E : List α → World → Prop} (hgr : gr < w.heap.size)
    (hseq : SeqRd F (n - 1) P gf lb encs gr R R1 E) (hps : ∀ x, (encs x).size = ps.size)
    (U : List α → World → Prop) (Ux : Code → List α → World → Prop) (hU : OwnFrom w.heap.size U) (hUg : ∀ s A B, U s A → A.grownBy B (some gr) → U s B) (hUx : ∀ c, OwnFrom w.heap.size (Ux c))
    (hR : OwnFrom w.heap.size R) (hR1 : OwnFrom w.heap.size (fun p : List α × α => R1 p.1 p.2)) (hE : OwnFrom w.heap.size E) (h0 : U [] w) (hR0 : R [] w) (a₁ : α → Act)
    (hassign : ∀ (l : Nat) (x : α) (W : World) (K : Act → World → Prop), K (a₁ x) W →
      assign.wpIn (F.inRound l) (n - 1 - 1) P (Exit.then K (fun _ _ _ => False)) { tmps := (ps.zip (encs x)).foldl (fun t (p, v) => t.setIfInBounds p v) a.tmps, defers := [] } W)
    (hbody : ∀ (l : Nat) (pre : List α) (x : α) (W : World), U pre W → R1 pre x W → body.wpIn (F.inRound l) (n - 1 - 1) P (ownPostG w.heap.size (fun _ _ => True) (fun s W => U s W ∧ R s W) Ux (pre ++ [x]) W) (a₁ x) W)
    (hdone : ∀ (D : Nat) (xs : List α) (W : World), w.heap.size ≤ D → U xs W → E xs W → W.heap[D]? = some (.deferred (some [])) → Q .normal { a with defers := { target := .collected D, args := #[] } :: a.defers } W)
    (hstop : ∀ (D : Nat) (c : Code) (pre : List α) (W : World), w.heap.size ≤ D → Ux c pre W → W.heap[D]? = some (.deferred (some [])) → c.wpIn F n P Q { a with defers := { target := .collected D, args := #[] } :: a.defers } W) :
    (Code.rangeFunc g ps assign body).wpIn F n P Q a w := by
  -- the loop's record and the block for the rounds' deferred calls, behind all that lay
  obtain ⟨D, hD⟩ : ∃ D, D = w.heap.size := ⟨_, rfl⟩
  refine wpIn_rangeFunc fun fn hfn => ?_
  rw [hro]
  obtain ⟨rec, hrec⟩ : ∃ rec : LoopState → Option Code → Loop, rec = fun st pe => { state := st, pending := pe, fn, tmps := a.tmps, params := ps, assign, body, defers := w.heap.size } := ⟨_, rfl⟩
  obtain ⟨V, hV⟩ : ∃ V, (w.alloc (.deferred (some []))).alloc (.loop (rec .ready none)) = V := ⟨_, rfl⟩
  have stay : ∀ {β : Type} {I : β → World → Prop}, OwnFrom w.heap.size I → ∀ s, I s w → I s V := fun h s hs => hV ▸ h.alloc _ (h.alloc _ hs)
  have vD : V.heap[D]? = some (.deferred (some [])) := by rw [← hV, hD]; exact (Below.heap_alloc _ _ _ (by simp)).trans (World.alloc_heap_new w _)
  have vL : V.heap[D + 1]? = some (.loop (rec .ready none)) := by
    rw [← hV, hD]; have := World.alloc_heap_new (w.alloc (.deferred (some []))) (.loop (rec .ready none)); rwa [World.size_alloc] at this
  refine ⟨w.heap.size + 1, [{ target := .collected w.heap.size, args := #[] }], V, { target := .fn (.func gf) lb, args := #[.func (.yield (w.heap.size + 1)) #[] #[]] }, V, gf,
    #[.func (.yield (w.heap.size + 1)) #[] #[]] ++ lb, V, ?enter, ?res, ?leads, ?inv, fun _ => h1, ?call⟩
  case enter => rw [← hV, hrec]; exact run_enterLoop_outer _ _ _ _ _
  case res =>
    simp only [resolve, hg]
    simp [go_sem]
  case leads => intro f' hf'; simp [Target.leads] at hf'; subst hf'; exact hFg
  case inv => simp [invoke, go_sem, eg]
  case call =>
    rw [← hD]
    -- what the iterator carries for us: the body's word, the two blocks
    have gone : ∀ {A B : World} {k : Nat} {o : Obj}, A.grownBy B (some gr) → D ≤ k → A.heap[k]? = some o → B.heap[k]? = some o := fun {A B k o} hg' hk hA =>
      (hg'.block k (Array.getElem?_eq_some_iff.1 hA).1 (fun e => by cases e; omega)).trans hA
    have key := hseq (D + 1) (fun s W => U s W ∧ W.heap[D + 1]? = some (.loop (rec .ready none)) ∧ W.heap[D]? = some (.deferred (some [])))
      (fun s W => ∃ c, Ux c s W ∧ W.heap[D + 1]? = some (.loop (rec .done (some c))) ∧ W.heap[D]? = some (.deferred (some []))) V
      (fun s A B hs hg' => ⟨hUg s A B hs.1 hg', gone hg' (by omega) hs.2.1, gone hg' (Nat.le_refl _) hs.2.2⟩) ?round ⟨stay hU _ h0, vL, vD⟩ (stay hR _ hR0)
    case round =>
      rintro pre x A ⟨hu, hl, hk⟩ hr1
      have hlt : D + 1 < A.heap.size := (Array.getElem?_eq_some_iff.1 hl).1
      have hy := run_yield (P := P) (args := encs x) hl (by rw [hrec]; exact hps x)
      rw [hrec] at hy
      refine ⟨fn, _, assign, body, hy, roundIn_of_wpIn hfn (hassign _ x A _ ⟨_, run_beginRound hl (by rw [hrec]), ?_⟩)⟩
      obtain ⟨A2, hA2⟩ : ∃ A2, A.putObj (D + 1) (.loop { rec .ready none with state := .busy }) = A2 := ⟨_, rfl⟩
      have b1 : A2.heap[D + 1]? = some (.loop { rec .ready none with state := .busy }) := by rw [← hA2]; exact World.putObj_heap_same hlt
      have b2 : A2.heap[D]? = some (.deferred (some [])) := by rw [← hA2]; exact (World.putObj_heap_other (by omega)).trans hk
      have u2 : U pre A2 := by rw [← hA2]; exact hU.putObj _ hu (by omega) hl rfl
      have r2 : R1 pre x A2 := by rw [← hA2]; exact OwnFrom.putObj (s := (pre, x)) hR1 _ hr1 (by omega) hl rfl
      have fin : ∀ (jump : Option Code) (B : World), KeepsFrom w.heap.size A2 B →
          (Instr.endRound (D + 1) jump).run P B = .ok (.bool jump.isNone) (B.putObj (D + 1) (.loop (rec (if jump.isNone then .ready else .done) jump))) ∧
          B.heap[D + 1]? = some (.loop { rec .ready none with state := .busy }) ∧
          (B.putObj (D + 1) (.loop (rec (if jump.isNone then .ready else .done) jump))).heap[D + 1]? = some (.loop (rec (if jump.isNone then .ready else .done) jump)) ∧
          (B.putObj (D + 1) (.loop (rec (if jump.isNone then .ready else .done) jump))).heap[D]? = some (.deferred (some [])) := fun jump B hB => by
        have c1 := hB.same _ _ (by omega) b1 rfl
        have c2 := hB.same _ _ (by omega) b2 rfl
        have := run_endRound (P := P) jump c1
        rw [hrec] at this c1 ⊢
        exact ⟨this, c1, World.putObj_heap_same (Array.getElem?_eq_some_iff.1 c1).1, (World.putObj_heap_other (by omega)).trans c2⟩
      rw [hA2]
      refine wpIn_mono (hbody _ pre x A2 u2 r2) ?_
      rintro e a3 B hp
      cases e with
      | normal =>
        obtain ⟨hB, _, hu3, hr3⟩ := hp
        obtain ⟨hrun, c1, c3, c4⟩ := fin none B hB
        exact ⟨_, _, hrun, .inl ⟨rfl, ⟨hU.putObj _ hu3 (by omega) c1 rfl, c3, c4⟩, hR.putObj _ hr3 (by omega) c1 rfl⟩⟩
      | ret =>
        obtain ⟨hB, hx3⟩ := hp
        obtain ⟨hrun, c1, c3, c4⟩ := fin (some .ret) B hB
        exact ⟨_, _, hrun, .inr ⟨rfl, .ret, (hUx _).putObj _ hx3 (by omega) c1 rfl, c3, c4⟩⟩
      | exit id =>
        obtain ⟨hB, hx3⟩ := hp
        obtain ⟨hrun, c1, c3, c4⟩ := fin (some (.exit id)) B hB
        exact ⟨_, _, hrun, .inr ⟨rfl, .exit id, (hUx _).putObj _ hx3 (by omega) c1 rfl, c3, c4⟩⟩
      | goto t =>
        obtain ⟨hB, hx3⟩ := hp
        obtain ⟨hrun, c1, c3, c4⟩ := fin (some (.goto t)) B hB
        exact ⟨_, _, hrun, .inr ⟨rfl, .goto t, (hUx _).putObj _ hx3 (by omega) c1 rfl, c3, c4⟩⟩
      | panic ch => exact hp.elim
      | outgrown => exact hp.elim
    subst hD
    refine key.mono ?_
    rintro e B ⟨⟨v, rfl⟩, (⟨xs, ⟨hu, hl, hk⟩, hend⟩ | ⟨pre, c, hx, hl, hk⟩)⟩
    · exact ⟨none, _, by have := run_endLoop (P := P) hl (by rw [hrec]; simp); rw [hrec] at this; exact this,
        hdone _ xs _ (Nat.le_refl _) (hU.putObj _ hu (by omega) hl rfl) (hE.putObj _ hend (by omega) hl rfl) ((World.putObj_heap_other (by omega)).trans hk)⟩
    · exact ⟨some c, _, by have := run_endLoop (P := P) hl (by rw [hrec]; simp); rw [hrec] at this; exact this,
        hstop _ c pre _ (Nat.le_refl _) ((hUx c).putObj _ hx (by omega) hl rfl) ((World.putObj_heap_other (by omega)).trans hk)⟩
end Go.Proofs.YtakcckdnliiieaaDoor
