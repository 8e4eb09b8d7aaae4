import Derived.Test.YtakcckdnliiieaaDoorSet7
import Derived.Test.YtakcckdnliiieaaDoorSet4
namespace Go.Proofs.YtakcckdnliiieaaDoor
open Go Go.RowKit Go.Shelf
attribute [local go_sem] Oper.semAt_some
theorem boxed_stay {w w' : World} {g : Nat} {t : TypeId} {v : Value} (h : Boxed w g t v) (hb : Below w.heap.size w w') : Boxed w' g t v := (hb.block g h.lt).trans h
theorem boxed_turn {A B : World} {g : Nat} {t : TypeId} {v : Value} {row : Option Nat} (h : Boxed A g t v) (hg : A.grownBy B row) (hr : ∀ r, row = some r → ∃ o : Obj, A.heap[r]? = some o ∧ o.isCells = false) : Boxed B g t v :=
  h.kept hg (fun e => by obtain ⟨o, ho, hc⟩ := hr g e.symm; rw [show A.heap[g]? = _ from h] at ho; cases ho; cases hc)
set_option maxRecDepth 100000 in
set_option maxHeartbeats 2000000 in
theorem only_any (s : BS) (w : World) (he : Env w) :
    Calls Tryd.prog 16 #[.agg s.cells] w (Ret (.tuple #[.int .u8 (s.only.1 : Int), .bool s.only.2]) w) := by
  refine (callsIn_wide (n := 3)).1 ?_
  refine callsIn_of_wp_marks Tryd.func16 rfl trivial ?_ rfl
  simp only [Tryd.ntmps16, List.size_toArray, List.length_cons, List.length_nil, Nat.reduceAdd, Nat.reduceSub, Array.replicate_succ, Array.replicate_zero, List.push_toArray, List.append_toArray, List.nil_append, List.cons_append]
  have hX0 := Blk.new w 24 s.cells
  obtain ⟨w1, hw1⟩ : ∃ w1, ((w.alloc (.cells s.cells 24)).alloc (.cells #[.int .u8 0] 5)).alloc (.cells #[.bool false] 4) = w1 := ⟨_, rfl⟩
  have hb1 : Below w.heap.size w w1 := by rw [← hw1]; (repeat' first | exact Below.refl _ _ | assumption | refine Below.alloc ?_ (by simp <;> omega) _ | refine Below.setCell ?_ (by simp <;> omega) _ | refine Below.drew ?_)
  have hX1 : Blk w1 w.heap.size 24 s.cells := by rw [← hw1]; exact (hX0.alloc _).alloc _
  have hR1 : Boxed w1 (w.heap.size + 1) 5 (.int .u8 0) := by
    rw [← hw1]; have := Boxed.new (w.alloc (.cells s.cells 24)) 5 (.int .u8 0)
    rw [World.size_alloc] at this; exact this.alloc _
  have hT1 : Boxed w1 (w.heap.size + 1 + 1) 4 (.bool false) := by
    rw [← hw1]; have := Boxed.new ((w.alloc (.cells s.cells 24)).alloc (.cells #[.int .u8 0] 5)) 4 (.bool false)
    rw [World.size_alloc, World.size_alloc] at this; exact this
  have hs1 : w1.heap.size = w.heap.size + 3 := by rw [← hw1]; simp
  have he1 : Env w1 := he.below hb1 he.1
  have hc1 := hX1.cell
  by_cases h : s.len = 1
  case neg =>
    rw [BS.only_no h]
    have h2 : ((s.len : Int) != 1) = true := by rw [bne_iff_ne]; omega
    gi_wp2_with ((try rw [hw1]); first | (refine ⟨trivial, ?_⟩; gi_at_call 24; refine (callsIn_wide.2 (len_any s _)).mono ?_; rintro e w2 ⟨rfl, hb2⟩; clear hw1; have hR2 := boxed_stay hR1 hb2; have hT2 := boxed_stay hT1 hb2; have hcR := hR2.cell; have hfR := hR2.frozen; have hcT := hT2.cell; have hfT := hT2.frozen))
    have hb2' : Below w.heap.size w w2 := hb1.trans (hb2.mono hb1.size)
    refine ⟨.tuple #[.int .u8 0, .bool false], ?_, rfl, (hb2'.setCell (p := ⟨w.heap.size + 1, 0, none⟩) (by simp) _).setCell (p := ⟨w.heap.size + 1 + 1, 0, none⟩) (by simp; omega) _⟩
    have hR3 := hR2.set (.int .u8 0)
    have hT3 := (hT2.other (B' := w.heap.size + 1) (by omega) (.int .u8 0)).set (.bool false)
    have hR4 := hR3.cell
    have hT4 := hT3.cell
    simp [results, Tryd.f16, go_sem, hR4, hT4]
  obtain ⟨n, hl, hn, ho⟩ := BS.only_yes h
  rw [ho]
  have h2 : ((s.len : Int) != 1) = false := by rw [h]; rfl
  have hbytes : s.bytes = [UInt8.ofNat n] := by unfold BS.bytes; rw [hl]; rfl
  gi_wp2_with ((try rw [hw1]); first | (refine ⟨trivial, ?_⟩; gi_at_call 24; refine (callsIn_wide.2 (len_any s _)).mono ?_; rintro e w2 ⟨rfl, hb2⟩; clear hw1; have hX2 := hX1.stay hb2; have hc2 := hX2.cell) | (refine ⟨trivial, ?_⟩; gi_at_call 59; refine (callsIn_wide.2 (each_any s _)).mono ?_; rintro e w4 ⟨rfl, rfl⟩))
  have hR2 := boxed_stay hR1 hb2
  have hT2 := boxed_stay hT1 hb2
  obtain ⟨W0, hW0⟩ : ∃ W0, w2.alloc (.cells s.cells 24) = W0 := ⟨_, rfl⟩
  have hs2 := hb2.size
  rw [hs1] at hs2
  have hB0 : Below w.heap.size w W0 := by rw [← hW0]; exact (hb1.trans (hb2.mono hb1.size)).alloc (by omega) _
  have hR0 : Boxed W0 (w.heap.size + 1) 5 (.int .u8 0) := by rw [← hW0]; exact hR2.alloc _
  have hT0 : Boxed W0 (w.heap.size + 1 + 1) 4 (.bool false) := by rw [← hW0]; exact hT2.alloc _
  have hX0 : Blk W0 w2.heap.size 24 s.cells := by rw [← hW0]; exact Blk.new _ _ _
  have he0 : Env W0 := he.below hB0 he.1
  have hsz0 : W0.heap.size = w2.heap.size + 1 := by rw [← hW0]; simp
  rw [hW0]
  clear hW0 hX1 he1 hc1 hb2 hR1 hT1 hb1 hX2 hc2
  refine wpIn_rangeFunc_ownF rfl (by omega) (gf := 74) (lb := #[.pointer (some ⟨w2.heap.size, 0, none⟩)]) rfl trivial (enters_of Tryd.func74 (by kernel_rfl) rfl)
    (each_stops 2 (by omega) w2.heap.size w.heap.size s W0 he.1 hX0 he0) belowK_t (belowK_b (by omega)) (Below.refl _ _) (fun _ => rfl)
    (fun pre W => (pre = [] ∧ Boxed W (w.heap.size + 1) 5 (.int .u8 0) ∧ Boxed W (w.heap.size + 1 + 1) 4 (.bool false)) ∧ Below w.heap.size w W)
    (fun c pre W => (c = .ret ∧ ∃ x, x ∈ pre ∧ Boxed W (w.heap.size + 1) 5 (nb x.toNat) ∧ Boxed W (w.heap.size + 1 + 1) 4 (.bool true)) ∧ Below w.heap.size w W)
    (OwnFrom.and (Own.from (fun _ _ _ _ hs hg hr => ⟨hs.1, boxed_turn hs.2.1 hg hr, boxed_turn hs.2.2 hg hr⟩) _) (ownFrom_below (Nat.le_refl _) (by omega)))
    (fun c => OwnFrom.and (Own.from (fun _ _ _ _ hs hg hr => ⟨hs.1, hs.2.choose, hs.2.choose_spec.1, boxed_turn hs.2.choose_spec.2.1 hg hr, boxed_turn hs.2.choose_spec.2.2 hg hr⟩) _) (ownFrom_below (Nat.le_refl _) (by omega)))
    ⟨⟨rfl, hR0, hT0⟩, hB0⟩
    (fun x => { tmps := #[Value.agg s.cells, Value.pointer (some { block := w.heap.size, off := 0 }),
          Value.pointer (some { block := w.heap.size + 1, off := 0 }),
          Value.pointer (some { block := w.heap.size + 1 + 1, off := 0 }), nb x.toNat, Value.agg s.cells,
          Value.int IntKind.i64 1, Value.bool false, Value.agg s.cells,
          Value.func (Fn.func 74) #[] #[Value.pointer (some { block := w2.heap.size, off := 0 })], nb x.toNat, undef], defers := [] }) ?assign ?body ?done ?stop
  case assign =>
    intro l x W K hK
    gi_wp2
    exact hK
  case body =>
    rintro l pre x W ⟨⟨rfl, hR, hT⟩, hB⟩ hlt
    have hcR := hR.cell
    have hfR := hR.frozen
    have hcT := hT.cell
    have hfT := hT.frozen
    dsimp only [nb]
    gi_wp2
    have hR3 := hR.set (nb x.toNat)
    have hT3 := (hT.other (B' := w.heap.size + 1) (by omega) (nb x.toNat)).set (.bool true)
    have hR4 := hR3.other (B' := w.heap.size + 1 + 1) (by omega) (.bool true)
    exact ⟨(KeepsOthers.setCell _ _ _).trans (KeepsOthers.setCell _ _ _), ⟨rfl, x, by simp, hR4, hT3⟩, (hB.setCell (p := ⟨w.heap.size + 1, 0, none⟩) (by simp) _).setCell (p := ⟨w.heap.size + 1 + 1, 0, none⟩) (by simp; omega) _⟩
  case done =>
    rintro D ys W hD rfl ⟨⟨h0, _⟩, hB⟩ hK
    rw [hbytes] at h0; cases h0
  case stop =>
    rintro D c pre W hD hpre ⟨⟨rfl, x, hx, hR, hT⟩, hB⟩ hK
    gi_wp2
    refine ⟨by simp, .inl ⟨_, _, rfl, run_takeDeferred hK, ?_⟩⟩
    have hR2 := (boxed_turn hR (grownBy_putObj' _ D (.deferred none)) (fun r e => by cases e; exact ⟨_, hK, rfl⟩)).cell
    have hT2 := (boxed_turn hT (grownBy_putObj' _ D (.deferred none)) (fun r e => by cases e; exact ⟨_, hK, rfl⟩)).cell
    have hxn : x.toNat = n := by
      have := hpre.subset hx
      rw [hbytes] at this; simp at this; subst this; simp; omega
    refine ⟨.tuple #[.int .u8 (n : Int), .bool true], ?_, rfl, hB.trans (belowK_b (w := w) (Nat.le_refl _) W D _ _ (by omega) hK rfl rfl)⟩
    rw [hxn] at hR2
    simp [results, Tryd.f16, go_sem, hR2, hT2, nb]
end Go.Proofs.YtakcckdnliiieaaDoor
