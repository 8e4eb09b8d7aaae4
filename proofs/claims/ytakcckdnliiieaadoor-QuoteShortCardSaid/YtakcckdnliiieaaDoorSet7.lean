import Derived.Test.YtakcckdnliiieaaDoorSet6
import Derived.Maps.AppendAt
import Derived.Laws.MakeOwn
namespace Go.Proofs.YtakcckdnliiieaaDoor
open Go Go.RowKit Go.Shelf
attribute [local go_sem] Oper.semAt_some
theorem ownsRow_mono {w : World} {b b' : Nat} {e : TypeId} {size : Nat} {v : Value} {n : Nat} {xs : List Value} (h : w.ownsRow b e size v n xs) (hb : b' ≤ b) : w.ownsRow b' e size v n xs := by
  refine ⟨h.1, ?_⟩
  rcases h.2 with h0 | ⟨g, cap, cur, h1, h2, h3⟩
  · exact .inl h0
  · exact .inr ⟨g, cap, cur, h1, Nat.le_trans hb h2, h3⟩
set_option maxRecDepth 100000 in
set_option maxHeartbeats 2000000 in
theorem list_any (s : BS) (w : World) (he : Env w) :
    Calls Tryd.prog 26 #[.agg s.cells] w (Ret (strV s.bytes) w) := by
  refine (callsIn_wide (n := 3)).1 ?_
  obtain ⟨i0, hi, hz0, hz1, hz2⟩ := info_parts Tryd.info5
  have hX1 := Blk.new w 24 s.cells
  have he1 := he.alloc (.cells s.cells 24)
  have hlen := BS.len_le s
  refine callsIn_of_wp_marks Tryd.func26 rfl trivial ?_ rfl
  simp only [Tryd.ntmps26, List.size_toArray, List.length_cons, List.length_nil, Nat.reduceAdd, Nat.reduceSub, Array.replicate_succ, Array.replicate_zero, List.push_toArray, List.append_toArray, List.nil_append, List.cons_append]
  have hc1 := hX1.cell
  gi_wp2_with (first | (refine ⟨trivial, ?_⟩; gi_at_call 24; refine (callsIn_wide.2 (len_any s _)).mono ?_; rintro e w2 ⟨rfl, hb2⟩; have hX2 := hX1.stay hb2; have he2 := he1.lies hb2; obtain ⟨w3, hmk, hown3, hg3⟩ := run_make_own (P := Tryd.prog) w2 (w.heap.size + 1) 41 5 i0 (.int .u8 0) 1 Tryd.underlying41 hi hz0 hz1 .i64 .i64 s.len (by rw [hz2]; omega) (by unfold maxLen; omega) (by have := hb2.size; simp at this; omega); have hX3 : Blk w3 w.heap.size 24 s.cells := hX2.grown hg3 (by simp); have hc3 := (hX3.alloc (.cells #[.slice (some ⟨w2.heap.size, 0, none⟩) 0 s.len] 41)).cell; have hl2 := hX2.lt; have hs3 := hg3.size) | (refine ⟨trivial, ?_⟩; gi_at_call 59; refine (callsIn_wide.2 (each_any s _)).mono ?_; rintro e w4 ⟨rfl, rfl⟩))
  obtain ⟨W0, hW0⟩ : ∃ W0, (w3.alloc (Obj.cells #[Value.slice (some { block := w2.heap.size, off := 0 }) 0 s.len] 41)).alloc (Obj.cells s.cells 24) = W0 := ⟨_, rfl⟩
  have hs2 := hb2.size
  simp at hs2
  have hlb : w.heap.size ≤ w3.heap.size := by omega
  have hB0 : Below w.heap.size w W0 := by
    rw [← hW0]
    exact (((((Below.refl _ w).alloc (Nat.le_refl _) _).trans (hb2.mono (by simp))).grown hg3 (by omega) (by simp)).alloc hlb _).alloc (by simp; omega) _
  have hv0 : Boxed W0 w3.heap.size 41 (.slice (some ⟨w2.heap.size, 0, none⟩) 0 s.len) := by rw [← hW0]; exact (Boxed.new _ _ _).alloc _
  have hrow0 : W0.ownsRow w.heap.size 5 1 (.slice (some ⟨w2.heap.size, 0, none⟩) 0 s.len) 0 [] := by rw [← hW0]; exact ((ownsRow_mono hown3 (by omega)).alloc _).alloc _
  have hX0 : Blk W0 (w3.heap.size + 1) 24 s.cells := by
    rw [← hW0]
    have := Blk.new (w3.alloc (Obj.cells #[Value.slice (some { block := w2.heap.size, off := 0 }) 0 s.len] 41)) 24 s.cells
    rwa [World.size_alloc] at this
  have he0 : Env W0 := he.below hB0 he.1
  have hsz0 : W0.heap.size = w3.heap.size + 2 := by rw [← hW0]; simp
  rw [hW0]
  clear hW0 hX1 he1 hc1 hb2 hX2 hmk hown3 hg3 hX3 hc3 hl2 hs3 he2
  refine wpIn_rangeFunc_ownF rfl (by omega) (gf := 74) (lb := #[.pointer (some ⟨w3.heap.size + 1, 0, none⟩)]) rfl trivial (enters_of Tryd.func74 (by kernel_rfl) rfl)
    (each_stops 2 (by omega) (w3.heap.size + 1) w.heap.size s W0 he.1 hX0 he0) belowK_t (belowK_b (by omega)) (Below.refl _ _) (fun _ => rfl)
    (fun pre W => (∃ v, Boxed W w3.heap.size 41 v ∧ W.ownsRow w.heap.size 5 1 v pre.length (pre.map fun x => nb x.toNat) ∧ True) ∧ Below w.heap.size w W)
    (fun _ _ _ => False)
    (OwnFrom.and (Own.from (holdsRow_own w.heap.size w3.heap.size 41 5 1 (fun pre : List UInt8 => pre.length) (fun pre => pre.map fun x => nb x.toNat) (fun _ _ => True)) _) (ownFrom_below (Nat.le_refl _) (by omega)))
    (fun _ _ _ _ _ hs _ _ => hs)
    ⟨⟨_, hv0, hrow0, trivial⟩, hB0⟩
    (fun x => { tmps := #[Value.agg s.cells, Value.pointer (some { block := w.heap.size, off := 0 }), Value.string { data := #[] },
          Value.pointer (some { block := w3.heap.size, off := 0 }), nb x.toNat, Value.agg s.cells,
          Value.int IntKind.i64 ↑s.len, Value.slice (some { block := w2.heap.size, off := 0 }) 0 s.len,
          Value.agg s.cells,
          Value.func (Fn.func 74) #[] #[Value.pointer (some { block := w3.heap.size + 1, off := 0 })], nb x.toNat, undef,
          undef, undef, undef, undef, undef], defers := [] }) ?assign ?body ?done ?stop
  case assign =>
    intro l x W K hK
    gi_wp2
    exact hK
  case body =>
    rintro l pre x W ⟨⟨v, hv, hrow, _⟩, hB⟩ hlt
    have hc := hv.cell
    have hle := BS.bytes_length s
    dsimp only [nb]
    gi_wp2_with (gi_at_builtin; refine wpListIn_append_own _ rfl _ _ 41 rfl w.heap.size 5 i0 (.int .u8 0) 1 1 Tryd.underlying41 hi hz0 hz1 hz2 rfl (by decide) _ _ _ rfl (hrow.alloc _) ⟨W.heap.size, 0, none⟩ 1 1 [nb x.toNat] rfl rfl (cell_one_new _ _ _) (by simp [Value.oneCell', nb]) (by unfold maxLen; omega) (by omega) (by have := hB.size; simp; omega) ?_; intro v' w1 hown' hgrow _; obtain ⟨g', cap', rfl⟩ := ownsRow_succ hown'; obtain ⟨hv1, hv2, hr2, hk2, hb2⟩ := hv.appended (by decide) hrow hB.size (by omega) hown' hgrow; have hc1 := hv1.cell; have hf1 := hv1.frozen)
    exact ⟨hk2, hb2, ⟨_, hv2, by simpa [nb] using hr2, trivial⟩, hB.trans hb2⟩
  case done =>
    rintro D ys W hD rfl ⟨⟨v, hv, hrow, _⟩, hB⟩ hK
    have hc := hv.cell
    have hrow' : W.ownsRow w.heap.size 5 1 v s.bytes.length ((s.bytes.map UInt8.toNat).map nb) := by rw [List.map_map]; exact hrow
    have hcv := run_convert_own (P := Tryd.prog) (s.bytes.map UInt8.toNat) Tryd.underlying41 Tryd.underlying5 Tryd.underlying9 hrow'
    rw [List.map_map, show (UInt8.ofNat ∘ UInt8.toNat) = id from funext fun x => by simp, List.map_id] at hcv
    gi_wp2
    refine ⟨by simp, .inl ⟨_, _, rfl, run_takeDeferred hK, ?_⟩⟩
    exact ⟨_, results_tmp rfl _ _ _, rfl, hB.trans (belowK_b (w := w) (Nat.le_refl _) W D _ _ (by omega) hK rfl rfl)⟩
  case stop =>
    rintro D c pre W _ _ h _
    exact h.elim
end Go.Proofs.YtakcckdnliiieaaDoor
