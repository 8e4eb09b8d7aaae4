import Derived.Test.YtakcckdnliiieaaDoorSet7
import Derived.Test.YtakcckdnliiieaaDoorSet4
import Derived.Lib.Strings
namespace Go.Proofs.YtakcckdnliiieaaDoor
open Go Go.RowKit Go.Shelf
attribute [local go_sem] Oper.quietAt Oper.quietUpon
theorem list_str (s : BS) (A : ByteArray) (hA : A = ⟨s.bytes.toArray⟩) (w : World) (he : Env w) : Calls Tryd.prog 26 #[.agg s.cells] w (Ret (.string A) w) := by
  subst hA; exact list_any s w he
set_option maxRecDepth 100000 in
set_option maxHeartbeats 2000000 in
theorem compare_any (s t : BS) (w : World) (he : Env w) :
    Calls Tryd.prog 34 #[.agg s.cells, .agg t.cells] w (Ret (.int .i64 (s.cmp t)) w) := by
  obtain ⟨A, hA⟩ : ∃ A : ByteArray, A = ⟨s.bytes.toArray⟩ := ⟨_, rfl⟩
  obtain ⟨B, hB⟩ : ∃ B : ByteArray, B = ⟨t.bytes.toArray⟩ := ⟨_, rfl⟩
  have HA := Lib.hid hA
  have HB := Lib.hid hB
  have h3 : s.cmp t = -1 ∨ s.cmp t = 0 ∨ s.cmp t = 1 := cmpL_three s.bytes t.bytes
  have hl : Op.bytesLess A.toList B.toList = decide (s.cmp t = -1) := by
    rw [Lib.toList_data, Lib.toList_data, cmpL_lt, hA, hB]; rfl
  have hg : (A.toList == B.toList) = decide (s.cmp t = 0) := by
    rw [Lib.toList_data, Lib.toList_data, hA, hB, Bool.eq_iff_iff]
    simp only [beq_iff_eq, decide_eq_true_eq]
    exact (cmpL_eq _ _).symm
  clear hA hB
  have he2 : Env ((w.alloc (.cells s.cells 24)).alloc (.cells t.cells 24)) := (he.alloc _).alloc _
  generalize s.cmp t = c at *
  go_enter Tryd.func34, Tryd.ntmps34
  go_upto_region 1 with (fail)
  (refine wp_region_quiet_all (C := Lies _) (by kernel_rfl) (by kernel_rfl) (Lies.drew (Lies.start _)) ?_; (repeat (first | (refine quiet_skip rfl ?_; simp only [Act.put, List.setIfInBounds_toArray, List.set_cons_zero, List.set_cons_succ]) | (apply quiet_op _ rfl; (focus (intro w1 hw1; have hc1 := hw1.cells; go_simp; (try go_bits); (try (rw [if_pos (by omega)]; go_simp)); first | (go_at_call 26; with_reducible exact Calls.lies hw1 (list_str s A HA.out _ (he2.lies hw1))) | (go_at_call 26; with_reducible exact Calls.lies hw1 (list_str t B HB.out _ (he2.lies hw1))) | (go_at_call 26; exact Calls.lies hw1 (list_str s A HA.out _ (he2.lies hw1))) | (go_at_call 26; exact Calls.lies hw1 (list_str t B HB.out _ (he2.lies hw1))) | rfl)); simp only [Act.put, List.setIfInBounds_toArray, List.set_cons_zero, List.set_cons_succ]))); refine wpQuiet_nil ?_; intro w2 hw2)
  have hb2 : Below w.heap.size w w2 := Lies.below hw2 (by simp <;> omega) (by (repeat' first | exact Below.refl _ _ | assumption | refine Below.alloc ?_ (by simp <;> omega) _ | refine Below.setCell ?_ (by simp <;> omega) _ | refine Below.drew ?_))
  clear hw2
  rcases h3 with rfl | rfl | rfl <;> simp only [decide_true, show decide ((0 : Int) = -1) = false from rfl, show decide ((1 : Int) = -1) = false from rfl, show decide ((-1 : Int) = 0) = false from rfl, show decide ((1 : Int) = 0) = false from rfl] at hl hg <;> (go_wp2; go_ret; exact ⟨rfl, hb2⟩)
end Go.Proofs.YtakcckdnliiieaaDoor
