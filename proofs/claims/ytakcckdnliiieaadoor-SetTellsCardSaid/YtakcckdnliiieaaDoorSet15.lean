/- SetTells. -/
import Derived.Test.YtakcckdnliiieaaDoorSet14
namespace Go.Proofs.YtakcckdnliiieaaDoor
open Go Go.RowKit
attribute [local go_sem] Oper.quietAt Oper.quietUpon Oper.loudAt Oper.loudUpon
set_option maxRecDepth 100000 in
set_option maxHeartbeats 8000000 in
theorem tells_any (A : ByteArray) (a b : Nat) (s : BS) (ha : a < 256) (hb : b < 256) (hA : A.size ≤ 140737488351232) (w : World) (he : Env w) :
    Calls Tryd.prog 3 #[.string A, .int .u8 (a : Int), .int .u8 (b : Int), .agg s.cells] w (Ret (.bool true) w) := by
  obtain ⟨L, hL⟩ : ∃ A : ByteArray, A = ⟨s.bytes.toArray⟩ := ⟨_, rfl⟩
  obtain ⟨W0, hW0⟩ : ∃ W0, w.alloc (.cells s.cells 24) = W0 := ⟨_, rfl⟩
  have hS0 : Blk W0 w.heap.size 24 s.cells := by rw [← hW0]; exact Blk.new w 24 _
  have hB0 : Below w.heap.size w W0 := by rw [← hW0]; (repeat' first | exact Below.refl _ _ | assumption | refine Below.alloc ?_ (by simp <;> omega) _ | refine Below.setCell ?_ (by simp <;> omega) _ | refine Below.drew ?_)
  have he0 : Env W0 := he.below hB0 he.1
  have hcS0 := hS0.cell
  have HL := Lib.hid hL
  clear hL
  by_cases h : 5000 < A.size
  · have hd : decide ((5000 : Int) < (A.size : Int)) = true := by simp; omega
    go_enter Tryd.func3, Tryd.ntmps3
    go_upto_region 1 with (fail)
    clear hW0
    go_wp2_with (go_at_call 15; refine (awake_any _ he0).mono ?_; rintro e w2 ⟨rfl, hw2⟩)
    go_ret
    exact ⟨rfl, Lies.below hw2 hB0.size hB0⟩
  · have hd : decide ((5000 : Int) < (A.size : Int)) = false := by simp; omega
    obtain ⟨n, hn⟩ : ∃ n, n = s.only.1 := ⟨_, rfl⟩
    obtain ⟨v, hv⟩ : ∃ v, v = s.only.2 := ⟨_, rfl⟩
    have k1 : ∀ w, Env w → Calls Tryd.prog 16 #[.agg s.cells] w (Ret (.tuple #[.int .u8 (n : Int), .bool v]) w) := by rw [hn, hv]; exact only_any s
    have k2 : ∀ w, Calls Tryd.prog 17 #[.agg s.cells] w (Ret (.tuple #[.int .u8 (n : Int), .bool v]) w) := by rw [hn, hv]; exact refOnly_any s
    clear hn hv
    go_enter Tryd.func3, Tryd.ntmps3
    go_upto_region 1 with (fail)
    clear hW0
    go_upto_region 5 with (first | (go_at_call 16; refine (k1 _ he0).mono ?_; rintro e w2 ⟨rfl, hw2⟩; have hS2 := hS0.lies hw2; have hcS2 := hS2.cell) | (go_at_call 17; refine (k2 _).mono ?_; rintro e w3 ⟨rfl, hw3⟩))
    have hS3 := hS2.lies hw3
    have he3 := (he0.lies hw2).lies hw3
    have hB3 := Lies.below hw3 (Lies.below hw2 hB0.size hB0).size (Lies.below hw2 hB0.size hB0)
    have hcS := hS3.cell
    have hlS := hS3.lt
    clear hS0 hB0 he0 hcS0 hcS2 hS2 hw2 hw3 k1 k2
    (refine wp_region_quiet_all (C := Lies _) (by kernel_rfl) (by kernel_rfl) (Lies.drew (Lies.start _)) ?_; (repeat (first | (refine quiet_skip rfl ?_; simp only [Act.put, List.setIfInBounds_toArray, List.set_cons_zero, List.set_cons_succ]) | (apply quiet_op _ rfl; (focus (intro w1 hw1; have hc1 := hw1.cells; go_simp; (try go_bits); (try (rw [if_pos (by omega)]; go_simp)); first | (go_at_call 18; with_reducible exact Calls.lies hw1 (setOf_any A _ hA)) | (go_at_call 19; with_reducible exact Calls.lies hw1 (refOf_any A _ hA)) | (go_at_call 20; with_reducible exact Calls.lies hw1 (range_any a b _ ha hb)) | (go_at_call 21; with_reducible exact Calls.lies hw1 (refRange_any a b _ ha hb)) | (go_at_call 22; with_reducible exact Calls.lies hw1 (has_any s a _ ha)) | (go_at_call 23; with_reducible exact Calls.lies hw1 (refHas_any s a _ ha)) | (go_at_call 24; with_reducible exact Calls.lies hw1 (len_any s _)) | (go_at_call 25; with_reducible exact Calls.lies hw1 (refLen_any s _)) | (go_at_call 26; with_reducible exact Calls.lies hw1 (list_str s L HL.out _ (he3.lies hw1))) | (go_at_call 27; with_reducible exact Calls.lies hw1 (refList_str s L HL.out _)) | (go_at_call 15; with_reducible exact Calls.lies hw1 (awake_any _ (he3.lies hw1))) | (go_at_call 18; exact Calls.lies hw1 (setOf_any A _ hA)) | (go_at_call 19; exact Calls.lies hw1 (refOf_any A _ hA)) | (go_at_call 20; exact Calls.lies hw1 (range_any a b _ ha hb)) | (go_at_call 21; exact Calls.lies hw1 (refRange_any a b _ ha hb)) | (go_at_call 22; exact Calls.lies hw1 (has_any s a _ ha)) | (go_at_call 23; exact Calls.lies hw1 (refHas_any s a _ ha)) | (go_at_call 24; exact Calls.lies hw1 (len_any s _)) | (go_at_call 25; exact Calls.lies hw1 (refLen_any s _)) | (go_at_call 26; exact Calls.lies hw1 (list_str s L HL.out _ (he3.lies hw1))) | (go_at_call 27; exact Calls.lies hw1 (refList_str s L HL.out _)) | (go_at_call 15; exact Calls.lies hw1 (awake_any _ (he3.lies hw1))) | rfl)); simp only [Act.put, List.setIfInBounds_toArray, List.set_cons_zero, List.set_cons_succ]))); refine wpQuiet_nil ?_; intro w4 hw4)
    go_wp2
    go_ret
    exact ⟨rfl, Lies.below hw4 hB3.size hB3⟩
end Go.Proofs.YtakcckdnliiieaaDoor
