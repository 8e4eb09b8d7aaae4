/- The small functions of the laws of quote: text, class, wrong. -/
import Derived.Test.YtakcckdnliiieaaDoorQ18
namespace Go.Proofs.YtakcckdnliiieaaDoor
open Go Go.RowKit
attribute [local go_sem] Oper.quietAt Oper.quietUpon
theorem strV_str (s : ByteArray) : strV s.data.toList = .string s := rfl
set_option maxRecDepth 100000 in
set_option maxHeartbeats 1000000 in
theorem text_yes {t s : ByteArray} {n : Nat} (ht : t.size ≤ 1000000) (h : unlitP t = (s.data.toList, n, 0)) (w : World) :
    Calls Tryd.prog 49 #[.string t, .string s, .int .i64 (n : Int)] w (Ret (.bool true) w) := by
  have k := @unliteral_any t w ht
  rw [h] at k
  have k' : Calls Tryd.prog 54 #[.string t] w (Ret (.tuple #[.string s, .int .i64 (n : Int), .int .i64 0]) w) := k
  clear k h
  go_enter Tryd.func49, Tryd.ntmps49
  go_wp2_with (go_at_call 54; refine k'.mono ?_; rintro x w2 ⟨rfl, hw2⟩)
  go_ret
  exact ⟨rfl, hw2⟩
set_option maxRecDepth 100000 in
set_option maxHeartbeats 1000000 in
theorem class_yes {t s : ByteArray} {n : Nat} (ht : t.size ≤ 1000000) (hs : s.size ≤ 1000000) (h : unclsP t = (BS.ofBytes s.data.toList, n, 0)) (w : World) :
    Calls Tryd.prog 50 #[.string t, .string s, .int .i64 (n : Int)] w (Ret (.bool true) w) := by
  have k := @unclass_any t w ht
  rw [h] at k
  have k' : Calls Tryd.prog 51 #[.string t] w (Ret (.tuple #[.agg (BS.ofBytes s.data.toList).cells, .int .i64 (n : Int), .int .i64 0]) w) := k
  have k18 := fun w => setOf_any s w (by omega)
  clear k h
  obtain ⟨S, hS⟩ : ∃ S, S = BS.ofBytes s.data.toList := ⟨_, rfl⟩
  rw [← hS] at k' k18
  clear hS
  go_enter Tryd.func50, Tryd.ntmps50
  go_upto_region 2 with (go_at_call 51; refine k'.mono ?_; rintro x w2 ⟨rfl, hw2⟩)
  have hX := Blk.new w2 24 S.cells
  have hb := (hw2.alloc hw2.size (.cells S.cells 24))
  have hcX := hX.cell
  have hlX := hX.lt
  (refine wp_region_quiet_all (C := Lies _) (by kernel_rfl) (by kernel_rfl) (Lies.drew (Lies.start _)) ?_; (repeat (first | (refine quiet_skip rfl ?_; simp only [Act.put, List.setIfInBounds_toArray, List.set_cons_zero, List.set_cons_succ]) | (apply quiet_op _ rfl; (focus (intro w1 hw1; have hc1 := hw1.cells; go_simp; (try go_bits); (try (rw [if_pos (by omega)]; go_simp)); first | (go_at_call 18; with_reducible exact Calls.lies hw1 (k18 _)) | (go_at_call 18; exact Calls.lies hw1 (k18 _)) | rfl)); simp only [Act.put, List.setIfInBounds_toArray, List.set_cons_zero, List.set_cons_succ]))); refine wpQuiet_nil ?_; intro w3 hw3)
  go_wp2
  go_ret
  exact ⟨by simp, Lies.below hw3 hb.size hb⟩
set_option maxRecDepth 100000 in
set_option maxHeartbeats 1000000 in
theorem wrong_lit {t : ByteArray} {n e : Nat} (ht : t.size ≤ 1000000) (h0 : byteAt t 0 ≠ some 91) (h : unlitP t = ([], n, e)) (w : World) :
    Calls Tryd.prog 52 #[.string t, .int .i64 (n : Int), .int .i64 (e : Int)] w (Ret (.bool true) w) := by
  have k := @unliteral_any t w ht
  rw [h] at k
  have k' : Calls Tryd.prog 54 #[.string t] w (Ret (.tuple #[.string ⟨#[]⟩, .int .i64 (n : Int), .int .i64 (e : Int)]) w) := k
  clear k h
  by_cases hlen : 0 < t.size
  · have he : (t.toList == []) = false := by
      rw [Lib.toList_data, beq_eq_false_iff_ne]
      intro h
      have : t.data.toList.length = 0 := by rw [h]; rfl
      rw [Array.length_toList] at this
      have h2 : t.size = t.data.size := rfl
      omega
    rw [byteAt_lt hlen] at h0
    have d1 : ((t[0].toNat : Int) == 91) = false := by simp at h0; simp; omega
    clear h0
    go_enter Tryd.func52, Tryd.ntmps52
    go_wp2_with (go_at_call 54; refine k'.mono ?_; rintro x w2 ⟨rfl, hw2⟩)
    go_ret
    exact ⟨by simp, hw2⟩
  · have he : (t.toList == []) = true := by rw [Lib.toList_data, show t.data.toList = [] from List.eq_nil_of_length_eq_zero (by rw [Array.length_toList]; show t.size = 0; omega)]; rfl
    clear h0
    go_enter Tryd.func52, Tryd.ntmps52
    go_wp2_with (go_at_call 54; refine k'.mono ?_; rintro x w2 ⟨rfl, hw2⟩)
    go_ret
    exact ⟨by simp, hw2⟩
set_option maxRecDepth 100000 in
set_option maxHeartbeats 1000000 in
theorem wrong_cls {t : ByteArray} {n e : Nat} (ht : t.size ≤ 1000000) (h0 : byteAt t 0 = some 91) (h : unclsP t = (BS.zero, n, e)) (w : World) :
    Calls Tryd.prog 52 #[.string t, .int .i64 (n : Int), .int .i64 (e : Int)] w (Ret (.bool true) w) := by
  have k := @unclass_any t w ht
  rw [h] at k
  have k' : Calls Tryd.prog 51 #[.string t] w (Ret (.tuple #[.agg BS.zero.cells, .int .i64 (n : Int), .int .i64 (e : Int)]) w) := k
  clear k h
  have hlen := (byteAt_256 h0).2
  have he : (t.toList == []) = false := by
    rw [Lib.toList_data, beq_eq_false_iff_ne]
    intro h
    have : t.data.toList.length = 0 := by rw [h]; rfl
    rw [Array.length_toList] at this
    have h2 : t.size = t.data.size := rfl
    omega
  rw [byteAt_lt hlen] at h0
  have d1 : ((t[0].toNat : Int) == 91) = true := by simp at h0; simp; omega
  clear h0
  go_enter Tryd.func52, Tryd.ntmps52
  go_wp2_with (go_at_call 51; refine k'.mono ?_; rintro x w2 ⟨rfl, hw2⟩)
  go_ret
  exact ⟨by simp, hw2.alloc hw2.size _⟩
end Go.Proofs.YtakcckdnliiieaaDoor
