/- QuoteBack, walked. -/
import Derived.Test.YtakcckdnliiieaaDoorQ22
import Derived.Test.YtakcckdnliiieaaDoorQ27
import Derived.Test.YtakcckdnliiieaaDoorQ29
import Derived.Test.YtakcckdnliiieaaDoorQ31
namespace Go.Proofs.YtakcckdnliiieaaDoor
open Go Go.RowKit
attribute [local go_sem] Oper.quietAt Oper.quietUpon
theorem arr_size (l : List UInt8) : (ByteArray.mk l.toArray).size = l.length := by show l.toArray.size = _; simp
theorem litB_bd (s : ByteArray) : (litB s.data.toList).length ≤ 4 * s.size + 2 := by
  have := sgns_len [34] s.data.toList
  have h3 : s.data.toList.length = s.data.size := Array.length_toList
  have h2 : s.size = s.data.size := rfl
  unfold litB; simp; omega
theorem classB_bd (s : BS) : (classB s).length ≤ 2306 := by
  have h1 := runsT_len clsL s.runs
  have h2 := runsL_len s 256 (Nat.le_refl _)
  have h3 : s.runs = runsL (s.upTo 256) := by rw [BS.runs_eq, BS.list_eq]
  rw [← h3] at h2
  unfold classB
  split
  · simp
  · simp; omega
theorem extract_tail (A : ByteArray) (i j : Nat) (h : A.size ≤ j) : (A.extract i j).data.toList = A.data.toList.drop i := by
  rw [ByteArray.data_extract, Array.toList_extract, List.extract_eq_take_drop, List.take_of_length_le]
  rw [List.length_drop, Array.length_toList]
  show A.size - i ≤ _
  omega
theorem data_add (A B : ByteArray) : (A ++ B).data.toList = A.data.toList ++ B.data.toList := by simp
set_option maxRecDepth 100000 in
set_option maxHeartbeats 2000000 in
theorem quoteBack_any (s u : ByteArray) (x : BS) (t : ByteArray) (w : World) (he : Env w) (hs0 : s.size ≤ 140737488351232) (hu0 : u.size ≤ 140737488351232) (ht0 : t.size ≤ 140737488351232) :
    Calls Tryd.prog 12 #[.string s, .string u, .agg x.cells, .string t] w (Ret (.bool true) w) := by
  have hX0 := Blk.new w 24 x.cells
  have hb0 : Below w.heap.size w (w.alloc (.cells x.cells 24)) := (Below.refl _ w).alloc (Nat.le_refl _) _
  have he0 : Env (w.alloc (.cells x.cells 24)) := he.alloc _
  by_cases hsum : s.size + u.size + t.size ≤ 5000
  case neg =>
    have d1 : decide (5000 < (s.size : Int) + (u.size : Int) + (t.size : Int)) = true := decide_eq_true (by omega)
    clear hsum
    go_enter Tryd.func12, Tryd.ntmps12
    go_wp2_with (go_at_call 46; refine (awake3_any _ he0).mono ?_; rintro x w2 ⟨rfl, hw2⟩)
    go_ret
    exact ⟨rfl, Lies.below hw2 hb0.size hb0⟩
  have d1 : decide (5000 < (s.size : Int) + (u.size : Int) + (t.size : Int)) = false := decide_eq_false (by omega)
  obtain ⟨A, hA⟩ : ∃ A : ByteArray, A = ⟨(litB s.data.toList).toArray⟩ := ⟨_, rfl⟩
  obtain ⟨B, hB⟩ : ∃ B : ByteArray, B = ⟨(litB u.data.toList).toArray⟩ := ⟨_, rfl⟩
  obtain ⟨C, hC⟩ : ∃ C : ByteArray, C = ⟨(classB x).toArray⟩ := ⟨_, rfl⟩
  have hAs : A.size ≤ 20002 := by rw [hA, arr_size]; have := litB_bd s; omega
  have hBs : B.size ≤ 20002 := by rw [hB, arr_size]; have := litB_bd u; omega
  have hCs : C.size ≤ 2306 := by rw [hC, arr_size]; exact classB_bd x
  have k47a : ∀ w, Calls Tryd.prog 47 #[.string s] w (Ret (.string A) w) := fun w => by rw [hA]; exact literal_any s w (by omega)
  have k47b : ∀ w, Calls Tryd.prog 47 #[.string u] w (Ret (.string B) w) := fun w => by rw [hB]; exact literal_any u w (by omega)
  have k48 : ∀ w, Env w → Calls Tryd.prog 48 #[.agg x.cells] w (Ret (.string C) w) := fun w he => by rw [hC]; exact class_any x w he
  have HA := Lib.hid hA
  have HB := Lib.hid hB
  have HC := Lib.hid hC
  clear hA hB hC
  go_enter Tryd.func12, Tryd.ntmps12
  go_upto_region 3 with (go_at_call 46; refine (awake3_any _ he0).mono ?_; rintro x w2 ⟨rfl, hw2⟩)
  have hX2 := hX0.lies hw2
  have he2 := he0.lies hw2
  have hb2 := Lies.below hw2 hb0.size hb0
  clear hX0 he0 hb0 hw2 d1
  go_upto_region 4 with (first | (go_at_call 47; (with_reducible refine (k47a _).mono ?_); rintro e w3 ⟨rfl, hw3⟩) | (go_at_call 47; (with_reducible refine (k47b _).mono ?_); rintro e w4 ⟨rfl, hw4⟩))
  have hX4 := (hX2.lies hw3).lies hw4
  have he4 := (he2.lies hw3).lies hw4
  have hb4 := Lies.below hw4 (Lies.below hw3 hb2.size hb2).size (Lies.below hw3 hb2.size hb2)
  clear hX2 he2 hb2 hw3 hw4 k47a k47b
  by_cases hsml : s.size ≤ 255 ∧ u.size ≤ 255
  · obtain ⟨h1, h2⟩ := hsml
    have g1 : decide ((s.size : Int) ≤ 255) = true := decide_eq_true (by omega)
    have g2 : decide ((u.size : Int) ≤ 255) = true := decide_eq_true (by omega)
    have hM : (A ++ B ++ t).size ≤ 1000000 := by
      have : (A ++ B ++ t).size = A.size + B.size + t.size := by simp
      omega
    have k54a : ∀ w, Calls Tryd.prog 54 #[.string (A ++ B ++ t)] w (Ret (.tuple #[.string s, .int .i64 (A.size : Int), .int .i64 0]) w) := fun w => by
      have := @unliteral_any (A ++ B ++ t) w hM
      rw [unlit_lit (l := s.data.toList) (by
        have := atL.of [] (litB s.data.toList) (litB u.data.toList ++ t.data.toList) (t := A ++ B ++ t) (by rw [data_add, data_add, HA.out, HB.out]; simp)
        exact this), if_neg (by rw [Array.length_toList]; show ¬ 255 < s.size; omega)] at this
      rw [show A.size = (litB s.data.toList).length by rw [HA.out, arr_size]]
      exact this
    go_upto_region 8 with (go_at_call 54; refine (k54a _).mono ?_; rintro e w5 ⟨rfl, hw5⟩)
    obtain ⟨M, hMM⟩ : ∃ M : ByteArray, M = (A ++ B ++ t).extract A.size (A.size + B.size + t.size) := ⟨_, rfl⟩
    have hAB : (A ++ B ++ t).size = A.size + B.size + t.size := by simp
    have hMl : M.data.toList = litB u.data.toList ++ t.data.toList := by
      rw [hMM, extract_tail _ _ _ (by omega), data_add, data_add, HB.out, List.append_assoc]
      rw [show A.size = A.data.toList.length from Array.length_toList.symm, List.drop_left]
    have hMs : M.size ≤ 1000000 := by
      have : M.size = M.data.toList.length := Array.length_toList.symm
      rw [this, hMl, List.length_append, show (litB u.data.toList).length = B.size by rw [HB.out, arr_size], Array.length_toList]
      show B.size + t.size ≤ _
      omega
    have k54c : ∀ w, Calls Tryd.prog 54 #[.string M] w (Ret (.tuple #[.string u, .int .i64 (B.size : Int), .int .i64 0]) w) := fun w => by
      have := @unliteral_any M w hMs
      rw [unlit_lit (l := u.data.toList) (atL.of [] (litB u.data.toList) t.data.toList (t := M) (by rw [hMl]; simp)), if_neg (by rw [Array.length_toList]; show ¬ 255 < u.size; omega)] at this
      rw [show B.size = (litB u.data.toList).length by rw [HB.out, arr_size]]
      exact this
    have k54b : ∀ w, Calls Tryd.prog 54 #[.string ((A ++ B ++ t).extract A.size (A.size + B.size + t.size))] w (Ret (.tuple #[.string u, .int .i64 (B.size : Int), .int .i64 0]) w) := by rw [← hMM]; exact k54c
    clear k54c
    clear hMM hAB hMl hMs
    go_upto_region 11 with (go_at_call 54; refine (k54b _).mono ?_; rintro e w6 ⟨rfl, hw6⟩)
    have hX6 := (hX4.lies hw5).lies hw6
    have he6 := (he4.lies hw5).lies hw6
    have hb6 := Lies.below hw6 (Lies.below hw5 hb4.size hb4).size (Lies.below hw5 hb4.size hb4)
    clear hX4 he4 hb4 hw5 hw6 k54a k54b g1 g2
    have hcX := hX6.cell
    have hlX := hX6.lt
    go_upto_region 12 with (go_at_call 48; refine (k48 _ he6).mono ?_; rintro e w7 ⟨rfl, hw7⟩)
    have hX7 := hX6.lies hw7
    have hb7 := Lies.below hw7 hb6.size hb6
    clear hX6 he6 hb6 hw7 hcX hlX
    have hcX := hX7.cell
    have hlX := hX7.lt
    (refine wp_region_quiet_all (C := Lies _) (by kernel_rfl) (by kernel_rfl) (Lies.drew (Lies.start _)) ?_; (repeat (first | (refine quiet_skip rfl ?_; simp only [Act.put, List.setIfInBounds_toArray, List.set_cons_zero, List.set_cons_succ]) | (apply quiet_op _ rfl; (focus (intro w1 hw1; have hc1 := hw1.cells; go_simp; (try go_bits); (try (rw [if_pos (by omega)]; go_simp)); first | (go_at_call 31; with_reducible exact Calls.lies hw1 (all_any _)) | (go_at_call 31; exact Calls.lies hw1 (all_any _)) | rfl)); simp only [Act.put, List.setIfInBounds_toArray, List.set_cons_zero, List.set_cons_succ]))); refine wpQuiet_nil ?_; intro w8 hw8)
    have hX8 := hX7.lies hw8
    have hb8 := Lies.below hw8 hb7.size hb7
    clear hX7 hb7 hw8 hcX hlX
    by_cases hfull : x = BS.full
    · obtain rfl : C = ⟨#[46]⟩ := by rw [HC.out, hfull, classB_full]
      subst hfull
      go_wp2
      go_ret
      exact ⟨by simp, hb8⟩
    · have f1 : decide (x = BS.full) = false := decide_eq_false hfull
      have hCt : (C ++ t).size ≤ 1000000 := by
        have : (C ++ t).size = C.size + t.size := by simp
        omega
      have k51 : ∀ w, Calls Tryd.prog 51 #[.string (C ++ t)] w (Ret (.tuple #[.agg x.cells, .int .i64 (C.size : Int), .int .i64 0]) w) := fun w => by
        have := @unclass_any (C ++ t) w hCt
        rw [unclass_class hfull (atL.of [] (classB x) t.data.toList (t := C ++ t) (by rw [data_add, HC.out]; simp))] at this
        rw [show C.size = (classB x).length by rw [HC.out, arr_size]]
        exact this
      clear hCt
      have hcX := hX8.cell
      have hlX := hX8.lt
      go_wp2_with (go_at_call 51; refine (k51 _).mono ?_; rintro e w9 ⟨rfl, hw9⟩; have hX9 := hX8.lies hw9; have hb9 := Lies.below hw9 hb8.size hb8; have hcX9 := hX9.cell; have hlX9 := hX9.lt)
      go_ret
      exact ⟨by simp, hb9.alloc hb9.size _⟩
  · have g3 : decide ((s.size : Int) ≤ 255) = false ∨ (decide ((s.size : Int) ≤ 255) = true ∧ decide ((u.size : Int) ≤ 255) = false) := by
      by_cases h : s.size ≤ 255
      · exact .inr ⟨decide_eq_true (by omega), decide_eq_false (by omega)⟩
      · exact .inl (decide_eq_false (by omega))
    obtain ⟨W6, hX6, he6, hb6, hW6⟩ : ∃ W6, Blk W6 w.heap.size 24 x.cells ∧ Env W6 ∧ Below w.heap.size w W6 ∧ w4 = W6 := ⟨w4, hX4, he4, hb4, rfl⟩
    rw [hW6]
    clear hW6 hX4 he4 hb4 hsml
    rcases g3 with g1 | ⟨g1, g2⟩
    · go_upto_region 11 with (fail)
      clear g1
      have hcX := hX6.cell
      have hlX := hX6.lt
      go_upto_region 12 with (go_at_call 48; refine (k48 _ he6).mono ?_; rintro e w7 ⟨rfl, hw7⟩)
      have hX7 := hX6.lies hw7
      have hb7 := Lies.below hw7 hb6.size hb6
      clear hX6 he6 hb6 hw7 hcX hlX
      have hcX := hX7.cell
      have hlX := hX7.lt
      (refine wp_region_quiet_all (C := Lies _) (by kernel_rfl) (by kernel_rfl) (Lies.drew (Lies.start _)) ?_; (repeat (first | (refine quiet_skip rfl ?_; simp only [Act.put, List.setIfInBounds_toArray, List.set_cons_zero, List.set_cons_succ]) | (apply quiet_op _ rfl; (focus (intro w1 hw1; have hc1 := hw1.cells; go_simp; (try go_bits); (try (rw [if_pos (by omega)]; go_simp)); first | (go_at_call 31; with_reducible exact Calls.lies hw1 (all_any _)) | (go_at_call 31; exact Calls.lies hw1 (all_any _)) | rfl)); simp only [Act.put, List.setIfInBounds_toArray, List.set_cons_zero, List.set_cons_succ]))); refine wpQuiet_nil ?_; intro w8 hw8)
      have hX8 := hX7.lies hw8
      have hb8 := Lies.below hw8 hb7.size hb7
      clear hX7 hb7 hw8 hcX hlX
      by_cases hfull : x = BS.full
      · obtain rfl : C = ⟨#[46]⟩ := by rw [HC.out, hfull, classB_full]
        subst hfull
        go_wp2
        go_ret
        exact ⟨by simp, hb8⟩
      · have f1 : decide (x = BS.full) = false := decide_eq_false hfull
        have hCt : (C ++ t).size ≤ 1000000 := by
          have : (C ++ t).size = C.size + t.size := by simp
          omega
        have k51 : ∀ w, Calls Tryd.prog 51 #[.string (C ++ t)] w (Ret (.tuple #[.agg x.cells, .int .i64 (C.size : Int), .int .i64 0]) w) := fun w => by
          have := @unclass_any (C ++ t) w hCt
          rw [unclass_class hfull (atL.of [] (classB x) t.data.toList (t := C ++ t) (by rw [data_add, HC.out]; simp))] at this
          rw [show C.size = (classB x).length by rw [HC.out, arr_size]]
          exact this
        clear hCt
        have hcX := hX8.cell
        have hlX := hX8.lt
        go_wp2_with (go_at_call 51; refine (k51 _).mono ?_; rintro e w9 ⟨rfl, hw9⟩; have hX9 := hX8.lies hw9; have hb9 := Lies.below hw9 hb8.size hb8; have hcX9 := hX9.cell; have hlX9 := hX9.lt)
        go_ret
        exact ⟨by simp, hb9.alloc hb9.size _⟩
    · go_upto_region 11 with (fail)
      clear g1 g2
      have hcX := hX6.cell
      have hlX := hX6.lt
      go_upto_region 12 with (go_at_call 48; refine (k48 _ he6).mono ?_; rintro e w7 ⟨rfl, hw7⟩)
      have hX7 := hX6.lies hw7
      have hb7 := Lies.below hw7 hb6.size hb6
      clear hX6 he6 hb6 hw7 hcX hlX
      have hcX := hX7.cell
      have hlX := hX7.lt
      (refine wp_region_quiet_all (C := Lies _) (by kernel_rfl) (by kernel_rfl) (Lies.drew (Lies.start _)) ?_; (repeat (first | (refine quiet_skip rfl ?_; simp only [Act.put, List.setIfInBounds_toArray, List.set_cons_zero, List.set_cons_succ]) | (apply quiet_op _ rfl; (focus (intro w1 hw1; have hc1 := hw1.cells; go_simp; (try go_bits); (try (rw [if_pos (by omega)]; go_simp)); first | (go_at_call 31; with_reducible exact Calls.lies hw1 (all_any _)) | (go_at_call 31; exact Calls.lies hw1 (all_any _)) | rfl)); simp only [Act.put, List.setIfInBounds_toArray, List.set_cons_zero, List.set_cons_succ]))); refine wpQuiet_nil ?_; intro w8 hw8)
      have hX8 := hX7.lies hw8
      have hb8 := Lies.below hw8 hb7.size hb7
      clear hX7 hb7 hw8 hcX hlX
      by_cases hfull : x = BS.full
      · obtain rfl : C = ⟨#[46]⟩ := by rw [HC.out, hfull, classB_full]
        subst hfull
        go_wp2
        go_ret
        exact ⟨by simp, hb8⟩
      · have f1 : decide (x = BS.full) = false := decide_eq_false hfull
        have hCt : (C ++ t).size ≤ 1000000 := by
          have : (C ++ t).size = C.size + t.size := by simp
          omega
        have k51 : ∀ w, Calls Tryd.prog 51 #[.string (C ++ t)] w (Ret (.tuple #[.agg x.cells, .int .i64 (C.size : Int), .int .i64 0]) w) := fun w => by
          have := @unclass_any (C ++ t) w hCt
          rw [unclass_class hfull (atL.of [] (classB x) t.data.toList (t := C ++ t) (by rw [data_add, HC.out]; simp))] at this
          rw [show C.size = (classB x).length by rw [HC.out, arr_size]]
          exact this
        clear hCt
        have hcX := hX8.cell
        have hlX := hX8.lt
        go_wp2_with (go_at_call 51; refine (k51 _).mono ?_; rintro e w9 ⟨rfl, hw9⟩; have hX9 := hX8.lies hw9; have hb9 := Lies.below hw9 hb8.size hb8; have hcX9 := hX9.cell; have hlX9 := hX9.lt)
        go_ret
        exact ⟨by simp, hb9.alloc hb9.size _⟩
end Go.Proofs.YtakcckdnliiieaaDoor
