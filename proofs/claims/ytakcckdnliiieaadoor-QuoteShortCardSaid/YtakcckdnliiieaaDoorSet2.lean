/- The reference of layer 1: with, Or, And, Minus, Range, Of, All, Not; set.Range: a contract a function. -/
import Derived.Test.YtakcckdnliiieaaDoorSet1
import Derived.Test.YtakcckdnliiieaaDoorMem
import Derived.Deep.Cut
namespace Go.Proofs.YtakcckdnliiieaaDoor
open Go Go.RowKit
attribute [local go_sem] Oper.quietAt Oper.quietUpon
set_option maxHeartbeats 1000000 in
theorem with_any (s : BS) (b : Nat) (w : World) (hb : b < 256) :
    Calls Tryd.prog 60 #[.agg s.cells, .int .u8 (b : Int)] w (Ret (.agg (s.ins b).cells) w) := by
  have hb4 : b / 64 < 4 := by omega
  have hbm : b % 64 < 64 := by omega
  have hX0 := (Blk.new w 24 s.cells).alloc (.cells BS.zero.cells 24)
  have hR0 : Blk ((w.alloc (.cells s.cells 24)).alloc (.cells BS.zero.cells 24)) (w.heap.size + 1) 24 BS.zero.cells := by have := Blk.new (w.alloc (.cells s.cells 24)) 24 BS.zero.cells; rwa [World.size_alloc] at this
  have hb0 : Below w.heap.size w ((w.alloc (.cells s.cells 24)).alloc (.cells BS.zero.cells 24)) := by (repeat' first | exact Below.refl _ _ | assumption | refine Below.alloc ?_ (by simp <;> omega) _ | refine Below.setCell ?_ (by simp <;> omega) _ | refine Below.drew ?_)
  cases hh : s.has b
  · go_enter Tryd.func60, Tryd.ntmps60
    go_wp2_with (go_at_call 23; refine (refHas_any _ _ _ (by omega)).mono ?_; rw [hh]; rintro e w2 ⟨rfl, hw2⟩)
    have hX2 := hX0.lies hw2
    have hR2 := hR0.lies hw2
    have hb2 := Lies.below hw2 (by simp <;> omega) hb0
    have hc2 := hX2.cell
    have hl2 := hX2.lt
    (refine wp_region_quiet_tail (C := Lies _) 14 (by kernel_rfl) (by kernel_rfl) (Lies.drew (Lies.start _)) ?_; simp only [List.take_succ_cons, List.take_zero, List.take_nil, List.drop_succ_cons, List.drop_zero, List.drop_nil]; (repeat (first | (refine quiet_skip rfl ?_; simp only [Act.put, List.setIfInBounds_toArray, List.set_cons_zero, List.set_cons_succ]) | (apply quiet_op _ rfl; (focus (intro w1 hw1; have hc1 := hw1.cells; go_simp; (try go_bits); (try (rw [if_pos (by omega)]; go_simp)); first | (go_at_call 61; with_reducible exact Calls.lies hw1 (power_any (b % 64) _ (by omega))) | (go_at_call 61; exact Calls.lies hw1 (power_any (b % 64) _ (by omega))) | rfl)); simp only [Act.put, List.setIfInBounds_toArray, List.set_cons_zero, List.set_cons_succ]))); refine wpQuiet_nil ?_; intro w3 hw3)
    have hX3 := hX2.lies hw3
    have hR3 := hR2.lies hw3
    have hb3 := Lies.below hw3 hb2.size hb2
    refine wpList_store_word rfl 22 (.tmp 22) (.tmp 21) rfl w.heap.size (b / 64) rfl _ rfl (by kernel_rfl) hX3 hb4 ?_
    intro w4 hX4 hg4 hz4
    have hR4 := hR3.grown hg4 (by simp <;> omega)
    have hb4' := below_grown hb3 hg4 (by omega) hb3.size
    have hc4 := hX4.cell
    go_wp2_with (refine wpList_store_set rfl 24 (.tmp 4) (.tmp 23) rfl _ rfl _ rfl (by kernel_rfl) hR4 ?_; intro w5 hR5 hg5 hz5)
    refine ret_set Tryd.results60 rfl hR5 Tryd.underlying24 rfl (by kernel_rfl) rfl ⟨?_, below_grown hb4' hg5 (by omega) hb4'.size⟩
    rw [BS.add_of_not_has s b hh]; rfl
  · go_enter Tryd.func60, Tryd.ntmps60
    go_wp2_with (first | (go_at_call 23; refine (refHas_any _ _ _ (by omega)).mono ?_; rw [hh]; rintro e w2 ⟨rfl, hw2⟩; have hX2 := hX0.lies hw2; have hR2 := hR0.lies hw2; have hb2 := Lies.below hw2 (by simp <;> omega) hb0; have hc2 := hX2.cell; have hl2 := hX2.lt) | (refine wpList_store_set rfl 24 (.tmp 4) (.tmp 23) rfl _ rfl _ rfl (by kernel_rfl) hR2 ?_; intro w5 hR5 hg5 hz5))
    rw [BS.ins_of_has s b hb hh]
    exact ret_set Tryd.results60 rfl hR5 Tryd.underlying24 rfl (by kernel_rfl) rfl ⟨rfl, below_grown hb2 hg5 (by omega) hb2.size⟩

theorem refHas_eq (s : BS) (b : Nat) (w : World) {v : Bool} (hb : b < 256) (h : s.has b = v) :
    Calls Tryd.prog 23 #[.agg s.cells, .int .u8 (b : Int)] w (Ret (.bool v) w) := by
  have := refHas_any s b w hb
  rwa [h] at this
set_option maxRecDepth 100000 in
set_option maxHeartbeats 2000000 in
theorem refOr_any (s r : BS) (w : World) :
    Calls Tryd.prog 39 #[.agg s.cells, .agg r.cells] w (Ret (.agg (s.or r).cells) w) := by
  have hX0 : Blk ((((w.alloc (.cells s.cells 24)).alloc (.cells r.cells 24)).alloc (.cells BS.zero.cells 24)).alloc (.cells BS.zero.cells 24)) w.heap.size 24 s.cells := (((Blk.new w 24 _).alloc _).alloc _).alloc _
  have hY0 : Blk ((((w.alloc (.cells s.cells 24)).alloc (.cells r.cells 24)).alloc (.cells BS.zero.cells 24)).alloc (.cells BS.zero.cells 24)) (w.heap.size + 1) 24 r.cells := by have := ((Blk.new (w.alloc (.cells s.cells 24)) 24 r.cells).alloc (.cells BS.zero.cells 24)).alloc (.cells BS.zero.cells 24); rwa [World.size_alloc] at this
  have hR0 : Blk ((((w.alloc (.cells s.cells 24)).alloc (.cells r.cells 24)).alloc (.cells BS.zero.cells 24)).alloc (.cells BS.zero.cells 24)) (w.heap.size + 1 + 1) 24 BS.zero.cells := by have := (Blk.new ((w.alloc (.cells s.cells 24)).alloc (.cells r.cells 24)) 24 BS.zero.cells).alloc (.cells BS.zero.cells 24); rwa [World.size_alloc, World.size_alloc] at this
  have hS0 : Blk ((((w.alloc (.cells s.cells 24)).alloc (.cells r.cells 24)).alloc (.cells BS.zero.cells 24)).alloc (.cells BS.zero.cells 24)) (w.heap.size + 1 + 1 + 1) 24 BS.zero.cells := by have := Blk.new (((w.alloc (.cells s.cells 24)).alloc (.cells r.cells 24)).alloc (.cells BS.zero.cells 24)) 24 BS.zero.cells; rwa [World.size_alloc, World.size_alloc, World.size_alloc] at this
  go_enter Tryd.func39, Tryd.ntmps39
  go_wp2_with fail
  go_loopw [6] (fun i wr => ∃ k : Nat, k ≤ 256 ∧ i = .int .i64 (k : Int) ∧ Below w.heap.size w wr ∧ Blk wr w.heap.size 24 s.cells ∧ Blk wr (w.heap.size + 1) 24 r.cells ∧ Blk wr (w.heap.size + 1 + 1) 24 BS.zero.cells ∧ Blk wr (w.heap.size + 1 + 1 + 1) 24 (BS.part (fun n => s.has n || r.has n) k).cells) (fun i _ => 256 - (intOf i).toNat)
  case atStart => exact ⟨0, by omega, rfl, by (repeat' first | exact Below.refl _ _ | assumption | refine Below.alloc ?_ (by simp <;> omega) _ | refine Below.setCell ?_ (by simp <;> omega) _ | refine Below.drew ?_), hX0, hY0, hR0, by rw [BS.part_zero]; exact hS0⟩
  clear hX0 hY0 hR0 hS0
  case round =>
    obtain ⟨k, hk, rfl, hb, hX, hY, hR, hS⟩ := hrel
    by_cases hlt : k < 256
    · have hc1 := hX.cell
      have hc2 := hY.cell
      have hlX := hX.lt
      have hlY := hY.lt
      cases h1 : s.has k <;> cases h2 : r.has k
      · go_upto_region 5 with (fail)
        (refine wp_region_text_tail (C := Lies _) 10 (Lies.start _) ?_; simp only [List.take_succ_cons, List.take_zero, List.take_nil, List.drop_succ_cons, List.drop_zero, List.drop_nil]; (repeat (first | (refine quiet_skip rfl ?_; simp only [Act.put, List.setIfInBounds_toArray, List.set_cons_zero, List.set_cons_succ]) | (apply quiet_op _ rfl; (focus (intro w1 hw1; have hc1 := hw1.cells; go_simp; (try go_bits); (try (rw [if_pos (by omega)]; go_simp)); first | (go_at_call 23; with_reducible exact Calls.lies hw1 (refHas_eq _ _ _ (by omega) h1)) | (go_at_call 23; with_reducible exact Calls.lies hw1 (refHas_eq _ _ _ (by omega) h2)) | (go_at_call 23; exact Calls.lies hw1 (refHas_eq _ _ _ (by omega) h1)) | (go_at_call 23; exact Calls.lies hw1 (refHas_eq _ _ _ (by omega) h2)) | rfl)); simp only [Act.put, List.setIfInBounds_toArray, List.set_cons_zero, List.set_cons_succ]))); refine wpQuiet_nil ?_; intro w2 hw2)
        have hX2 := hX.lies hw2
        have hY2 := hY.lies hw2
        have hR2 := hR.lies hw2
        have hS2 := hS.lies hw2
        have hb2 := Lies.below hw2 hb.size hb
        have hcS := hS2.cell
        go_wp2
        go_roundw
        case rel => exact ⟨k + 1, by omega, by go_num, hb2, hX2, hY2, hR2, by rw [BS.part_no _ _ (by simp [h1, h2])]; exact hS2⟩
        case measure => simp [intOf]; omega
      · go_upto_region 5 with (fail)
        (refine wp_region_text_tail (C := Lies _) 10 (Lies.start _) ?_; simp only [List.take_succ_cons, List.take_zero, List.take_nil, List.drop_succ_cons, List.drop_zero, List.drop_nil]; (repeat (first | (refine quiet_skip rfl ?_; simp only [Act.put, List.setIfInBounds_toArray, List.set_cons_zero, List.set_cons_succ]) | (apply quiet_op _ rfl; (focus (intro w1 hw1; have hc1 := hw1.cells; go_simp; (try go_bits); (try (rw [if_pos (by omega)]; go_simp)); first | (go_at_call 23; with_reducible exact Calls.lies hw1 (refHas_eq _ _ _ (by omega) h1)) | (go_at_call 23; with_reducible exact Calls.lies hw1 (refHas_eq _ _ _ (by omega) h2)) | (go_at_call 23; exact Calls.lies hw1 (refHas_eq _ _ _ (by omega) h1)) | (go_at_call 23; exact Calls.lies hw1 (refHas_eq _ _ _ (by omega) h2)) | rfl)); simp only [Act.put, List.setIfInBounds_toArray, List.set_cons_zero, List.set_cons_succ]))); refine wpQuiet_nil ?_; intro w2 hw2)
        have hX2 := hX.lies hw2
        have hY2 := hY.lies hw2
        have hR2 := hR.lies hw2
        have hS2 := hS.lies hw2
        have hb2 := Lies.below hw2 hb.size hb
        have hcS := hS2.cell
        go_wp2_with (first | (go_at_call 60; refine (with_any _ _ _ (by omega)).mono ?_; rintro e w3 ⟨rfl, hw3⟩; have hX3 := hX2.lies hw3; have hY3 := hY2.lies hw3; have hR3 := hR2.lies hw3; have hS3 := hS2.lies hw3; have hb3 := Lies.below hw3 hb2.size hb2) | (refine wpList_store_set rfl 24 (.tmp 5) (.tmp 24) rfl _ rfl _ rfl (by kernel_rfl) hS3 ?_; intro w4 hS4 hg4 hz4))
        go_roundw
        case rel => exact ⟨k + 1, by omega, by go_num, below_grown hb3 hg4 (by omega) hb3.size, hX3.grown hg4 (by simp <;> omega), hY3.grown hg4 (by simp <;> omega), hR3.grown hg4 (by simp <;> omega), by rw [BS.part_yes _ _ hlt (by simp [h1, h2])] at hS4; exact hS4⟩
        case measure => simp [intOf]; omega
      · go_upto_region 5 with (fail)
        (refine wp_region_text_tail (C := Lies _) 10 (Lies.start _) ?_; simp only [List.take_succ_cons, List.take_zero, List.take_nil, List.drop_succ_cons, List.drop_zero, List.drop_nil]; (repeat (first | (refine quiet_skip rfl ?_; simp only [Act.put, List.setIfInBounds_toArray, List.set_cons_zero, List.set_cons_succ]) | (apply quiet_op _ rfl; (focus (intro w1 hw1; have hc1 := hw1.cells; go_simp; (try go_bits); (try (rw [if_pos (by omega)]; go_simp)); first | (go_at_call 23; with_reducible exact Calls.lies hw1 (refHas_eq _ _ _ (by omega) h1)) | (go_at_call 23; with_reducible exact Calls.lies hw1 (refHas_eq _ _ _ (by omega) h2)) | (go_at_call 23; exact Calls.lies hw1 (refHas_eq _ _ _ (by omega) h1)) | (go_at_call 23; exact Calls.lies hw1 (refHas_eq _ _ _ (by omega) h2)) | rfl)); simp only [Act.put, List.setIfInBounds_toArray, List.set_cons_zero, List.set_cons_succ]))); refine wpQuiet_nil ?_; intro w2 hw2)
        have hX2 := hX.lies hw2
        have hY2 := hY.lies hw2
        have hR2 := hR.lies hw2
        have hS2 := hS.lies hw2
        have hb2 := Lies.below hw2 hb.size hb
        have hcS := hS2.cell
        go_wp2_with (first | (go_at_call 60; refine (with_any _ _ _ (by omega)).mono ?_; rintro e w3 ⟨rfl, hw3⟩; have hX3 := hX2.lies hw3; have hY3 := hY2.lies hw3; have hR3 := hR2.lies hw3; have hS3 := hS2.lies hw3; have hb3 := Lies.below hw3 hb2.size hb2) | (refine wpList_store_set rfl 24 (.tmp 5) (.tmp 24) rfl _ rfl _ rfl (by kernel_rfl) hS3 ?_; intro w4 hS4 hg4 hz4))
        go_roundw
        case rel => exact ⟨k + 1, by omega, by go_num, below_grown hb3 hg4 (by omega) hb3.size, hX3.grown hg4 (by simp <;> omega), hY3.grown hg4 (by simp <;> omega), hR3.grown hg4 (by simp <;> omega), by rw [BS.part_yes _ _ hlt (by simp [h1, h2])] at hS4; exact hS4⟩
        case measure => simp [intOf]; omega
      · go_upto_region 5 with (fail)
        (refine wp_region_text_tail (C := Lies _) 10 (Lies.start _) ?_; simp only [List.take_succ_cons, List.take_zero, List.take_nil, List.drop_succ_cons, List.drop_zero, List.drop_nil]; (repeat (first | (refine quiet_skip rfl ?_; simp only [Act.put, List.setIfInBounds_toArray, List.set_cons_zero, List.set_cons_succ]) | (apply quiet_op _ rfl; (focus (intro w1 hw1; have hc1 := hw1.cells; go_simp; (try go_bits); (try (rw [if_pos (by omega)]; go_simp)); first | (go_at_call 23; with_reducible exact Calls.lies hw1 (refHas_eq _ _ _ (by omega) h1)) | (go_at_call 23; with_reducible exact Calls.lies hw1 (refHas_eq _ _ _ (by omega) h2)) | (go_at_call 23; exact Calls.lies hw1 (refHas_eq _ _ _ (by omega) h1)) | (go_at_call 23; exact Calls.lies hw1 (refHas_eq _ _ _ (by omega) h2)) | rfl)); simp only [Act.put, List.setIfInBounds_toArray, List.set_cons_zero, List.set_cons_succ]))); refine wpQuiet_nil ?_; intro w2 hw2)
        have hX2 := hX.lies hw2
        have hY2 := hY.lies hw2
        have hR2 := hR.lies hw2
        have hS2 := hS.lies hw2
        have hb2 := Lies.below hw2 hb.size hb
        have hcS := hS2.cell
        go_wp2_with (first | (go_at_call 60; refine (with_any _ _ _ (by omega)).mono ?_; rintro e w3 ⟨rfl, hw3⟩; have hX3 := hX2.lies hw3; have hY3 := hY2.lies hw3; have hR3 := hR2.lies hw3; have hS3 := hS2.lies hw3; have hb3 := Lies.below hw3 hb2.size hb2) | (refine wpList_store_set rfl 24 (.tmp 5) (.tmp 24) rfl _ rfl _ rfl (by kernel_rfl) hS3 ?_; intro w4 hS4 hg4 hz4))
        go_roundw
        case rel => exact ⟨k + 1, by omega, by go_num, below_grown hb3 hg4 (by omega) hb3.size, hX3.grown hg4 (by simp <;> omega), hY3.grown hg4 (by simp <;> omega), hR3.grown hg4 (by simp <;> omega), by rw [BS.part_yes _ _ hlt (by simp [h1, h2])] at hS4; exact hS4⟩
        case measure => simp [intOf]; omega
    · obtain rfl : k = 256 := by omega
      rw [BS.part_all, BS.or_eq] at hS
      have hcS := hS.cell
      have hlS := hS.lt
      go_wp2_with (refine wpList_store_set rfl 24 (.tmp 4) (.tmp 25) rfl _ rfl _ rfl (by kernel_rfl) hR ?_; intro w4 hR4 hg4 hz4)
      exact ret_set Tryd.results39 rfl hR4 Tryd.underlying24 rfl (by kernel_rfl) rfl ⟨rfl, below_grown hb hg4 (by omega) hb.size⟩

set_option maxRecDepth 100000 in
set_option maxHeartbeats 2000000 in
theorem refAnd_any (s r : BS) (w : World) :
    Calls Tryd.prog 40 #[.agg s.cells, .agg r.cells] w (Ret (.agg (s.and r).cells) w) := by
  have hX0 : Blk ((((w.alloc (.cells s.cells 24)).alloc (.cells r.cells 24)).alloc (.cells BS.zero.cells 24)).alloc (.cells BS.zero.cells 24)) w.heap.size 24 s.cells := (((Blk.new w 24 _).alloc _).alloc _).alloc _
  have hY0 : Blk ((((w.alloc (.cells s.cells 24)).alloc (.cells r.cells 24)).alloc (.cells BS.zero.cells 24)).alloc (.cells BS.zero.cells 24)) (w.heap.size + 1) 24 r.cells := by have := ((Blk.new (w.alloc (.cells s.cells 24)) 24 r.cells).alloc (.cells BS.zero.cells 24)).alloc (.cells BS.zero.cells 24); rwa [World.size_alloc] at this
  have hR0 : Blk ((((w.alloc (.cells s.cells 24)).alloc (.cells r.cells 24)).alloc (.cells BS.zero.cells 24)).alloc (.cells BS.zero.cells 24)) (w.heap.size + 1 + 1) 24 BS.zero.cells := by have := (Blk.new ((w.alloc (.cells s.cells 24)).alloc (.cells r.cells 24)) 24 BS.zero.cells).alloc (.cells BS.zero.cells 24); rwa [World.size_alloc, World.size_alloc] at this
  have hS0 : Blk ((((w.alloc (.cells s.cells 24)).alloc (.cells r.cells 24)).alloc (.cells BS.zero.cells 24)).alloc (.cells BS.zero.cells 24)) (w.heap.size + 1 + 1 + 1) 24 BS.zero.cells := by have := Blk.new (((w.alloc (.cells s.cells 24)).alloc (.cells r.cells 24)).alloc (.cells BS.zero.cells 24)) 24 BS.zero.cells; rwa [World.size_alloc, World.size_alloc, World.size_alloc] at this
  go_enter Tryd.func40, Tryd.ntmps40
  go_wp2_with fail
  go_loopw [6] (fun i wr => ∃ k : Nat, k ≤ 256 ∧ i = .int .i64 (k : Int) ∧ Below w.heap.size w wr ∧ Blk wr w.heap.size 24 s.cells ∧ Blk wr (w.heap.size + 1) 24 r.cells ∧ Blk wr (w.heap.size + 1 + 1) 24 BS.zero.cells ∧ Blk wr (w.heap.size + 1 + 1 + 1) 24 (BS.part (fun n => s.has n && r.has n) k).cells) (fun i _ => 256 - (intOf i).toNat)
  case atStart => exact ⟨0, by omega, rfl, by (repeat' first | exact Below.refl _ _ | assumption | refine Below.alloc ?_ (by simp <;> omega) _ | refine Below.setCell ?_ (by simp <;> omega) _ | refine Below.drew ?_), hX0, hY0, hR0, by rw [BS.part_zero]; exact hS0⟩
  clear hX0 hY0 hR0 hS0
  case round =>
    obtain ⟨k, hk, rfl, hb, hX, hY, hR, hS⟩ := hrel
    by_cases hlt : k < 256
    · have hc1 := hX.cell
      have hc2 := hY.cell
      have hlX := hX.lt
      have hlY := hY.lt
      cases h1 : s.has k <;> cases h2 : r.has k
      · go_upto_region 5 with (fail)
        (refine wp_region_text_tail (C := Lies _) 10 (Lies.start _) ?_; simp only [List.take_succ_cons, List.take_zero, List.take_nil, List.drop_succ_cons, List.drop_zero, List.drop_nil]; (repeat (first | (refine quiet_skip rfl ?_; simp only [Act.put, List.setIfInBounds_toArray, List.set_cons_zero, List.set_cons_succ]) | (apply quiet_op _ rfl; (focus (intro w1 hw1; have hc1 := hw1.cells; go_simp; (try go_bits); (try (rw [if_pos (by omega)]; go_simp)); first | (go_at_call 23; with_reducible exact Calls.lies hw1 (refHas_eq _ _ _ (by omega) h1)) | (go_at_call 23; with_reducible exact Calls.lies hw1 (refHas_eq _ _ _ (by omega) h2)) | (go_at_call 23; exact Calls.lies hw1 (refHas_eq _ _ _ (by omega) h1)) | (go_at_call 23; exact Calls.lies hw1 (refHas_eq _ _ _ (by omega) h2)) | rfl)); simp only [Act.put, List.setIfInBounds_toArray, List.set_cons_zero, List.set_cons_succ]))); refine wpQuiet_nil ?_; intro w2 hw2)
        have hX2 := hX.lies hw2
        have hY2 := hY.lies hw2
        have hR2 := hR.lies hw2
        have hS2 := hS.lies hw2
        have hb2 := Lies.below hw2 hb.size hb
        have hcS := hS2.cell
        go_wp2
        go_roundw
        case rel => exact ⟨k + 1, by omega, by go_num, hb2, hX2, hY2, hR2, by rw [BS.part_no _ _ (by simp [h1, h2])]; exact hS2⟩
        case measure => simp [intOf]; omega
      · go_upto_region 5 with (fail)
        (refine wp_region_text_tail (C := Lies _) 10 (Lies.start _) ?_; simp only [List.take_succ_cons, List.take_zero, List.take_nil, List.drop_succ_cons, List.drop_zero, List.drop_nil]; (repeat (first | (refine quiet_skip rfl ?_; simp only [Act.put, List.setIfInBounds_toArray, List.set_cons_zero, List.set_cons_succ]) | (apply quiet_op _ rfl; (focus (intro w1 hw1; have hc1 := hw1.cells; go_simp; (try go_bits); (try (rw [if_pos (by omega)]; go_simp)); first | (go_at_call 23; with_reducible exact Calls.lies hw1 (refHas_eq _ _ _ (by omega) h1)) | (go_at_call 23; with_reducible exact Calls.lies hw1 (refHas_eq _ _ _ (by omega) h2)) | (go_at_call 23; exact Calls.lies hw1 (refHas_eq _ _ _ (by omega) h1)) | (go_at_call 23; exact Calls.lies hw1 (refHas_eq _ _ _ (by omega) h2)) | rfl)); simp only [Act.put, List.setIfInBounds_toArray, List.set_cons_zero, List.set_cons_succ]))); refine wpQuiet_nil ?_; intro w2 hw2)
        have hX2 := hX.lies hw2
        have hY2 := hY.lies hw2
        have hR2 := hR.lies hw2
        have hS2 := hS.lies hw2
        have hb2 := Lies.below hw2 hb.size hb
        have hcS := hS2.cell
        go_wp2
        go_roundw
        case rel => exact ⟨k + 1, by omega, by go_num, hb2, hX2, hY2, hR2, by rw [BS.part_no _ _ (by simp [h1, h2])]; exact hS2⟩
        case measure => simp [intOf]; omega
      · go_upto_region 5 with (fail)
        (refine wp_region_text_tail (C := Lies _) 10 (Lies.start _) ?_; simp only [List.take_succ_cons, List.take_zero, List.take_nil, List.drop_succ_cons, List.drop_zero, List.drop_nil]; (repeat (first | (refine quiet_skip rfl ?_; simp only [Act.put, List.setIfInBounds_toArray, List.set_cons_zero, List.set_cons_succ]) | (apply quiet_op _ rfl; (focus (intro w1 hw1; have hc1 := hw1.cells; go_simp; (try go_bits); (try (rw [if_pos (by omega)]; go_simp)); first | (go_at_call 23; with_reducible exact Calls.lies hw1 (refHas_eq _ _ _ (by omega) h1)) | (go_at_call 23; with_reducible exact Calls.lies hw1 (refHas_eq _ _ _ (by omega) h2)) | (go_at_call 23; exact Calls.lies hw1 (refHas_eq _ _ _ (by omega) h1)) | (go_at_call 23; exact Calls.lies hw1 (refHas_eq _ _ _ (by omega) h2)) | rfl)); simp only [Act.put, List.setIfInBounds_toArray, List.set_cons_zero, List.set_cons_succ]))); refine wpQuiet_nil ?_; intro w2 hw2)
        have hX2 := hX.lies hw2
        have hY2 := hY.lies hw2
        have hR2 := hR.lies hw2
        have hS2 := hS.lies hw2
        have hb2 := Lies.below hw2 hb.size hb
        have hcS := hS2.cell
        go_wp2
        go_roundw
        case rel => exact ⟨k + 1, by omega, by go_num, hb2, hX2, hY2, hR2, by rw [BS.part_no _ _ (by simp [h1, h2])]; exact hS2⟩
        case measure => simp [intOf]; omega
      · go_upto_region 5 with (fail)
        (refine wp_region_text_tail (C := Lies _) 10 (Lies.start _) ?_; simp only [List.take_succ_cons, List.take_zero, List.take_nil, List.drop_succ_cons, List.drop_zero, List.drop_nil]; (repeat (first | (refine quiet_skip rfl ?_; simp only [Act.put, List.setIfInBounds_toArray, List.set_cons_zero, List.set_cons_succ]) | (apply quiet_op _ rfl; (focus (intro w1 hw1; have hc1 := hw1.cells; go_simp; (try go_bits); (try (rw [if_pos (by omega)]; go_simp)); first | (go_at_call 23; with_reducible exact Calls.lies hw1 (refHas_eq _ _ _ (by omega) h1)) | (go_at_call 23; with_reducible exact Calls.lies hw1 (refHas_eq _ _ _ (by omega) h2)) | (go_at_call 23; exact Calls.lies hw1 (refHas_eq _ _ _ (by omega) h1)) | (go_at_call 23; exact Calls.lies hw1 (refHas_eq _ _ _ (by omega) h2)) | rfl)); simp only [Act.put, List.setIfInBounds_toArray, List.set_cons_zero, List.set_cons_succ]))); refine wpQuiet_nil ?_; intro w2 hw2)
        have hX2 := hX.lies hw2
        have hY2 := hY.lies hw2
        have hR2 := hR.lies hw2
        have hS2 := hS.lies hw2
        have hb2 := Lies.below hw2 hb.size hb
        have hcS := hS2.cell
        go_wp2_with (first | (go_at_call 60; refine (with_any _ _ _ (by omega)).mono ?_; rintro e w3 ⟨rfl, hw3⟩; have hX3 := hX2.lies hw3; have hY3 := hY2.lies hw3; have hR3 := hR2.lies hw3; have hS3 := hS2.lies hw3; have hb3 := Lies.below hw3 hb2.size hb2) | (refine wpList_store_set rfl 24 (.tmp 5) (.tmp 24) rfl _ rfl _ rfl (by kernel_rfl) hS3 ?_; intro w4 hS4 hg4 hz4))
        go_roundw
        case rel => exact ⟨k + 1, by omega, by go_num, below_grown hb3 hg4 (by omega) hb3.size, hX3.grown hg4 (by simp <;> omega), hY3.grown hg4 (by simp <;> omega), hR3.grown hg4 (by simp <;> omega), by rw [BS.part_yes _ _ hlt (by simp [h1, h2])] at hS4; exact hS4⟩
        case measure => simp [intOf]; omega
    · obtain rfl : k = 256 := by omega
      rw [BS.part_all, BS.and_eq] at hS
      have hcS := hS.cell
      have hlS := hS.lt
      go_wp2_with (refine wpList_store_set rfl 24 (.tmp 4) (.tmp 25) rfl _ rfl _ rfl (by kernel_rfl) hR ?_; intro w4 hR4 hg4 hz4)
      exact ret_set Tryd.results40 rfl hR4 Tryd.underlying24 rfl (by kernel_rfl) rfl ⟨rfl, below_grown hb hg4 (by omega) hb.size⟩

set_option maxRecDepth 100000 in
set_option maxHeartbeats 2000000 in
theorem refMinus_any (s r : BS) (w : World) :
    Calls Tryd.prog 41 #[.agg s.cells, .agg r.cells] w (Ret (.agg (s.minus r).cells) w) := by
  have hX0 : Blk ((((w.alloc (.cells s.cells 24)).alloc (.cells r.cells 24)).alloc (.cells BS.zero.cells 24)).alloc (.cells BS.zero.cells 24)) w.heap.size 24 s.cells := (((Blk.new w 24 _).alloc _).alloc _).alloc _
  have hY0 : Blk ((((w.alloc (.cells s.cells 24)).alloc (.cells r.cells 24)).alloc (.cells BS.zero.cells 24)).alloc (.cells BS.zero.cells 24)) (w.heap.size + 1) 24 r.cells := by have := ((Blk.new (w.alloc (.cells s.cells 24)) 24 r.cells).alloc (.cells BS.zero.cells 24)).alloc (.cells BS.zero.cells 24); rwa [World.size_alloc] at this
  have hR0 : Blk ((((w.alloc (.cells s.cells 24)).alloc (.cells r.cells 24)).alloc (.cells BS.zero.cells 24)).alloc (.cells BS.zero.cells 24)) (w.heap.size + 1 + 1) 24 BS.zero.cells := by have := (Blk.new ((w.alloc (.cells s.cells 24)).alloc (.cells r.cells 24)) 24 BS.zero.cells).alloc (.cells BS.zero.cells 24); rwa [World.size_alloc, World.size_alloc] at this
  have hS0 : Blk ((((w.alloc (.cells s.cells 24)).alloc (.cells r.cells 24)).alloc (.cells BS.zero.cells 24)).alloc (.cells BS.zero.cells 24)) (w.heap.size + 1 + 1 + 1) 24 BS.zero.cells := by have := Blk.new (((w.alloc (.cells s.cells 24)).alloc (.cells r.cells 24)).alloc (.cells BS.zero.cells 24)) 24 BS.zero.cells; rwa [World.size_alloc, World.size_alloc, World.size_alloc] at this
  go_enter Tryd.func41, Tryd.ntmps41
  go_wp2_with fail
  go_loopw [6] (fun i wr => ∃ k : Nat, k ≤ 256 ∧ i = .int .i64 (k : Int) ∧ Below w.heap.size w wr ∧ Blk wr w.heap.size 24 s.cells ∧ Blk wr (w.heap.size + 1) 24 r.cells ∧ Blk wr (w.heap.size + 1 + 1) 24 BS.zero.cells ∧ Blk wr (w.heap.size + 1 + 1 + 1) 24 (BS.part (fun n => s.has n && !r.has n) k).cells) (fun i _ => 256 - (intOf i).toNat)
  case atStart => exact ⟨0, by omega, rfl, by (repeat' first | exact Below.refl _ _ | assumption | refine Below.alloc ?_ (by simp <;> omega) _ | refine Below.setCell ?_ (by simp <;> omega) _ | refine Below.drew ?_), hX0, hY0, hR0, by rw [BS.part_zero]; exact hS0⟩
  clear hX0 hY0 hR0 hS0
  case round =>
    obtain ⟨k, hk, rfl, hb, hX, hY, hR, hS⟩ := hrel
    by_cases hlt : k < 256
    · have hc1 := hX.cell
      have hc2 := hY.cell
      have hlX := hX.lt
      have hlY := hY.lt
      cases h1 : s.has k <;> cases h2 : r.has k
      · go_upto_region 5 with (fail)
        (refine wp_region_text_tail (C := Lies _) 11 (Lies.start _) ?_; simp only [List.take_succ_cons, List.take_zero, List.take_nil, List.drop_succ_cons, List.drop_zero, List.drop_nil]; (repeat (first | (refine quiet_skip rfl ?_; simp only [Act.put, List.setIfInBounds_toArray, List.set_cons_zero, List.set_cons_succ]) | (apply quiet_op _ rfl; (focus (intro w1 hw1; have hc1 := hw1.cells; go_simp; (try go_bits); (try (rw [if_pos (by omega)]; go_simp)); first | (go_at_call 23; with_reducible exact Calls.lies hw1 (refHas_eq _ _ _ (by omega) h1)) | (go_at_call 23; with_reducible exact Calls.lies hw1 (refHas_eq _ _ _ (by omega) h2)) | (go_at_call 23; exact Calls.lies hw1 (refHas_eq _ _ _ (by omega) h1)) | (go_at_call 23; exact Calls.lies hw1 (refHas_eq _ _ _ (by omega) h2)) | rfl)); simp only [Act.put, List.setIfInBounds_toArray, List.set_cons_zero, List.set_cons_succ]))); refine wpQuiet_nil ?_; intro w2 hw2)
        have hX2 := hX.lies hw2
        have hY2 := hY.lies hw2
        have hR2 := hR.lies hw2
        have hS2 := hS.lies hw2
        have hb2 := Lies.below hw2 hb.size hb
        have hcS := hS2.cell
        go_wp2
        go_roundw
        case rel => exact ⟨k + 1, by omega, by go_num, hb2, hX2, hY2, hR2, by rw [BS.part_no _ _ (by simp [h1, h2])]; exact hS2⟩
        case measure => simp [intOf]; omega
      · go_upto_region 5 with (fail)
        (refine wp_region_text_tail (C := Lies _) 11 (Lies.start _) ?_; simp only [List.take_succ_cons, List.take_zero, List.take_nil, List.drop_succ_cons, List.drop_zero, List.drop_nil]; (repeat (first | (refine quiet_skip rfl ?_; simp only [Act.put, List.setIfInBounds_toArray, List.set_cons_zero, List.set_cons_succ]) | (apply quiet_op _ rfl; (focus (intro w1 hw1; have hc1 := hw1.cells; go_simp; (try go_bits); (try (rw [if_pos (by omega)]; go_simp)); first | (go_at_call 23; with_reducible exact Calls.lies hw1 (refHas_eq _ _ _ (by omega) h1)) | (go_at_call 23; with_reducible exact Calls.lies hw1 (refHas_eq _ _ _ (by omega) h2)) | (go_at_call 23; exact Calls.lies hw1 (refHas_eq _ _ _ (by omega) h1)) | (go_at_call 23; exact Calls.lies hw1 (refHas_eq _ _ _ (by omega) h2)) | rfl)); simp only [Act.put, List.setIfInBounds_toArray, List.set_cons_zero, List.set_cons_succ]))); refine wpQuiet_nil ?_; intro w2 hw2)
        have hX2 := hX.lies hw2
        have hY2 := hY.lies hw2
        have hR2 := hR.lies hw2
        have hS2 := hS.lies hw2
        have hb2 := Lies.below hw2 hb.size hb
        have hcS := hS2.cell
        go_wp2
        go_roundw
        case rel => exact ⟨k + 1, by omega, by go_num, hb2, hX2, hY2, hR2, by rw [BS.part_no _ _ (by simp [h1, h2])]; exact hS2⟩
        case measure => simp [intOf]; omega
      · go_upto_region 5 with (fail)
        (refine wp_region_text_tail (C := Lies _) 11 (Lies.start _) ?_; simp only [List.take_succ_cons, List.take_zero, List.take_nil, List.drop_succ_cons, List.drop_zero, List.drop_nil]; (repeat (first | (refine quiet_skip rfl ?_; simp only [Act.put, List.setIfInBounds_toArray, List.set_cons_zero, List.set_cons_succ]) | (apply quiet_op _ rfl; (focus (intro w1 hw1; have hc1 := hw1.cells; go_simp; (try go_bits); (try (rw [if_pos (by omega)]; go_simp)); first | (go_at_call 23; with_reducible exact Calls.lies hw1 (refHas_eq _ _ _ (by omega) h1)) | (go_at_call 23; with_reducible exact Calls.lies hw1 (refHas_eq _ _ _ (by omega) h2)) | (go_at_call 23; exact Calls.lies hw1 (refHas_eq _ _ _ (by omega) h1)) | (go_at_call 23; exact Calls.lies hw1 (refHas_eq _ _ _ (by omega) h2)) | rfl)); simp only [Act.put, List.setIfInBounds_toArray, List.set_cons_zero, List.set_cons_succ]))); refine wpQuiet_nil ?_; intro w2 hw2)
        have hX2 := hX.lies hw2
        have hY2 := hY.lies hw2
        have hR2 := hR.lies hw2
        have hS2 := hS.lies hw2
        have hb2 := Lies.below hw2 hb.size hb
        have hcS := hS2.cell
        go_wp2_with (first | (go_at_call 60; refine (with_any _ _ _ (by omega)).mono ?_; rintro e w3 ⟨rfl, hw3⟩; have hX3 := hX2.lies hw3; have hY3 := hY2.lies hw3; have hR3 := hR2.lies hw3; have hS3 := hS2.lies hw3; have hb3 := Lies.below hw3 hb2.size hb2) | (refine wpList_store_set rfl 24 (.tmp 5) (.tmp 25) rfl _ rfl _ rfl (by kernel_rfl) hS3 ?_; intro w4 hS4 hg4 hz4))
        go_roundw
        case rel => exact ⟨k + 1, by omega, by go_num, below_grown hb3 hg4 (by omega) hb3.size, hX3.grown hg4 (by simp <;> omega), hY3.grown hg4 (by simp <;> omega), hR3.grown hg4 (by simp <;> omega), by rw [BS.part_yes _ _ hlt (by simp [h1, h2])] at hS4; exact hS4⟩
        case measure => simp [intOf]; omega
      · go_upto_region 5 with (fail)
        (refine wp_region_text_tail (C := Lies _) 11 (Lies.start _) ?_; simp only [List.take_succ_cons, List.take_zero, List.take_nil, List.drop_succ_cons, List.drop_zero, List.drop_nil]; (repeat (first | (refine quiet_skip rfl ?_; simp only [Act.put, List.setIfInBounds_toArray, List.set_cons_zero, List.set_cons_succ]) | (apply quiet_op _ rfl; (focus (intro w1 hw1; have hc1 := hw1.cells; go_simp; (try go_bits); (try (rw [if_pos (by omega)]; go_simp)); first | (go_at_call 23; with_reducible exact Calls.lies hw1 (refHas_eq _ _ _ (by omega) h1)) | (go_at_call 23; with_reducible exact Calls.lies hw1 (refHas_eq _ _ _ (by omega) h2)) | (go_at_call 23; exact Calls.lies hw1 (refHas_eq _ _ _ (by omega) h1)) | (go_at_call 23; exact Calls.lies hw1 (refHas_eq _ _ _ (by omega) h2)) | rfl)); simp only [Act.put, List.setIfInBounds_toArray, List.set_cons_zero, List.set_cons_succ]))); refine wpQuiet_nil ?_; intro w2 hw2)
        have hX2 := hX.lies hw2
        have hY2 := hY.lies hw2
        have hR2 := hR.lies hw2
        have hS2 := hS.lies hw2
        have hb2 := Lies.below hw2 hb.size hb
        have hcS := hS2.cell
        go_wp2
        go_roundw
        case rel => exact ⟨k + 1, by omega, by go_num, hb2, hX2, hY2, hR2, by rw [BS.part_no _ _ (by simp [h1, h2])]; exact hS2⟩
        case measure => simp [intOf]; omega
    · obtain rfl : k = 256 := by omega
      rw [BS.part_all, BS.minus_eq] at hS
      have hcS := hS.cell
      have hlS := hS.lt
      go_wp2_with (refine wpList_store_set rfl 24 (.tmp 4) (.tmp 26) rfl _ rfl _ rfl (by kernel_rfl) hR ?_; intro w4 hR4 hg4 hz4)
      exact ret_set Tryd.results41 rfl hR4 Tryd.underlying24 rfl (by kernel_rfl) rfl ⟨rfl, below_grown hb hg4 (by omega) hb.size⟩

set_option maxRecDepth 100000 in
set_option maxHeartbeats 2000000 in
theorem refRange_any (a b : Nat) (w : World) (ha : a < 256) (hb : b < 256) :
    Calls Tryd.prog 21 #[.int .u8 (a : Int), .int .u8 (b : Int)] w (Ret (.agg (BS.range a b).cells) w) := by
  have hR0 : Blk ((w.alloc (.cells BS.zero.cells 24)).alloc (.cells BS.zero.cells 24)) w.heap.size 24 BS.zero.cells := (Blk.new w 24 _).alloc _
  have hS0 : Blk ((w.alloc (.cells BS.zero.cells 24)).alloc (.cells BS.zero.cells 24)) (w.heap.size + 1) 24 BS.zero.cells := by have := Blk.new (w.alloc (.cells BS.zero.cells 24)) 24 BS.zero.cells; rwa [World.size_alloc] at this
  go_enter Tryd.func21, Tryd.ntmps21
  go_wp2_with fail
  go_loopw [6] (fun i wr => ∃ k : Nat, k ≤ 256 ∧ i = .int .i64 (k : Int) ∧ Below w.heap.size w wr ∧ Blk wr w.heap.size 24 BS.zero.cells ∧ Blk wr (w.heap.size + 1) 24 (BS.part (fun n => decide (a ≤ n) && decide (n ≤ b)) k).cells) (fun i _ => 256 - (intOf i).toNat)
  case atStart => exact ⟨0, by omega, rfl, by (repeat' first | exact Below.refl _ _ | assumption | refine Below.alloc ?_ (by simp <;> omega) _ | refine Below.setCell ?_ (by simp <;> omega) _ | refine Below.drew ?_), hR0, by rw [BS.part_zero]; exact hS0⟩
  clear hR0 hS0
  case round =>
    obtain ⟨k, hk, rfl, hb', hR, hS⟩ := hrel
    by_cases hlt : k < 256
    · by_cases h1 : a ≤ k
      · by_cases h2 : k ≤ b
        · have hcS := hS.cell
          have hd1 : decide ((a : Int) ≤ (k : Int)) = true := by simp; omega
          have hd2 : decide ((k : Int) ≤ (b : Int)) = true := by simp; omega
          go_wp2_with (first | (go_at_call 60; refine (with_any _ _ _ (by omega)).mono ?_; rintro e w3 ⟨rfl, hw3⟩; have hR3 := hR.lies hw3; have hS3 := hS.lies hw3; have hb3 := Lies.below hw3 hb'.size hb') | (refine wpList_store_set rfl 24 (.tmp 5) (.tmp 24) rfl _ rfl _ rfl (by kernel_rfl) hS3 ?_; intro w4 hS4 hg4 hz4))
          go_roundw
          case rel => exact ⟨k + 1, by omega, by go_num, below_grown hb3 hg4 (by omega) hb3.size, hR3.grown hg4 (by simp <;> omega), by rw [BS.part_yes _ _ hlt (by simp [h1, h2])] at hS4; exact hS4⟩
          case measure => simp [intOf]; omega
        · have hd1 : decide ((a : Int) ≤ (k : Int)) = true := by simp; omega
          have hd2 : decide ((k : Int) ≤ (b : Int)) = false := by simp; omega
          go_wp2
          go_roundw
          case rel => exact ⟨k + 1, by omega, by go_num, hb', hR, by rw [BS.part_no _ _ (by simp [h2])]; exact hS⟩
          case measure => simp [intOf]; omega
      · have hd1 : decide ((a : Int) ≤ (k : Int)) = false := by simp; omega
        go_wp2
        go_roundw
        case rel => exact ⟨k + 1, by omega, by go_num, hb', hR, by rw [BS.part_no _ _ (by simp [h1])]; exact hS⟩
        case measure => simp [intOf]; omega
    · obtain rfl : k = 256 := by omega
      rw [BS.part_all] at hS
      have hcS := hS.cell
      have hlS := hS.lt
      go_wp2_with (refine wpList_store_set rfl 24 (.tmp 4) (.tmp 25) rfl _ rfl _ rfl (by kernel_rfl) hR ?_; intro w4 hR4 hg4 hz4)
      exact ret_set Tryd.results21 rfl hR4 Tryd.underlying24 rfl (by kernel_rfl) rfl ⟨rfl, below_grown hb' hg4 (by omega) hb'.size⟩

theorem BS.range_full : BS.range 0 255 = BS.full := BS.ext_has fun n hn => by
  rw [BS.has_range _ _ _ hn, BS.has_full]
  have : n ≤ 255 := by omega
  simp [this]
set_option maxHeartbeats 1000000 in
theorem refAll_any (w : World) : Calls Tryd.prog 63 #[] w (Ret (.agg BS.full.cells) w) := by
  have hR0 := Blk.new w 24 BS.zero.cells
  go_enter Tryd.func63, Tryd.ntmps63
  go_wp2_with (first | (go_at_call 21; refine (refRange_any 0 255 _ (by omega) (by omega)).mono ?_; rw [BS.range_full]; rintro e w2 ⟨rfl, hw2⟩; have hR2 := hR0.lies hw2; have hb2 := Lies.below hw2 (by simp) ((Below.refl w.heap.size w).alloc (Nat.le_refl _) _)) | (refine wpList_store_set rfl 24 (.tmp 0) (.tmp 1) rfl _ rfl _ rfl (by kernel_rfl) hR2 ?_; intro w4 hR4 hg4 hz4))
  exact ret_set Tryd.results63 rfl hR4 Tryd.underlying24 rfl (by kernel_rfl) rfl ⟨rfl, below_grown hb2 hg4 (by omega) hb2.size⟩

theorem BS.minus_full (s : BS) : BS.full.minus s = s.not := BS.ext_has fun n hn => by
  rw [BS.has_minus, BS.has_full, BS.has_not]; rfl
set_option maxHeartbeats 1000000 in
theorem refNot_any (s : BS) (w : World) : Calls Tryd.prog 42 #[.agg s.cells] w (Ret (.agg s.not.cells) w) := by
  have hR0 : Blk ((w.alloc (.cells s.cells 24)).alloc (.cells BS.zero.cells 24)) (w.heap.size + 1) 24 BS.zero.cells := by have := Blk.new (w.alloc (.cells s.cells 24)) 24 BS.zero.cells; rwa [World.size_alloc] at this
  have hb0 : Below w.heap.size w ((w.alloc (.cells s.cells 24)).alloc (.cells BS.zero.cells 24)) := by (repeat' first | exact Below.refl _ _ | assumption | refine Below.alloc ?_ (by simp <;> omega) _ | refine Below.setCell ?_ (by simp <;> omega) _ | refine Below.drew ?_)
  go_enter Tryd.func42, Tryd.ntmps42
  go_upto_region 1 with (fail)
  (refine wp_region_quiet_tail (C := Lies _) 3 (by kernel_rfl) (by kernel_rfl) (Lies.drew (Lies.start _)) ?_; simp only [List.take_succ_cons, List.take_zero, List.take_nil, List.drop_succ_cons, List.drop_zero, List.drop_nil]; (repeat (first | (refine quiet_skip rfl ?_; simp only [Act.put, List.setIfInBounds_toArray, List.set_cons_zero, List.set_cons_succ]) | (apply quiet_op _ rfl; (focus (intro w1 hw1; have hc1 := hw1.cells; go_simp; (try go_bits); (try (rw [if_pos (by omega)]; go_simp)); first | (go_at_call 63; with_reducible exact Calls.lies hw1 (refAll_any _)) | (go_at_call 41; with_reducible exact Calls.lies hw1 (refMinus_any _ _ _)) | (go_at_call 63; exact Calls.lies hw1 (refAll_any _)) | (go_at_call 41; exact Calls.lies hw1 (refMinus_any _ _ _)) | rfl)); simp only [Act.put, List.setIfInBounds_toArray, List.set_cons_zero, List.set_cons_succ]))); refine wpQuiet_nil ?_; intro w2 hw2)
  have hR2 := hR0.lies hw2
  have hb2 := Lies.below hw2 (by simp <;> omega) hb0
  go_wp2_with (refine wpList_store_set rfl 24 (.tmp 2) (.tmp 5) rfl _ rfl _ rfl (by kernel_rfl) hR2 ?_; intro w4 hR4 hg4 hz4)
  refine ret_set Tryd.results42 rfl hR4 Tryd.underlying24 rfl (by kernel_rfl) rfl ⟨by rw [BS.minus_full], below_grown hb2 hg4 (by omega) hb2.size⟩
set_option maxRecDepth 100000 in
set_option maxHeartbeats 2000000 in
theorem refOf_any (s : ByteArray) (w : World) (hs : s.size ≤ 140737488351232) :
    Calls Tryd.prog 19 #[.string s] w (Ret (.agg (BS.ofBytes s.data.toList).cells) w) := by
  have hR0 : Blk ((w.alloc (.cells BS.zero.cells 24)).alloc (.cells BS.zero.cells 24)) w.heap.size 24 BS.zero.cells := (Blk.new w 24 _).alloc _
  have hS0 : Blk ((w.alloc (.cells BS.zero.cells 24)).alloc (.cells BS.zero.cells 24)) (w.heap.size + 1) 24 BS.zero.cells := by have := Blk.new (w.alloc (.cells BS.zero.cells 24)) 24 BS.zero.cells; rwa [World.size_alloc] at this
  go_enter Tryd.func19, Tryd.ntmps19
  go_wp2_with fail
  go_loopw [4] (fun i wr => ∃ k : Nat, k ≤ s.size ∧ i = .int .i64 (k : Int) ∧ Below w.heap.size w wr ∧ Blk wr w.heap.size 24 BS.zero.cells ∧ Blk wr (w.heap.size + 1) 24 (BS.ofBytes (s.data.toList.take k)).cells) (fun i _ => s.size - (intOf i).toNat)
  case atStart => exact ⟨0, by omega, rfl, by (repeat' first | exact Below.refl _ _ | assumption | refine Below.alloc ?_ (by simp <;> omega) _ | refine Below.setCell ?_ (by simp <;> omega) _ | refine Below.drew ?_), hR0, hS0⟩
  clear hR0 hS0
  case round =>
    obtain ⟨k, hk, rfl, hb', hR, hS⟩ := hrel
    by_cases hlt : k < s.size
    · have hcS := hS.cell
      have hlS := hS.lt
      have hby := s[k].toNat_lt
      go_upto_region 5 with (fail)
      (refine wp_region_quiet_tail (C := Lies _) 5 (by kernel_rfl) (by kernel_rfl) (Lies.drew (Lies.start _)) ?_; simp only [List.take_succ_cons, List.take_zero, List.take_nil, List.drop_succ_cons, List.drop_zero, List.drop_nil]; (repeat (first | (refine quiet_skip rfl ?_; simp only [Act.put, List.setIfInBounds_toArray, List.set_cons_zero, List.set_cons_succ]) | (apply quiet_op _ rfl; (focus (intro w1 hw1; have hc1 := hw1.cells; go_simp; (try go_bits); (try (rw [if_pos (by omega)]; go_simp)); first | (go_at_call 60; with_reducible exact Calls.lies hw1 (with_any _ _ _ (by omega))) | (go_at_call 60; exact Calls.lies hw1 (with_any _ _ _ (by omega))) | rfl)); simp only [Act.put, List.setIfInBounds_toArray, List.set_cons_zero, List.set_cons_succ]))); refine wpQuiet_nil ?_; intro w2 hw2)
      have hR2 := hR.lies hw2
      have hS2 := hS.lies hw2
      have hb2 := Lies.below hw2 hb'.size hb'
      go_wp2_with (refine wpList_store_set rfl 24 (.tmp 3) (.tmp 15) rfl _ rfl _ rfl (by kernel_rfl) hS2 ?_; intro w4 hS4 hg4 hz4)
      go_roundw
      case rel => exact ⟨k + 1, by omega, by go_num, below_grown hb2 hg4 (by omega) hb2.size, hR2.grown hg4 (by simp <;> omega), by rw [take_snoc s k hlt, BS.ofBytes_snoc]; exact hS4⟩
      case measure => simp [intOf]; omega
    · obtain rfl : k = s.size := by omega
      rw [take_all] at hS
      have hcS := hS.cell
      have hlS := hS.lt
      go_wp2_with (refine wpList_store_set rfl 24 (.tmp 2) (.tmp 16) rfl _ rfl _ rfl (by kernel_rfl) hR ?_; intro w4 hR4 hg4 hz4)
      exact ret_set Tryd.results19 rfl hR4 Tryd.underlying24 rfl (by kernel_rfl) rfl ⟨rfl, below_grown hb' hg4 (by omega) hb'.size⟩

theorem BS.range_none (a b : Nat) (h : b < a) : BS.range a b = BS.zero := BS.ext_has fun n hn => by
  rw [BS.has_range _ _ _ hn, BS.has_zero]
  by_cases h1 : a ≤ n
  · have : ¬ n ≤ b := by omega
    simp [this]
  · simp [h1]
theorem BS.range_succ (a b : Nat) (h : a ≤ b + 1) (hb : b + 1 < 256) : (BS.range a b).ins (b + 1) = BS.range a (b + 1) := BS.ext_has fun n hn => by
  rw [BS.has_ins _ _ _ hb hn, BS.has_range _ _ _ hn, BS.has_range _ _ _ hn]
  by_cases h1 : n = b + 1
  · subst h1; simp [h]
  · have : (n ≤ b) = (n ≤ b + 1) := by rw [eq_iff_iff]; omega
    simp [h1, this]
/-- From a up to, but not with, k. -/
def BS.upto (a k : Nat) : BS := BS.ofFn fun n => decide (a ≤ n) && decide (n < k)
theorem BS.upto_start (a : Nat) : BS.upto a a = BS.zero := BS.ext_has fun n hn => by
  rw [BS.upto, BS.has_ofFn _ _ hn, BS.has_zero]
  by_cases h1 : a ≤ n
  · have : ¬ n < a := by omega
    simp [this]
  · simp [h1]
theorem BS.upto_succ (a k : Nat) (h : a ≤ k) (hk : k < 256) : (BS.upto a k).ins k = BS.upto a (k + 1) := BS.ext_has fun n hn => by
  rw [BS.has_ins _ _ _ hk hn, BS.upto, BS.upto, BS.has_ofFn _ _ hn, BS.has_ofFn _ _ hn]
  by_cases h1 : n = k
  · subst h1; simp [h]
  · have : (n < k + 1) = (n < k) := by rw [eq_iff_iff]; omega
    simp [h1, this]
theorem BS.upto_end (a b : Nat) : BS.upto a (b + 1) = BS.range a b := BS.ext_has fun n hn => by
  rw [BS.upto, BS.has_ofFn _ _ hn, BS.has_range _ _ _ hn]
  have : (n < b + 1) = (n ≤ b) := by rw [eq_iff_iff]; omega
  simp [this]
set_option maxRecDepth 100000 in
set_option maxHeartbeats 2000000 in
theorem range_any (a b : Nat) (w : World) (ha : a < 256) (hb : b < 256) :
    Calls Tryd.prog 20 #[.int .u8 (a : Int), .int .u8 (b : Int)] w (Ret (.agg (BS.range a b).cells) w) := by
  have hR0 : Blk ((w.alloc (.cells BS.zero.cells 24)).alloc (.cells BS.zero.cells 24)) w.heap.size 24 BS.zero.cells := (Blk.new w 24 _).alloc _
  have hS0 : Blk ((w.alloc (.cells BS.zero.cells 24)).alloc (.cells BS.zero.cells 24)) (w.heap.size + 1) 24 BS.zero.cells := by have := Blk.new (w.alloc (.cells BS.zero.cells 24)) 24 BS.zero.cells; rwa [World.size_alloc] at this
  go_enter Tryd.func20, Tryd.ntmps20
  go_wp2_with fail
  go_loopw [6] (fun i wr => ∃ k : Nat, a ≤ k ∧ (k ≤ b + 1 ∨ k = a) ∧ i = .int .i64 (k : Int) ∧ Below w.heap.size w wr ∧ Blk wr w.heap.size 24 BS.zero.cells ∧ Blk wr (w.heap.size + 1) 24 (BS.upto a k).cells) (fun i _ => 256 - (intOf i).toNat)
  case atStart => exact ⟨a, by omega, by omega, rfl, by (repeat' first | exact Below.refl _ _ | assumption | refine Below.alloc ?_ (by simp <;> omega) _ | refine Below.setCell ?_ (by simp <;> omega) _ | refine Below.drew ?_), hR0, by rw [BS.upto_start]; exact hS0⟩
  clear hR0 hS0
  case round =>
    obtain ⟨k, hak, hk, rfl, hb', hR, hS⟩ := hrel
    by_cases hlt : k ≤ b
    · have hcS := hS.cell
      have hlS := hS.lt
      have hk4 : k / 64 < 4 := by omega
      have hkm : k % 64 < 64 := by omega
      go_upto_region 5 with (fail)
      (refine wp_region_quiet_tail (C := Lies _) 9 (by kernel_rfl) (by kernel_rfl) (Lies.drew (Lies.start _)) ?_; simp only [List.take_succ_cons, List.take_zero, List.take_nil, List.drop_succ_cons, List.drop_zero, List.drop_nil]; (repeat (first | (refine quiet_skip rfl ?_; simp only [Act.put, List.setIfInBounds_toArray, List.set_cons_zero, List.set_cons_succ]) | (apply quiet_op _ rfl; (focus (intro w1 hw1; have hc1 := hw1.cells; go_simp; (try go_bits); (try (rw [if_pos (by omega)]; go_simp)); first | rfl)); simp only [Act.put, List.setIfInBounds_toArray, List.set_cons_zero, List.set_cons_succ]))); refine wpQuiet_nil ?_; intro w2 hw2)
      have hR2 := hR.lies hw2
      have hS2 := hS.lies hw2
      have hb2 := Lies.below hw2 hb'.size hb'
      go_wp2_with (refine wpList_store_word rfl 22 (.tmp 23) (.tmp 22) rfl (w.heap.size + 1) (k / 64) rfl _ rfl (by kernel_rfl) hS2 hk4 ?_; intro w4 hS4 hg4 hz4)
      go_roundw
      case rel => exact ⟨k + 1, by omega, by omega, by go_num, below_grown hb2 hg4 (by omega) hb2.size, hR2.grown hg4 (by simp <;> omega), by rw [← BS.upto_succ a k hak (by omega)]; exact hS4⟩
      case measure => simp [intOf]; omega
    · have hS' : Blk wr (w.heap.size + 1) 24 (BS.range a b).cells := by
        rcases hk with hk | hk
        · obtain rfl : k = b + 1 := by omega
          rwa [BS.upto_end] at hS
        · subst hk
          rw [BS.upto_start] at hS
          rwa [BS.range_none _ _ (by omega)]
      have hcS := hS'.cell
      have hlS := hS'.lt
      clear hS
      go_wp2_with (refine wpList_store_set rfl 24 (.tmp 4) (.tmp 24) rfl _ rfl _ rfl (by kernel_rfl) hR ?_; intro w4 hR4 hg4 hz4)
      exact ret_set Tryd.results20 rfl hR4 Tryd.underlying24 rfl (by kernel_rfl) rfl ⟨rfl, below_grown hb' hg4 (by omega) hb'.size⟩
end Go.Proofs.YtakcckdnliiieaaDoor
