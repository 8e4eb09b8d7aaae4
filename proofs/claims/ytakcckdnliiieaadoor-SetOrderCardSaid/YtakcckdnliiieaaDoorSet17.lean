/- SetOrder. -/
import Derived.Test.YtakcckdnliiieaaDoorSet14
namespace Go.Proofs.YtakcckdnliiieaaDoor
open Go Go.RowKit
attribute [local go_sem] Oper.quietAt Oper.quietUpon Oper.loudAt Oper.loudUpon
theorem BS.bytes_eq_iff (s t : BS) : s.cmp t = 0 ↔ s = t := by
  unfold BS.cmp
  rw [cmpL_eq]
  exact ⟨fun h => BS.bytes_inj h, fun h => by rw [h]⟩
theorem cmpL_trans : ∀ (l m n : List UInt8), cmpL l m ≤ 0 → cmpL m n ≤ 0 → cmpL l n ≤ 0 ∧ (cmpL l m < 0 → cmpL l n < 0)
  | [], [], [], _, _ => by simp [cmpL]
  | [], [], c :: n, _, _ => by simp [cmpL]
  | [], b :: m, [], _, h => by simp [cmpL] at h
  | [], b :: m, c :: n, _, _ => by simp [cmpL]
  | a :: l, [], n, h, _ => by simp [cmpL] at h
  | a :: l, b :: m, [], _, h => by simp [cmpL] at h
  | a :: l, b :: m, c :: n, h1, h2 => by
    have ih := cmpL_trans l m n
    simp only [cmpL] at h1 h2 ⊢
    by_cases ab : a < b
    · rw [if_pos ab]
      by_cases bc : b < c
      · have : a < c := UInt8.lt_trans ab bc
        rw [if_pos this]; simp
      · rw [if_neg bc] at h2
        by_cases cb : c < b
        · rw [if_pos cb] at h2; omega
        · have : b = c := UInt8.le_antisymm (UInt8.not_lt.1 cb) (UInt8.not_lt.1 bc)
          subst this
          rw [if_pos ab]; simp
    · rw [if_neg ab] at h1 ⊢
      by_cases ba : b < a
      · rw [if_pos ba] at h1; omega
      · rw [if_neg ba] at h1 ⊢
        have : a = b := UInt8.le_antisymm (UInt8.not_lt.1 ba) (UInt8.not_lt.1 ab)
        subst this
        by_cases bc : a < c
        · rw [if_pos bc]; simp
        · rw [if_neg bc] at h2 ⊢
          by_cases cb : c < a
          · rw [if_pos cb] at h2; omega
          · rw [if_neg cb] at h2 ⊢
            exact ih h1 h2
theorem BS.cmp_swap (s t : BS) : t.cmp s = - s.cmp t := cmpL_swap _ _
theorem BS.cmp_three (s t : BS) : s.cmp t = -1 ∨ s.cmp t = 0 ∨ s.cmp t = 1 := cmpL_three _ _
theorem BS.cmp_trans (s t u : BS) (h1 : s.cmp t ≤ 0) (h2 : t.cmp u ≤ 0) : s.cmp u ≤ 0 ∧ (s.cmp t < 0 → s.cmp u < 0) := cmpL_trans _ _ _ h1 h2
theorem BS.and_or_iff (s t : BS) : (s.and t = s) ↔ (s.or t = t) := by
  constructor
  · intro h
    refine BS.ext_has fun n hn => ?_
    have := congrArg (fun x => BS.has x n) h
    simp only [BS.has_and] at this
    rw [BS.has_or]
    cases h1 : s.has n <;> cases h2 : t.has n <;> simp_all
  · intro h
    refine BS.ext_has fun n hn => ?_
    have := congrArg (fun x => BS.has x n) h
    simp only [BS.has_or] at this
    rw [BS.has_and]
    cases h1 : s.has n <;> cases h2 : t.has n <;> simp_all
theorem BS.and_and (s t : BS) : (s.and t).and s = s.and t := BS.ext_has fun n hn => by
  simp only [BS.has_and]
  cases s.has n <;> cases t.has n <;> rfl
theorem BS.and_or_self (s t : BS) : s.and (s.or t) = s := BS.ext_has fun n hn => by
  simp only [BS.has_and, BS.has_or]
  cases s.has n <;> cases t.has n <;> rfl
theorem subset_eq (s t : BS) (b : Bool) (h : decide (s.and t = s) = b) (w : World) : Calls Tryd.prog 32 #[.agg s.cells, .agg t.cells] w (Ret (.bool b) w) := by
  subst h; exact subset_any s t w
set_option maxRecDepth 100000 in
set_option maxHeartbeats 8000000 in
theorem order_any (s t u : BS) (w : World) (he : Env w) : Calls Tryd.prog 6 #[.agg s.cells, .agg t.cells, .agg u.cells] w (Ret (.bool true) w) := by
  obtain ⟨W0, hW0⟩ : ∃ W0, ((w.alloc (.cells s.cells 24)).alloc (.cells t.cells 24)).alloc (.cells u.cells 24) = W0 := ⟨_, rfl⟩
  have hS0 : Blk W0 w.heap.size 24 s.cells := by rw [← hW0]; exact ((Blk.new w 24 _).alloc _).alloc _
  have hT0 : Blk W0 (w.heap.size + 1) 24 t.cells := by
    rw [← hW0]; have := (Blk.new (w.alloc (.cells s.cells 24)) 24 t.cells).alloc (.cells u.cells 24); rwa [World.size_alloc] at this
  have hU0 : Blk W0 (w.heap.size + 1 + 1) 24 u.cells := by
    rw [← hW0]; have := Blk.new ((w.alloc (.cells s.cells 24)).alloc (.cells t.cells 24)) 24 u.cells; rwa [World.size_alloc, World.size_alloc] at this
  have hB0 : Below w.heap.size w W0 := by rw [← hW0]; (repeat' first | exact Below.refl _ _ | assumption | refine Below.alloc ?_ (by simp <;> omega) _ | refine Below.setCell ?_ (by simp <;> omega) _ | refine Below.drew ?_)
  have he0 : Env W0 := he.below hB0 he.1
  obtain ⟨c1, hc1⟩ : ∃ c, s.cmp t = c := ⟨_, rfl⟩
  obtain ⟨c2, hc2⟩ : ∃ c, t.cmp u = c := ⟨_, rfl⟩
  obtain ⟨c3, hc3⟩ : ∃ c, s.cmp u = c := ⟨_, rfl⟩
  obtain ⟨b, hb⟩ : ∃ b, decide (s.and t = s) = b := ⟨_, rfl⟩
  have hb2 : decide (s.or t = t) = b := by rw [← hb]; exact (decide_eq_decide.2 (BS.and_or_iff s t)).symm
  have k1 : ∀ w, Env w → Calls Tryd.prog 34 #[.agg s.cells, .agg t.cells] w (Ret (.int .i64 c1) w) := cmp_eq s t c1 hc1
  have k2 : ∀ w, Env w → Calls Tryd.prog 34 #[.agg t.cells, .agg u.cells] w (Ret (.int .i64 c2) w) := cmp_eq t u c2 hc2
  have k3 : ∀ w, Env w → Calls Tryd.prog 34 #[.agg s.cells, .agg u.cells] w (Ret (.int .i64 c3) w) := cmp_eq s u c3 hc3
  have k4 : ∀ w, Env w → Calls Tryd.prog 34 #[.agg t.cells, .agg s.cells] w (Ret (.int .i64 (-c1)) w) := cmp_eq t s (-c1) (by rw [BS.cmp_swap, hc1])
  have k5 : ∀ w, Calls Tryd.prog 32 #[.agg s.cells, .agg t.cells] w (Ret (.bool b) w) := subset_eq s t b hb
  have k6 : ∀ w, Calls Tryd.prog 32 #[.agg (s.and t).cells, .agg s.cells] w (Ret (.bool true) w) := subset_eq _ _ _ (decide_eq_true (BS.and_and s t))
  have k7 : ∀ w, Calls Tryd.prog 32 #[.agg s.cells, .agg (s.or t).cells] w (Ret (.bool true) w) := subset_eq _ _ _ (decide_eq_true (BS.and_or_self s t))
  have h1 := BS.cmp_three s t
  have h2 := BS.cmp_three t u
  have h3 := BS.cmp_trans s t u
  have h4 : decide (s = t) = decide (c1 = 0) := by rw [← hc1]; exact (decide_eq_decide.2 (BS.bytes_eq_iff s t)).symm
  rw [hc1] at h1 h3
  rw [hc2] at h2 h3
  rw [hc3] at h3
  clear hc1 hc2 hc3 hb
  have hcS0 := hS0.cell
  go_enter Tryd.func6, Tryd.ntmps6
  go_upto_region 1 with (fail)
  clear hW0
  go_upto_region 3 with (go_at_call 15; refine (awake_any _ he0).mono ?_; rintro e w2 ⟨rfl, hw2⟩)
  have hS2 := hS0.lies hw2
  have hT2 := hT0.lies hw2
  have hU2 := hU0.lies hw2
  have hB2 := Lies.below hw2 hB0.size hB0
  have he2 := he0.lies hw2
  have hcS := hS2.cell
  have hcT := hT2.cell
  have hcU := hU2.cell
  have hlS := hS2.lt
  have hlT := hT2.lt
  have hlU := hU2.lt
  clear hS0 hT0 hU0 hB0 he0 hw2 hcS0
  (refine wp_region_quiet_all (C := Lies _) (by kernel_rfl) (by kernel_rfl) (Lies.drew (Lies.start _)) ?_; (repeat (first | (refine quiet_skip rfl ?_; simp only [Act.put, List.setIfInBounds_toArray, List.set_cons_zero, List.set_cons_succ]) | (apply quiet_op _ rfl; (focus (intro w1 hw1; have hc1 := hw1.cells; go_simp; (try go_bits); (try (rw [if_pos (by omega)]; go_simp)); first | (go_at_call 34; with_reducible exact Calls.lies hw1 (k1 _ (he2.lies hw1))) | (go_at_call 34; with_reducible exact Calls.lies hw1 (k2 _ (he2.lies hw1))) | (go_at_call 34; with_reducible exact Calls.lies hw1 (k3 _ (he2.lies hw1))) | (go_at_call 34; exact Calls.lies hw1 (k1 _ (he2.lies hw1))) | (go_at_call 34; exact Calls.lies hw1 (k2 _ (he2.lies hw1))) | (go_at_call 34; exact Calls.lies hw1 (k3 _ (he2.lies hw1))) | rfl)); simp only [Act.put, List.setIfInBounds_toArray, List.set_cons_zero, List.set_cons_succ]))); refine wpQuiet_nil ?_; intro w3 hw3)
  have hS3 := hS2.lies hw3
  have hT3 := hT2.lies hw3
  have hB3 := Lies.below hw3 hB2.size hB2
  have he3 := he2.lies hw3
  have hcS3 := hS3.cell
  have hcT3 := hT3.cell
  have hlS3 := hS3.lt
  have hlT3 := hT3.lt
  clear hS2 hT2 hU2 hB2 he2 hw3 hcS hcT hcU hlS hlT hlU k1 k2 k3
  have hcase : (c1 = 1) ∨ (c1 = 0 ∧ c2 = 1) ∨ (c1 = -1 ∧ c2 = 1) ∨ (c1 = 0 ∧ c2 ≤ 0 ∧ c3 ≤ 0) ∨ (c1 = -1 ∧ c2 = 0 ∧ c3 ≤ 0) ∨ (c1 = -1 ∧ c2 = -1 ∧ c3 < 0) := by omega
  clear h1 h2 h3
  rcases hcase with rfl | ⟨rfl, rfl⟩ | ⟨rfl, rfl⟩ | ⟨rfl, h5, h6⟩ | ⟨rfl, rfl, h6⟩ | ⟨rfl, rfl, h6⟩
  · have h4' : decide (s = t) = false := h4
    clear h4
    go_upto_region 4 with (fail)
    (refine wp_region_text_tail (C := Lies _) 45 (Lies.start _) ?_; simp only [List.take_succ_cons, List.take_zero, List.take_nil, List.drop_succ_cons, List.drop_zero, List.drop_nil]; (repeat (first | (refine quiet_skip rfl ?_; simp only [Act.put, List.setIfInBounds_toArray, List.set_cons_zero, List.set_cons_succ]) | (apply quiet_op _ rfl; (focus (intro w1 hw1; have hc1 := hw1.cells; go_simp; (try go_bits); (try (rw [if_pos (by omega)]; go_simp)); first | (go_at_call 34; with_reducible exact Calls.lies hw1 (k4 _ (he3.lies hw1))) | (go_at_call 34; exact Calls.lies hw1 (k4 _ (he3.lies hw1))) | rfl)); simp only [Act.put, List.setIfInBounds_toArray, List.set_cons_zero, List.set_cons_succ]))); refine wpQuiet_nil ?_; intro w4 hw4)
    have hS4 := hS3.lies hw4
    have hT4 := hT3.lies hw4
    have hcS4 := hS4.cell
    have hcT4 := hT4.cell
    have hlS4 := hS4.lt
    have hlT4 := hT4.lt
    clear hcS3 hcT3 hlS3 hlT3
    go_upto_region 6 with (fail)
    (refine wp_region_quiet_all (C := Lies _) (by kernel_rfl) (by kernel_rfl) (Lies.drew (Lies.start _)) ?_; (repeat (first | (refine quiet_skip rfl ?_; simp only [Act.put, List.setIfInBounds_toArray, List.set_cons_zero, List.set_cons_succ]) | (apply quiet_op _ rfl; (focus (intro w1 hw1; have hc1 := hw1.cells; go_simp; (try go_bits); (try (rw [if_pos (by omega)]; go_simp)); first | (go_at_call 32; with_reducible exact Calls.lies hw1 (k5 _)) | (go_at_call 32; with_reducible exact Calls.lies hw1 (k6 _)) | (go_at_call 32; with_reducible exact Calls.lies hw1 (k7 _)) | (go_at_call 29; with_reducible exact Calls.lies hw1 (or_any s t _)) | (go_at_call 35; with_reducible exact Calls.lies hw1 (and_any s t _)) | (go_at_call 33; with_reducible exact Calls.lies hw1 (meets_any s t _)) | (go_at_call 32; exact Calls.lies hw1 (k5 _)) | (go_at_call 32; exact Calls.lies hw1 (k6 _)) | (go_at_call 32; exact Calls.lies hw1 (k7 _)) | (go_at_call 29; exact Calls.lies hw1 (or_any s t _)) | (go_at_call 35; exact Calls.lies hw1 (and_any s t _)) | (go_at_call 33; exact Calls.lies hw1 (meets_any s t _)) | rfl)); simp only [Act.put, List.setIfInBounds_toArray, List.set_cons_zero, List.set_cons_succ]))); refine wpQuiet_nil ?_; intro w5 hw5)
    go_wp2
    go_ret
    exact ⟨rfl, Lies.below hw5 (Lies.below hw4 hB3.size hB3).size (Lies.below hw4 hB3.size hB3)⟩
  · have h4' : decide (s = t) = true := h4
    clear h4
    go_upto_region 4 with (fail)
    (refine wp_region_text_tail (C := Lies _) 45 (Lies.start _) ?_; simp only [List.take_succ_cons, List.take_zero, List.take_nil, List.drop_succ_cons, List.drop_zero, List.drop_nil]; (repeat (first | (refine quiet_skip rfl ?_; simp only [Act.put, List.setIfInBounds_toArray, List.set_cons_zero, List.set_cons_succ]) | (apply quiet_op _ rfl; (focus (intro w1 hw1; have hc1 := hw1.cells; go_simp; (try go_bits); (try (rw [if_pos (by omega)]; go_simp)); first | (go_at_call 34; with_reducible exact Calls.lies hw1 (k4 _ (he3.lies hw1))) | (go_at_call 34; exact Calls.lies hw1 (k4 _ (he3.lies hw1))) | rfl)); simp only [Act.put, List.setIfInBounds_toArray, List.set_cons_zero, List.set_cons_succ]))); refine wpQuiet_nil ?_; intro w4 hw4)
    have hS4 := hS3.lies hw4
    have hT4 := hT3.lies hw4
    have hcS4 := hS4.cell
    have hcT4 := hT4.cell
    have hlS4 := hS4.lt
    have hlT4 := hT4.lt
    clear hcS3 hcT3 hlS3 hlT3
    go_upto_region 6 with (fail)
    (refine wp_region_quiet_all (C := Lies _) (by kernel_rfl) (by kernel_rfl) (Lies.drew (Lies.start _)) ?_; (repeat (first | (refine quiet_skip rfl ?_; simp only [Act.put, List.setIfInBounds_toArray, List.set_cons_zero, List.set_cons_succ]) | (apply quiet_op _ rfl; (focus (intro w1 hw1; have hc1 := hw1.cells; go_simp; (try go_bits); (try (rw [if_pos (by omega)]; go_simp)); first | (go_at_call 32; with_reducible exact Calls.lies hw1 (k5 _)) | (go_at_call 32; with_reducible exact Calls.lies hw1 (k6 _)) | (go_at_call 32; with_reducible exact Calls.lies hw1 (k7 _)) | (go_at_call 29; with_reducible exact Calls.lies hw1 (or_any s t _)) | (go_at_call 35; with_reducible exact Calls.lies hw1 (and_any s t _)) | (go_at_call 33; with_reducible exact Calls.lies hw1 (meets_any s t _)) | (go_at_call 32; exact Calls.lies hw1 (k5 _)) | (go_at_call 32; exact Calls.lies hw1 (k6 _)) | (go_at_call 32; exact Calls.lies hw1 (k7 _)) | (go_at_call 29; exact Calls.lies hw1 (or_any s t _)) | (go_at_call 35; exact Calls.lies hw1 (and_any s t _)) | (go_at_call 33; exact Calls.lies hw1 (meets_any s t _)) | rfl)); simp only [Act.put, List.setIfInBounds_toArray, List.set_cons_zero, List.set_cons_succ]))); refine wpQuiet_nil ?_; intro w5 hw5)
    go_wp2
    go_ret
    exact ⟨rfl, Lies.below hw5 (Lies.below hw4 hB3.size hB3).size (Lies.below hw4 hB3.size hB3)⟩
  · have h4' : decide (s = t) = false := h4
    clear h4
    go_upto_region 4 with (fail)
    (refine wp_region_text_tail (C := Lies _) 45 (Lies.start _) ?_; simp only [List.take_succ_cons, List.take_zero, List.take_nil, List.drop_succ_cons, List.drop_zero, List.drop_nil]; (repeat (first | (refine quiet_skip rfl ?_; simp only [Act.put, List.setIfInBounds_toArray, List.set_cons_zero, List.set_cons_succ]) | (apply quiet_op _ rfl; (focus (intro w1 hw1; have hc1 := hw1.cells; go_simp; (try go_bits); (try (rw [if_pos (by omega)]; go_simp)); first | (go_at_call 34; with_reducible exact Calls.lies hw1 (k4 _ (he3.lies hw1))) | (go_at_call 34; exact Calls.lies hw1 (k4 _ (he3.lies hw1))) | rfl)); simp only [Act.put, List.setIfInBounds_toArray, List.set_cons_zero, List.set_cons_succ]))); refine wpQuiet_nil ?_; intro w4 hw4)
    have hS4 := hS3.lies hw4
    have hT4 := hT3.lies hw4
    have hcS4 := hS4.cell
    have hcT4 := hT4.cell
    have hlS4 := hS4.lt
    have hlT4 := hT4.lt
    clear hcS3 hcT3 hlS3 hlT3
    go_upto_region 6 with (fail)
    (refine wp_region_quiet_all (C := Lies _) (by kernel_rfl) (by kernel_rfl) (Lies.drew (Lies.start _)) ?_; (repeat (first | (refine quiet_skip rfl ?_; simp only [Act.put, List.setIfInBounds_toArray, List.set_cons_zero, List.set_cons_succ]) | (apply quiet_op _ rfl; (focus (intro w1 hw1; have hc1 := hw1.cells; go_simp; (try go_bits); (try (rw [if_pos (by omega)]; go_simp)); first | (go_at_call 32; with_reducible exact Calls.lies hw1 (k5 _)) | (go_at_call 32; with_reducible exact Calls.lies hw1 (k6 _)) | (go_at_call 32; with_reducible exact Calls.lies hw1 (k7 _)) | (go_at_call 29; with_reducible exact Calls.lies hw1 (or_any s t _)) | (go_at_call 35; with_reducible exact Calls.lies hw1 (and_any s t _)) | (go_at_call 33; with_reducible exact Calls.lies hw1 (meets_any s t _)) | (go_at_call 32; exact Calls.lies hw1 (k5 _)) | (go_at_call 32; exact Calls.lies hw1 (k6 _)) | (go_at_call 32; exact Calls.lies hw1 (k7 _)) | (go_at_call 29; exact Calls.lies hw1 (or_any s t _)) | (go_at_call 35; exact Calls.lies hw1 (and_any s t _)) | (go_at_call 33; exact Calls.lies hw1 (meets_any s t _)) | rfl)); simp only [Act.put, List.setIfInBounds_toArray, List.set_cons_zero, List.set_cons_succ]))); refine wpQuiet_nil ?_; intro w5 hw5)
    go_wp2
    go_ret
    exact ⟨rfl, Lies.below hw5 (Lies.below hw4 hB3.size hB3).size (Lies.below hw4 hB3.size hB3)⟩
  · have h4' : decide (s = t) = true := h4
    have d1 : decide (c2 ≤ 0) = true := decide_eq_true h5
    have d2 : decide (0 < c3) = false := decide_eq_false (by omega)
    clear h4 h5 h6
    go_upto_region 4 with (fail)
    (refine wp_region_text_tail (C := Lies _) 45 (Lies.start _) ?_; simp only [List.take_succ_cons, List.take_zero, List.take_nil, List.drop_succ_cons, List.drop_zero, List.drop_nil]; (repeat (first | (refine quiet_skip rfl ?_; simp only [Act.put, List.setIfInBounds_toArray, List.set_cons_zero, List.set_cons_succ]) | (apply quiet_op _ rfl; (focus (intro w1 hw1; have hc1 := hw1.cells; go_simp; (try go_bits); (try (rw [if_pos (by omega)]; go_simp)); first | (go_at_call 34; with_reducible exact Calls.lies hw1 (k4 _ (he3.lies hw1))) | (go_at_call 34; exact Calls.lies hw1 (k4 _ (he3.lies hw1))) | rfl)); simp only [Act.put, List.setIfInBounds_toArray, List.set_cons_zero, List.set_cons_succ]))); refine wpQuiet_nil ?_; intro w4 hw4)
    have hS4 := hS3.lies hw4
    have hT4 := hT3.lies hw4
    have hcS4 := hS4.cell
    have hcT4 := hT4.cell
    have hlS4 := hS4.lt
    have hlT4 := hT4.lt
    clear hcS3 hcT3 hlS3 hlT3
    go_upto_region 6 with (fail)
    (refine wp_region_quiet_all (C := Lies _) (by kernel_rfl) (by kernel_rfl) (Lies.drew (Lies.start _)) ?_; (repeat (first | (refine quiet_skip rfl ?_; simp only [Act.put, List.setIfInBounds_toArray, List.set_cons_zero, List.set_cons_succ]) | (apply quiet_op _ rfl; (focus (intro w1 hw1; have hc1 := hw1.cells; go_simp; (try go_bits); (try (rw [if_pos (by omega)]; go_simp)); first | (go_at_call 32; with_reducible exact Calls.lies hw1 (k5 _)) | (go_at_call 32; with_reducible exact Calls.lies hw1 (k6 _)) | (go_at_call 32; with_reducible exact Calls.lies hw1 (k7 _)) | (go_at_call 29; with_reducible exact Calls.lies hw1 (or_any s t _)) | (go_at_call 35; with_reducible exact Calls.lies hw1 (and_any s t _)) | (go_at_call 33; with_reducible exact Calls.lies hw1 (meets_any s t _)) | (go_at_call 32; exact Calls.lies hw1 (k5 _)) | (go_at_call 32; exact Calls.lies hw1 (k6 _)) | (go_at_call 32; exact Calls.lies hw1 (k7 _)) | (go_at_call 29; exact Calls.lies hw1 (or_any s t _)) | (go_at_call 35; exact Calls.lies hw1 (and_any s t _)) | (go_at_call 33; exact Calls.lies hw1 (meets_any s t _)) | rfl)); simp only [Act.put, List.setIfInBounds_toArray, List.set_cons_zero, List.set_cons_succ]))); refine wpQuiet_nil ?_; intro w5 hw5)
    go_wp2
    go_ret
    exact ⟨rfl, Lies.below hw5 (Lies.below hw4 hB3.size hB3).size (Lies.below hw4 hB3.size hB3)⟩
  · have h4' : decide (s = t) = false := h4
    have d2 : decide (0 < c3) = false := decide_eq_false (by omega)
    clear h4 h6
    go_upto_region 4 with (fail)
    (refine wp_region_text_tail (C := Lies _) 45 (Lies.start _) ?_; simp only [List.take_succ_cons, List.take_zero, List.take_nil, List.drop_succ_cons, List.drop_zero, List.drop_nil]; (repeat (first | (refine quiet_skip rfl ?_; simp only [Act.put, List.setIfInBounds_toArray, List.set_cons_zero, List.set_cons_succ]) | (apply quiet_op _ rfl; (focus (intro w1 hw1; have hc1 := hw1.cells; go_simp; (try go_bits); (try (rw [if_pos (by omega)]; go_simp)); first | (go_at_call 34; with_reducible exact Calls.lies hw1 (k4 _ (he3.lies hw1))) | (go_at_call 34; exact Calls.lies hw1 (k4 _ (he3.lies hw1))) | rfl)); simp only [Act.put, List.setIfInBounds_toArray, List.set_cons_zero, List.set_cons_succ]))); refine wpQuiet_nil ?_; intro w4 hw4)
    have hS4 := hS3.lies hw4
    have hT4 := hT3.lies hw4
    have hcS4 := hS4.cell
    have hcT4 := hT4.cell
    have hlS4 := hS4.lt
    have hlT4 := hT4.lt
    clear hcS3 hcT3 hlS3 hlT3
    go_upto_region 6 with (fail)
    (refine wp_region_quiet_all (C := Lies _) (by kernel_rfl) (by kernel_rfl) (Lies.drew (Lies.start _)) ?_; (repeat (first | (refine quiet_skip rfl ?_; simp only [Act.put, List.setIfInBounds_toArray, List.set_cons_zero, List.set_cons_succ]) | (apply quiet_op _ rfl; (focus (intro w1 hw1; have hc1 := hw1.cells; go_simp; (try go_bits); (try (rw [if_pos (by omega)]; go_simp)); first | (go_at_call 32; with_reducible exact Calls.lies hw1 (k5 _)) | (go_at_call 32; with_reducible exact Calls.lies hw1 (k6 _)) | (go_at_call 32; with_reducible exact Calls.lies hw1 (k7 _)) | (go_at_call 29; with_reducible exact Calls.lies hw1 (or_any s t _)) | (go_at_call 35; with_reducible exact Calls.lies hw1 (and_any s t _)) | (go_at_call 33; with_reducible exact Calls.lies hw1 (meets_any s t _)) | (go_at_call 32; exact Calls.lies hw1 (k5 _)) | (go_at_call 32; exact Calls.lies hw1 (k6 _)) | (go_at_call 32; exact Calls.lies hw1 (k7 _)) | (go_at_call 29; exact Calls.lies hw1 (or_any s t _)) | (go_at_call 35; exact Calls.lies hw1 (and_any s t _)) | (go_at_call 33; exact Calls.lies hw1 (meets_any s t _)) | rfl)); simp only [Act.put, List.setIfInBounds_toArray, List.set_cons_zero, List.set_cons_succ]))); refine wpQuiet_nil ?_; intro w5 hw5)
    go_wp2
    go_ret
    exact ⟨rfl, Lies.below hw5 (Lies.below hw4 hB3.size hB3).size (Lies.below hw4 hB3.size hB3)⟩
  · have h4' : decide (s = t) = false := h4
    have d2 : decide (0 < c3) = false := decide_eq_false (by omega)
    have d3 : decide (0 ≤ c3) = false := decide_eq_false (by omega)
    clear h4 h6
    go_upto_region 4 with (fail)
    (refine wp_region_text_tail (C := Lies _) 45 (Lies.start _) ?_; simp only [List.take_succ_cons, List.take_zero, List.take_nil, List.drop_succ_cons, List.drop_zero, List.drop_nil]; (repeat (first | (refine quiet_skip rfl ?_; simp only [Act.put, List.setIfInBounds_toArray, List.set_cons_zero, List.set_cons_succ]) | (apply quiet_op _ rfl; (focus (intro w1 hw1; have hc1 := hw1.cells; go_simp; (try go_bits); (try (rw [if_pos (by omega)]; go_simp)); first | (go_at_call 34; with_reducible exact Calls.lies hw1 (k4 _ (he3.lies hw1))) | (go_at_call 34; exact Calls.lies hw1 (k4 _ (he3.lies hw1))) | rfl)); simp only [Act.put, List.setIfInBounds_toArray, List.set_cons_zero, List.set_cons_succ]))); refine wpQuiet_nil ?_; intro w4 hw4)
    have hS4 := hS3.lies hw4
    have hT4 := hT3.lies hw4
    have hcS4 := hS4.cell
    have hcT4 := hT4.cell
    have hlS4 := hS4.lt
    have hlT4 := hT4.lt
    clear hcS3 hcT3 hlS3 hlT3
    go_upto_region 6 with (fail)
    (refine wp_region_quiet_all (C := Lies _) (by kernel_rfl) (by kernel_rfl) (Lies.drew (Lies.start _)) ?_; (repeat (first | (refine quiet_skip rfl ?_; simp only [Act.put, List.setIfInBounds_toArray, List.set_cons_zero, List.set_cons_succ]) | (apply quiet_op _ rfl; (focus (intro w1 hw1; have hc1 := hw1.cells; go_simp; (try go_bits); (try (rw [if_pos (by omega)]; go_simp)); first | (go_at_call 32; with_reducible exact Calls.lies hw1 (k5 _)) | (go_at_call 32; with_reducible exact Calls.lies hw1 (k6 _)) | (go_at_call 32; with_reducible exact Calls.lies hw1 (k7 _)) | (go_at_call 29; with_reducible exact Calls.lies hw1 (or_any s t _)) | (go_at_call 35; with_reducible exact Calls.lies hw1 (and_any s t _)) | (go_at_call 33; with_reducible exact Calls.lies hw1 (meets_any s t _)) | (go_at_call 32; exact Calls.lies hw1 (k5 _)) | (go_at_call 32; exact Calls.lies hw1 (k6 _)) | (go_at_call 32; exact Calls.lies hw1 (k7 _)) | (go_at_call 29; exact Calls.lies hw1 (or_any s t _)) | (go_at_call 35; exact Calls.lies hw1 (and_any s t _)) | (go_at_call 33; exact Calls.lies hw1 (meets_any s t _)) | rfl)); simp only [Act.put, List.setIfInBounds_toArray, List.set_cons_zero, List.set_cons_succ]))); refine wpQuiet_nil ?_; intro w5 hw5)
    go_wp2
    go_ret
    exact ⟨rfl, Lies.below hw5 (Lies.below hw4 hB3.size hB3).size (Lies.below hw4 hB3.size hB3)⟩
end Go.Proofs.YtakcckdnliiieaaDoor
