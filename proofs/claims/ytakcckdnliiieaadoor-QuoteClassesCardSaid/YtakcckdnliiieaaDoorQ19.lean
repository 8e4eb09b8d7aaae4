/- The reference's Unclass. -/
import Derived.Test.YtakcckdnliiieaaDoorQ16
import Derived.Test.YtakcckdnliiieaaDoorQ18
namespace Go.Proofs.YtakcckdnliiieaaDoor
open Go Go.RowKit
attribute [local go_sem] Oper.quietAt Oper.quietUpon
theorem cls_special : (∀ n, n < 256 → inL (ByteArray.mk #[93, 45, 94, 92]).data.toList n = (inL clsL n || decide (n = 92))) ∧ (inL clsL 110 = false ∧ inL clsL 114 = false ∧ inL clsL 116 = false) := by decide +kernel
theorem refSign_cls {t : ByteArray} {i : Nat} (w : World) (ht : t.size ≤ 1000000) (hi : i ≤ t.size) :
    Calls Tryd.prog 72 #[.string t, .int .i64 (i : Int), .string ⟨#[93, 45, 94, 92]⟩] w fun x w' => x = .returned (.tuple #[.int .u8 ((signP t clsL i).1 : Int), .int .i64 ((signP t clsL i).2.1 : Int), .int .i64 ((signP t clsL i).2.2 : Int)]) ∧ w = w' :=
  refSign_any w ht hi (by show 4 ≤ _; omega) cls_special.1 cls_special.2
theorem ret_unc {a : Act} {w w0 : World} {p q : Int} {s : BS} {g : Nat} (hp : a.tmps.getD 2 undef = .pointer (some ⟨g, 0, none⟩)) (h3 : a.tmps.getD 3 undef = .int .i64 p) (h4 : a.tmps.getD 4 undef = .int .i64 q)
    (hB : Blk w g 24 s.cells) (hd : a.defers = []) (hb : Below w0.heap.size w0 w) : bodyPost Tryd.prog Tryd.f57 (Ret (.tuple #[.agg s.cells, .int .i64 p, .int .i64 q]) w0) .ret a w := by
  have hc := hB.cell
  simp only [Array.getD_eq_getD_getElem?] at hp h3 h4
  refine bodyPost_ret (v := .tuple #[.agg s.cells, .int .i64 p, .int .i64 q]) ?_ hd ⟨rfl, hb⟩
  simp [results, Tryd.results57, go_sem, hp, h3, h4, hc]
set_option maxRecDepth 100000 in
set_option maxHeartbeats 2000000 in
theorem refUnclass_any {t : ByteArray} {w : World} (ht : t.size ≤ 1000000) :
    Calls Tryd.prog 57 #[.string t] w (Ret (.tuple #[.agg (unclsP t).1.cells, .int .i64 ((unclsP t).2.1 : Int), .int .i64 ((unclsP t).2.2 : Int)]) w) := by
  obtain ⟨r, hr⟩ : ∃ r, r = unclsP t := ⟨_, rfl⟩
  rw [← hr]
  have HRR := Lib.hid hr
  clear hr
  have hS0 := Blk.new w 24 BS.zero.cells
  have hb0 : Below w.heap.size w (w.alloc (.cells BS.zero.cells 24)) := (Below.refl _ w).alloc (Nat.le_refl _) _
  by_cases hlen : 0 < t.size
  case neg =>
    obtain rfl : r = (BS.zero, 0, 8) := by
      rw [HRR.out]; unfold unclsP beginP
      rw [byteAt_ge (by omega)]
      simp only [clss, endAt]
      rfl
    have he : (t.toList == []) = true := by rw [Lib.toList_data, show t.data.toList = [] from List.eq_nil_of_length_eq_zero (by rw [Array.length_toList]; show t.size = 0; omega)]; rfl
    clear HRR
    go_enter Tryd.func57, Tryd.ntmps57
    go_wp2_with (refine wpList_store_set rfl 24 (.tmp 2) (.tmp 13) rfl _ rfl _ rfl (by kernel_rfl) hS0 ?_; intro w2 hS2 hg2 hz2)
    exact ret_unc rfl rfl rfl hS2 rfl (below_grown hb0 hg2 (Nat.le_refl _) hb0.size)
  have he : (t.toList == []) = false := by
    rw [Lib.toList_data, beq_eq_false_iff_ne]
    intro h
    have : t.data.toList.length = 0 := by rw [h]; rfl
    rw [Array.length_toList] at this
    have h2 : t.size = t.data.size := rfl
    omega
  have hb256 := t[0].toNat_lt
  by_cases h34 : t[0].toNat = 91
  case neg =>
    obtain rfl : r = (BS.zero, 0, 4) := by
      rw [HRR.out]; unfold unclsP beginP
      rw [byteAt_lt hlen]
      simp only [if_neg h34, clss, endAt]
      rfl
    have d1 : ((t[0].toNat : Int) != 91) = true := by simp; omega
    clear HRR h34
    go_enter Tryd.func57, Tryd.ntmps57
    go_wp2_with (refine wpList_store_set rfl 24 (.tmp 2) (.tmp 17) rfl _ rfl _ rfl (by kernel_rfl) hS0 ?_; intro w2 hS2 hg2 hz2)
    exact ret_unc rfl rfl rfl hS2 rfl (below_grown hb0 hg2 (Nat.le_refl _) hb0.size)
  have hbg : beginP t 91 = (1, 0) := by unfold beginP; rw [byteAt_lt hlen]; simp only [if_pos h34]
  have d1 : ((t[0].toNat : Int) != 91) = false := by simp; omega
  have hsplit : t.size ≤ 1 ∨ (∃ h : 1 < t.size, t[1].toNat ≠ 94) ∨ (∃ h : 1 < t.size, t[1].toNat = 94) := by
    by_cases h : 1 < t.size
    · by_cases h2 : t[1].toNat = 94
      · exact .inr (.inr ⟨h, h2⟩)
      · exact .inr (.inl ⟨h, h2⟩)
    · exact .inl (by omega)
  have HBG := Lib.hid hbg
  clear hbg h34
  go_enter Tryd.func57, Tryd.ntmps57
  rcases hsplit with h1 | ⟨h1, h2⟩ | ⟨h1, h2⟩
  case' inl =>
    have g1 : decide (1 < t.size) = false := decide_eq_false (by omega)
    obtain ⟨i0, HI, hi0, HU⟩ : ∃ i0, Hid (i0 = 1) ∧ (i0 ≤ t.size ∧ 1 ≤ i0) ∧ Hid (∀ s i e, clss t (t.size + 1) BS.zero i0 0 = (s, i, e) → r = if e ≠ 0 then (BS.zero, i, e) else (s, i + 1, 0)) := ⟨1, Lib.hid rfl, ⟨hlen, Nat.le_refl _⟩, Lib.hid (fun s i e h => by
      have hbt : false = ((beginP t 91).2 == 0 && seesB t (beginP t 91).1 94) := by rw [HBG.out]; simp [seesB_ge h1]
      rw [HRR.out, unclsP_of hbt (i0 := 1) (e0 := 0) (by rw [HBG.out]; rfl) (by rw [HBG.out]) h]; rfl)⟩
    go_wp2_with fail
  case' inr.inl =>
    have g1 : decide (1 < t.size) = true := decide_eq_true h1
    have g2 : ((t[1].toNat : Int) == 94) = false := by simp; omega
    obtain ⟨i0, HI, hi0, HU⟩ : ∃ i0, Hid (i0 = 1) ∧ (i0 ≤ t.size ∧ 1 ≤ i0) ∧ Hid (∀ s i e, clss t (t.size + 1) BS.zero i0 0 = (s, i, e) → r = if e ≠ 0 then (BS.zero, i, e) else (s, i + 1, 0)) := ⟨1, Lib.hid rfl, ⟨hlen, Nat.le_refl _⟩, Lib.hid (fun s i e h => by
      have hbt : false = ((beginP t 91).2 == 0 && seesB t (beginP t 91).1 94) := by rw [HBG.out]; simp [seesB_lt h1, h2]
      rw [HRR.out, unclsP_of hbt (i0 := 1) (e0 := 0) (by rw [HBG.out]; rfl) (by rw [HBG.out]) h]; rfl)⟩
    clear h2
    go_wp2_with fail
  case' inr.inr =>
    have g1 : decide (1 < t.size) = true := decide_eq_true h1
    have g2 : ((t[1].toNat : Int) == 94) = true := by simp; omega
    obtain ⟨i0, HI, hi0, HU⟩ : ∃ i0, Hid (i0 = 2) ∧ (i0 ≤ t.size ∧ 1 ≤ i0) ∧ Hid (∀ s i e, clss t (t.size + 1) BS.zero i0 0 = (s, i, e) → r = if e ≠ 0 then (BS.zero, i, e) else (s.not, i + 1, 0)) := ⟨2, Lib.hid rfl, ⟨h1, by omega⟩, Lib.hid (fun s i e h => by
      have hbt : true = ((beginP t 91).2 == 0 && seesB t (beginP t 91).1 94) := by rw [HBG.out]; simp [seesB_lt h1, h2]
      rw [HRR.out, unclsP_of hbt (i0 := 2) (e0 := 0) (by rw [HBG.out]; rfl) (by rw [HBG.out]) h]; rfl)⟩
    clear h2
    go_wp2_with fail
  all_goals
    obtain ⟨W0, hW0⟩ : ∃ W0, (w.alloc (.cells BS.zero.cells 24)).alloc (.cells BS.zero.cells 24) = W0 := ⟨_, rfl⟩
    have hT0 : Blk W0 w.heap.size 24 BS.zero.cells := by rw [← hW0]; exact hS0.alloc _
    have hX0 : Blk W0 (w.heap.size + 1) 24 BS.zero.cells := by rw [← hW0]; have := Blk.new (w.alloc (.cells BS.zero.cells 24)) 24 BS.zero.cells; rwa [World.size_alloc] at this
    have hB0 : Below w.heap.size w W0 := by rw [← hW0]; exact hb0.alloc (by simp) _
    rw [hW0]
    clear hW0 hS0 hb0 he d1 hb256 g1
    go_loopw [6] (fun j wr => ∃ (pre : List (Nat × Nat)) (p : Nat), j = .int .i64 (p : Int) ∧ p ≤ t.size ∧ Hid (headAt (nxC t) i0 pre = p) ∧ Hid (ChC t i0 0 pre) ∧ pre.length ≤ p ∧ 1 ≤ p ∧ Blk wr w.heap.size 24 BS.zero.cells ∧ Blk wr (w.heap.size + 1) 24 (setC t pre).cells ∧ Below w.heap.size w wr) (fun j _ => t.size - (intOf j).toNat)
    case atStart =>
      first
      | exact ⟨[], 1, by go_num, by omega, HI, Lib.hid ChC.nil, by simp, by omega, hT0, hX0, hB0⟩
      | exact ⟨[], 2, by go_num, by omega, HI, Lib.hid ChC.nil, by simp, by omega, hT0, hX0, hB0⟩
    case round =>
      clear hT0 hX0 hB0
      obtain ⟨pre, p, rfl, hpt, hhd, hch, hpl, hp1, hT, hX, hB⟩ := hrel
      have hlT := hT.lt
      have hlX := hX.lt
      by_cases hlt : p < t.size
      case neg =>
        have hend : endAt t clsL 93 (headAt (nxC t) i0 pre) (headE 0 pre) = some (t.size, 8) := by
          rw [hhd.out, headE_zero]; unfold endAt
          rw [if_neg (by omega), seesB_ge (by omega), signP_ge (by omega)]; rfl
        obtain rfl : r = (BS.zero, t.size, 8) := by rw [HU.out _ _ _ (clss_end hch.out (by omega) hend), if_pos (by omega)]
        have c1 : decide (p < t.size) = false := decide_eq_false hlt
        have c2 : decide (t.size ≤ p) = true := decide_eq_true (by omega)
        clear HRR HU hend hlt
        go_wp2_with (refine wpList_store_set rfl 24 (.tmp 2) (.tmp 88) rfl _ rfl _ rfl (by kernel_rfl) hT ?_; intro w2 hS2 hg2 hz2)
        exact ret_unc rfl rfl rfl hS2 rfl (below_grown hB hg2 (Nat.le_refl _) hB.size)
      have h1' : 1 < t.size := by omega
      have c1 : decide (p < t.size) = true := decide_eq_true hlt
      by_cases h34 : t[p].toNat = 93
      · have hend : endAt t clsL 93 (headAt (nxC t) i0 pre) (headE 0 pre) = some (p, 0) := by
          rw [hhd.out, headE_zero]; unfold endAt
          rw [if_neg (by omega), seesB_lt hlt, h34]; rfl
        have hu := HU.out _ _ _ (clss_end hch.out (by omega) hend)
        rw [if_neg (by omega)] at hu
        subst hu
        have c2 : decide (t.size ≤ p) = false := decide_eq_false (by omega)
        have c3 : ((t[p].toNat : Int) != 93) = false := by simp; omega
        have hcX := hX.cell
        clear HRR HU hend h34
        first
        | (exfalso; omega)
        | (go_wp2_with (refine wpList_store_set rfl 24 (.tmp 2) (.tmp 96) rfl _ rfl _ rfl (by kernel_rfl) hT ?_; intro w2 hS2 hg2 hz2)
           exact ret_unc rfl rfl rfl hS2 rfl (below_grown hB hg2 (Nat.le_refl _) hB.size))
        | (go_wp2_with (first
             | (go_at_call 42; refine (refNot_any (setC t pre) _).mono ?_; rintro x w2 ⟨rfl, hw2⟩; have hT2 := hT.lies hw2; have hX2 := hX.lies hw2; have hB2 := Lies.below hw2 hB.size hB)
             | (refine wpList_store_set rfl 24 (.tmp 5) (.tmp 95) rfl _ rfl _ rfl (by kernel_rfl) hX2 ?_; intro w3 hX3 hg3 hz3; have hT3 := hT2.grown hg3 (by simp); have hcX3 := hX3.cell; have hB3 := below_grown hB2 hg3 (by omega) hB2.size)
             | (refine wpList_store_set rfl 24 (.tmp 2) (.tmp 96) rfl _ rfl _ rfl (by kernel_rfl) hT3 ?_; intro w4 hS4 hg4 hz4))
           exact ret_unc rfl rfl rfl hS4 rfl (below_grown hB3 hg4 (Nat.le_refl _) hB3.size))
      have c3 : ((t[p].toNat : Int) != 93) = true := by simp; omega
      have hse : seesB t p 93 = false := by rw [seesB_lt hlt]; simpa using h34
      have hsl := @signP_le t clsL p hpt
      have k72 := fun w => @refSign_cls t p w ht hpt
      obtain ⟨q, hq⟩ : ∃ q, q = signP t clsL p := ⟨_, rfl⟩
      rw [← hq] at hsl k72
      obtain ⟨a, j, e2⟩ := q
      obtain ⟨hj, ha, hij⟩ := hsl
      simp only at hj ha hij k72
      by_cases he2 : e2 = 0
      case neg =>
        have hend : endAt t clsL 93 (headAt (nxC t) i0 pre) (headE 0 pre) = some (j, e2) := by
          rw [hhd.out, headE_zero]; unfold endAt
          rw [if_neg (by omega), hse, if_neg (by simp), ← hq, if_neg he2]
        obtain rfl : r = (BS.zero, j, e2) := by rw [HU.out _ _ _ (clss_end hch.out (by omega) hend), if_pos he2]
        have d2 : ((e2 : Int) == 0) = false := by simp; omega
        have d3 : ((e2 : Int) != 0) = true := by simp; omega
        clear HRR HU hend he2 hse hq h34 hij
        go_wp2_with (first
          | (go_at_call 72; refine (k72 _).mono ?_; rintro x w2 ⟨rfl, rfl⟩)
          | (refine wpList_store_set rfl 24 (.tmp 2) (.tmp 70) rfl _ rfl _ rfl (by kernel_rfl) hT ?_; intro w3 hS3 hg3 hz3))
        exact ret_unc rfl rfl rfl hS3 rfl (below_grown hB hg3 (Nat.le_refl _) hB.size)
      subst he2
      have hn : endAt t clsL 93 (headAt (nxC t) i0 pre) (headE 0 pre) = none := by
        rw [hhd.out, headE_zero]; unfold endAt
        rw [if_neg (by omega), hse, if_neg (by simp), ← hq, if_pos rfl]
      have hs2 : signP t clsL (headAt (nxC t) i0 pre) = (a, j, 0) := by rw [hhd.out]; exact hq.symm
      have hij' := hij rfl
      have k72' : ∀ w, Calls Tryd.prog 72 #[.string t, .int .i64 (p : Int), .string ⟨#[93, 45, 94, 92]⟩] w fun x w' => x = .returned (.tuple #[.int .u8 (a : Int), .int .i64 (j : Int), .int .i64 0]) ∧ w = w' := k72
      clear k72 hse hq h34 hij
      have k72 := k72'
      clear k72'
      cases hsee : seesB t j 45
      · have hhi : highP t clsL a j = (a, j, 0) := by unfold highP; rw [hsee]; rfl
        have HHI := Lib.hid hhi
        have HNX : Hid (nxC t (a, j) = j) := Lib.hid (by unfold nxC; rw [hhi])
        have HCN := Lib.hid (hch.out.snoc (x := (a, j)) hn hs2 (by simp [hhi]) (by simp [hhi]))
        by_cases hjl : j < t.size
        · have d4 : ((t[j].toNat : Int) == 45) = false := by rw [seesB_lt hjl] at hsee; simp at hsee; simp; omega
          have d5 : decide (j < t.size) = true := decide_eq_true hjl
          clear hhi hn hs2 hsee
          have hcX := hX.cell
          clear HRR HU
          go_wp2_with (first | (go_at_call 72; (with_reducible refine (k72 _).mono ?_); rintro x w2 ⟨rfl, rfl⟩))
          (refine wp_region_quiet_tail (C := Lies _) 5 (by kernel_rfl) (by kernel_rfl) (Lies.drew (Lies.start _)) ?_; simp only [List.take_succ_cons, List.take_zero, List.take_nil, List.drop_succ_cons, List.drop_zero, List.drop_nil]; (repeat (first | (refine quiet_skip rfl ?_; simp only [Act.put, List.setIfInBounds_toArray, List.set_cons_zero, List.set_cons_succ]) | (apply quiet_op _ rfl; (focus (intro w1 hw1; have hc1 := hw1.cells; go_simp; (try go_bits); (try (rw [if_pos (by omega)]; go_simp)); first | (go_at_call 21; with_reducible exact Calls.lies hw1 (refRange_any a a _ ha ha)) | (go_at_call 39; with_reducible exact Calls.lies hw1 (refOr_any (setC t pre) (BS.range a a) _)) | (go_at_call 21; exact Calls.lies hw1 (refRange_any a a _ ha ha)) | (go_at_call 39; exact Calls.lies hw1 (refOr_any (setC t pre) (BS.range a a) _)) | rfl)); simp only [Act.put, List.setIfInBounds_toArray, List.set_cons_zero, List.set_cons_succ]))); refine wpQuiet_nil ?_; intro w4 hw4)
          have hT4 := hT.lies hw4
          have hX4 := hX.lies hw4
          have hB4 := Lies.below hw4 hB.size hB
          clear hT hX hB hlT hlX hcX hw4
          refine wpList_store_set rfl 24 (.tmp 5) (.tmp 82) rfl _ rfl _ rfl (by kernel_rfl) hX4 ?_
          intro w5 hX5 hg5 hz5
          have hT5 := hT4.grown hg5 (by simp)
          have hB5 := below_grown hB4 hg5 (by omega) hB4.size
          clear hT4 hX4 hB4 hg5
          go_wp2
          go_roundw
          case rel => exact ⟨pre ++ [(a, j)], j, rfl, by omega, Lib.hid (by rw [headAt_snoc]; exact HNX.out), HCN, by simp; omega, by omega, hT5, by rw [setC_snoc, HHI.out]; exact hX5, hB5⟩
          case measure => simp [intOf]; omega
        · have d5 : decide (j < t.size) = false := decide_eq_false hjl
          clear hhi hn hs2 hsee hjl
          have hcX := hX.cell
          clear HRR HU
          go_wp2_with (first | (go_at_call 72; (with_reducible refine (k72 _).mono ?_); rintro x w2 ⟨rfl, rfl⟩))
          (refine wp_region_quiet_tail (C := Lies _) 5 (by kernel_rfl) (by kernel_rfl) (Lies.drew (Lies.start _)) ?_; simp only [List.take_succ_cons, List.take_zero, List.take_nil, List.drop_succ_cons, List.drop_zero, List.drop_nil]; (repeat (first | (refine quiet_skip rfl ?_; simp only [Act.put, List.setIfInBounds_toArray, List.set_cons_zero, List.set_cons_succ]) | (apply quiet_op _ rfl; (focus (intro w1 hw1; have hc1 := hw1.cells; go_simp; (try go_bits); (try (rw [if_pos (by omega)]; go_simp)); first | (go_at_call 21; with_reducible exact Calls.lies hw1 (refRange_any a a _ ha ha)) | (go_at_call 39; with_reducible exact Calls.lies hw1 (refOr_any (setC t pre) (BS.range a a) _)) | (go_at_call 21; exact Calls.lies hw1 (refRange_any a a _ ha ha)) | (go_at_call 39; exact Calls.lies hw1 (refOr_any (setC t pre) (BS.range a a) _)) | rfl)); simp only [Act.put, List.setIfInBounds_toArray, List.set_cons_zero, List.set_cons_succ]))); refine wpQuiet_nil ?_; intro w4 hw4)
          have hT4 := hT.lies hw4
          have hX4 := hX.lies hw4
          have hB4 := Lies.below hw4 hB.size hB
          clear hT hX hB hlT hlX hcX hw4
          refine wpList_store_set rfl 24 (.tmp 5) (.tmp 82) rfl _ rfl _ rfl (by kernel_rfl) hX4 ?_
          intro w5 hX5 hg5 hz5
          have hT5 := hT4.grown hg5 (by simp)
          have hB5 := below_grown hB4 hg5 (by omega) hB4.size
          clear hT4 hX4 hB4 hg5
          go_wp2
          go_roundw
          case rel => exact ⟨pre ++ [(a, j)], j, rfl, by omega, Lib.hid (by rw [headAt_snoc]; exact HNX.out), HCN, by simp; omega, by omega, hT5, by rw [setC_snoc, HHI.out]; exact hX5, hB5⟩
          case measure => simp [intOf]; omega
      · have hjl : j < t.size := by unfold seesB at hsee; rw [beq_iff_eq] at hsee; exact (byteAt_256 hsee).2
        have d4 : ((t[j].toNat : Int) == 45) = true := by rw [seesB_lt hjl] at hsee; simp at hsee; simp; omega
        have d5 : decide (j < t.size) = true := decide_eq_true hjl
        have hhi0 : highP t clsL a j = signP t clsL (j + 1) := by unfold highP; rw [hsee]; rfl
        have hsl2 := @signP_le t clsL (j + 1) hjl
        have k73 := fun w => @refSign_cls t (j + 1) w ht hjl
        obtain ⟨q, hq⟩ : ∃ q, q = signP t clsL (j + 1) := ⟨_, rfl⟩
        rw [← hq] at hsl2 k73 hhi0
        obtain ⟨b, j2, e3⟩ := q
        obtain ⟨hj2, hb, hij2⟩ := hsl2
        simp only at hj2 hb hij2 k73
        have HHI := Lib.hid hhi0
        have HNX : Hid (nxC t (a, j) = j2) := Lib.hid (by unfold nxC; rw [hhi0])
        by_cases he3 : e3 = 0
        case neg =>
          obtain rfl : r = (BS.zero, j2, e3) := by
            have := HU.out _ _ _ (clss_high (x := (a, j)) hch.out (by omega) hn hs2 (by rw [hhi0]; exact he3))
            rw [this, hhi0, if_pos he3]
          have d2 : ((e3 : Int) == 0) = false := by simp; omega
          have d3 : ((e3 : Int) != 0) = true := by simp; omega
          have k73' : ∀ w, Calls Tryd.prog 72 #[.string t, .int .i64 ((j : Int) + 1), .string ⟨#[93, 45, 94, 92]⟩] w fun x w' => x = .returned (.tuple #[.int .u8 (b : Int), .int .i64 (j2 : Int), .int .i64 (e3 : Int)]) ∧ w = w' := k73
          clear HRR HU hn hs2 hsee he3 hq hhi0 hij2 k73
          go_wp2_with (first
            | (go_at_call 72; (with_reducible refine (k72 _).mono ?_); rintro x w2 ⟨rfl, rfl⟩)
            | (go_at_call 72; (with_reducible refine (k73' _).mono ?_); rintro x w2 ⟨rfl, rfl⟩)
            | (refine wpList_store_set rfl 24 (.tmp 2) (.tmp 70) rfl _ rfl _ rfl (by kernel_rfl) hT ?_; intro w3 hS3 hg3 hz3))
          exact ret_unc rfl rfl rfl hS3 rfl (below_grown hB hg3 (Nat.le_refl _) hB.size)
        subst he3
        have k73' : ∀ w, Calls Tryd.prog 72 #[.string t, .int .i64 ((j : Int) + 1), .string ⟨#[93, 45, 94, 92]⟩] w fun x w' => x = .returned (.tuple #[.int .u8 (b : Int), .int .i64 (j2 : Int), .int .i64 0]) ∧ w = w' := k73
        have hij3 := hij2 rfl
        clear k73 hij2 hq
        have k73 := k73'
        clear k73'
        by_cases hlow : b < a
        · obtain rfl : r = (BS.zero, p, 4) := by
            have := HU.out _ _ _ (clss_less (x := (a, j)) hch.out (by omega) hn hs2 (by rw [hhi0]) (by rw [hhi0]; exact hlow))
            rw [this, hhd.out, if_pos (by omega)]
          have d3 : decide (b < a) = true := decide_eq_true hlow
          clear HRR HU hn hs2 hsee hhi0 hlow
          go_wp2_with (first
            | (go_at_call 72; (with_reducible refine (k72 _).mono ?_); rintro x w2 ⟨rfl, rfl⟩)
            | (go_at_call 72; (with_reducible refine (k73 _).mono ?_); rintro x w2 ⟨rfl, rfl⟩)
            | (refine wpList_store_set rfl 24 (.tmp 2) (.tmp 76) rfl _ rfl _ rfl (by kernel_rfl) hT ?_; intro w3 hS3 hg3 hz3))
          exact ret_unc rfl rfl rfl hS3 rfl (below_grown hB hg3 (Nat.le_refl _) hB.size)
        · have d3 : decide (b < a) = false := decide_eq_false hlow
          have HCN := Lib.hid (hch.out.snoc (x := (a, j)) hn hs2 (by simp [hhi0]) (by simp [hhi0]; omega))
          clear hhi0 hn hs2 hsee hlow
          have hcX := hX.cell
          clear HRR HU
          go_wp2_with (first | (go_at_call 72; (with_reducible refine (k72 _).mono ?_); rintro x w2 ⟨rfl, rfl⟩) | (go_at_call 72; (with_reducible refine (k73 _).mono ?_); rintro x w2 ⟨rfl, rfl⟩))
          (refine wp_region_quiet_tail (C := Lies _) 5 (by kernel_rfl) (by kernel_rfl) (Lies.drew (Lies.start _)) ?_; simp only [List.take_succ_cons, List.take_zero, List.take_nil, List.drop_succ_cons, List.drop_zero, List.drop_nil]; (repeat (first | (refine quiet_skip rfl ?_; simp only [Act.put, List.setIfInBounds_toArray, List.set_cons_zero, List.set_cons_succ]) | (apply quiet_op _ rfl; (focus (intro w1 hw1; have hc1 := hw1.cells; go_simp; (try go_bits); (try (rw [if_pos (by omega)]; go_simp)); first | (go_at_call 21; with_reducible exact Calls.lies hw1 (refRange_any a b _ ha hb)) | (go_at_call 39; with_reducible exact Calls.lies hw1 (refOr_any (setC t pre) (BS.range a b) _)) | (go_at_call 21; exact Calls.lies hw1 (refRange_any a b _ ha hb)) | (go_at_call 39; exact Calls.lies hw1 (refOr_any (setC t pre) (BS.range a b) _)) | rfl)); simp only [Act.put, List.setIfInBounds_toArray, List.set_cons_zero, List.set_cons_succ]))); refine wpQuiet_nil ?_; intro w4 hw4)
          have hT4 := hT.lies hw4
          have hX4 := hX.lies hw4
          have hB4 := Lies.below hw4 hB.size hB
          clear hT hX hB hlT hlX hcX hw4
          refine wpList_store_set rfl 24 (.tmp 5) (.tmp 82) rfl _ rfl _ rfl (by kernel_rfl) hX4 ?_
          intro w5 hX5 hg5 hz5
          have hT5 := hT4.grown hg5 (by simp)
          have hB5 := below_grown hB4 hg5 (by omega) hB4.size
          clear hT4 hX4 hB4 hg5
          go_wp2
          go_roundw
          case rel => exact ⟨pre ++ [(a, j)], j2, rfl, by omega, Lib.hid (by rw [headAt_snoc]; exact HNX.out), HCN, by simp; omega, by omega, hT5, by rw [setC_snoc, HHI.out]; exact hX5, hB5⟩
          case measure => simp [intOf]; omega
end Go.Proofs.YtakcckdnliiieaaDoor
