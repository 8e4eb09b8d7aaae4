/- The reference's Step, Steps. -/
import Derived.Test.YtbgmjlonbbmffaaDoorL20
namespace Go.Proofs.YtbgmjlonbbmffaaDoor
open Go Go.RowKit
attribute [local go_sem] Oper.quietAt Oper.quietUpon
set_option maxRecDepth 100000 in
set_option maxHeartbeats 1500000 in
theorem refStep_any {s t : StepD} {p q : Value} {w : World} {F G : Nat → Prop} (hp : IntsAt w F p s.path) (hq : IntsAt w G q t.path) :
    Calls Tryd.prog 30 #[.agg #[.int .u8 (s.pass : Int), .int .u8 (s.way : Int), .int .i64 s.rule, p, .int .i64 s.place], .agg #[.int .u8 (t.pass : Int), .int .u8 (t.way : Int), .int .i64 t.rule, q, .int .i64 t.place]] w (Ret (.bool (decide (s = t))) w) := by
  obtain ⟨r, hr⟩ : ∃ r, r = decide (s = t) := ⟨_, rfl⟩
  rw [← hr]
  obtain ⟨a1, b1, c1, l1, d1⟩ := s
  obtain ⟨a2, b2, c2, l2, d2⟩ := t
  simp only at hp hq ⊢
  simp only [StepD.mk.injEq] at hr
  have HR := Lib.hid hr
  obtain ⟨oa, c, hv⟩ := hp.slice
  obtain ⟨ob, d, hu⟩ := hq.slice
  have hz1 := hp.len
  have hz2 := hq.len
  subst hv hu
  obtain ⟨W, hW⟩ : ∃ W, (w.alloc (.cells #[.int .u8 (a1 : Int), .int .u8 (b1 : Int), .int .i64 c1, .slice oa l1.length c, .int .i64 d1] 35)).alloc (.cells #[.int .u8 (a2 : Int), .int .u8 (b2 : Int), .int .i64 c2, .slice ob l2.length d, .int .i64 d2] 35) = W := ⟨_, rfl⟩
  have hX : Blk W w.heap.size 35 #[.int .u8 (a1 : Int), .int .u8 (b1 : Int), .int .i64 c1, .slice oa l1.length c, .int .i64 d1] := by rw [← hW]; exact (Blk.new w 35 _).alloc _
  have hY : Blk W (w.heap.size + 1) 35 #[.int .u8 (a2 : Int), .int .u8 (b2 : Int), .int .i64 c2, .slice ob l2.length d, .int .i64 d2] := by
    rw [← hW]
    have := Blk.new (w.alloc (.cells #[.int .u8 (a1 : Int), .int .u8 (b1 : Int), .int .i64 c1, .slice oa l1.length c, .int .i64 d1] 35)) 35 #[.int .u8 (a2 : Int), .int .u8 (b2 : Int), .int .i64 c2, .slice ob l2.length d, .int .i64 d2]
    rwa [World.size_alloc] at this
  have hl : Lies w W := by rw [← hW]; exact ((Lies.start w).alloc (Nat.le_refl _) _).alloc (by simp) _
  have HP := Lib.hid (hp.lies hl)
  have HQ := Lib.hid (hq.lies hl)
  clear hp hq hr
  go_enter Tryd.func30, Tryd.ntmps30
  go_upto_region 1 with (fail)
  clear hW
  have hcX := hX.cell
  have hlX := hX.lt
  have hcY := hY.cell
  have hlY := hY.lt
  by_cases h1 : a1 = a2
  case neg =>
    obtain rfl : r = false := by rw [HR.out]; simp [h1]
    have e1 : ((a1 : Int) != (a2 : Int)) = true := by simp; omega
    clear HR h1
    go_wp2
    go_ret
    exact ⟨rfl, hl⟩
  subst h1
  by_cases h2 : b1 = b2
  case neg =>
    obtain rfl : r = false := by rw [HR.out]; simp [h2]
    have e1 : ((b1 : Int) != (b2 : Int)) = true := by simp; omega
    clear HR h2
    go_wp2
    go_ret
    exact ⟨rfl, hl⟩
  subst h2
  by_cases h3 : c1 = c2
  case neg =>
    obtain rfl : r = false := by rw [HR.out]; simp [h3]
    have e1 : (c1 != c2) = true := by simp [h3]
    clear HR h3
    go_wp2
    go_ret
    exact ⟨rfl, hl⟩
  subst h3
  by_cases h4 : d1 = d2
  case neg =>
    obtain rfl : r = false := by rw [HR.out]; simp [h4]
    have e1 : (d1 != d2) = true := by simp [h4]
    clear HR h4
    go_wp2
    go_ret
    exact ⟨rfl, hl⟩
  subst h4
  have hr2 : r = decide (l1 = l2) := by rw [HR.out]; simp
  have HR2 := Lib.hid hr2
  clear HR hr2
  by_cases h5 : l1.length = l2.length
  case neg =>
    obtain rfl : r = false := by rw [HR2.out]; exact decide_eq_false (fun e => h5 (by rw [e]))
    have e1 : ((l1.length : Int) != (l2.length : Int)) = true := by simp; omega
    clear HR2
    go_wp2
    go_ret
    exact ⟨rfl, hl⟩
  have H5 := Lib.hid h5
  have e1 : ((l1.length : Int) != (l2.length : Int)) = false := by simp; omega
  clear h5
  go_wp2_with fail
  go_loopw [5] (fun j wr => ∃ k : Nat, j = .int .i64 (k : Int) ∧ k ≤ l1.length ∧ Lies W wr ∧ Hid (l1.take k = l2.take k)) (fun j _ => l1.length - (intOf j).toNat)
  case atStart => exact ⟨0, rfl, Nat.zero_le _, Lies.start W, Lib.hid (by simp)⟩
  case round =>
    clear hcX hlX hcY hlY
    obtain ⟨k, rfl, hk, hlr, ht⟩ := hrel
    have hX1 := hX.lies hlr
    have hY1 := hY.lies hlr
    have hcX := hX1.cell
    have hlX := hX1.lt
    have hcY := hY1.cell
    have hlY := hY1.lt
    by_cases hlt : k < l1.length
    case neg =>
      obtain rfl : k = l1.length := by omega
      have d1 : decide (l1.length < l1.length) = false := decide_eq_false hlt
      obtain rfl : r = true := by
        have := ht.out
        rw [List.take_length, List.take_of_length_le (by rw [H5.out]; exact Nat.le_refl _)] at this
        rw [HR2.out]; exact decide_eq_true this
      go_wp2
      go_ret
      exact ⟨rfl, hl.tr' hlr⟩
    have d1 : decide (k < l1.length) = true := decide_eq_true hlt
    have hlt2 : k < l2.length := by rw [← H5.out]; exact hlt
    obtain ⟨g1, f1, cp1, hv, _, k1, hg1⟩ := (HP.out.lies hlr).cell hlt
    obtain ⟨g2, f2, cp2, hu, _, k2, hg2⟩ := (HQ.out.lies hlr).cell hlt2
    injection hv with i1 i2 i3
    injection hu with j1 j2 j3
    subst i1 j1
    clear i2 i3 j2 j3
    have HT : Hid (l1.take (k + 1) = l2.take (k + 1) ↔ l1[k] = l2[k]) := Lib.hid (by
      rw [List.take_succ_eq_append_getElem hlt, List.take_succ_eq_append_getElem hlt2, ht.out, List.append_cancel_left_eq]; simp)
    have HNE : Hid (l1[k] ≠ l2[k] → l1 ≠ l2) := Lib.hid (fun h e => h (by subst e; rfl))
    generalize l1[k] = x at *
    generalize l2[k] = y at *
    go_upto_region 6 with (fail)
    cases hxy : (x != y)
    rotate_left
    · obtain rfl : r = false := by rw [HR2.out]; exact decide_eq_false (HNE.out (by simpa using hxy))
      (refine wp_region_quiet_all (C := Lies _) (by kernel_rfl) (by kernel_rfl) (Lies.drew (Lies.start _)) ?_; (repeat (first | (refine quiet_skip rfl ?_; simp only [Act.put, List.setIfInBounds_toArray, List.set_cons_zero, List.set_cons_succ]) | (apply quiet_op _ rfl; (focus (intro w1 hw1; have hc1 := hw1.cells; go_simp; (try go_bits); (try (rw [if_pos (by omega)]; go_simp)); first | rfl)); simp only [Act.put, List.setIfInBounds_toArray, List.set_cons_zero, List.set_cons_succ]))); refine wpQuiet_nil ?_; intro w2 hw2)
      go_wp2
      go_ret
      exact ⟨rfl, (hl.tr' hlr).tr' hw2⟩
    · (refine wp_region_quiet_all (C := Lies _) (by kernel_rfl) (by kernel_rfl) (Lies.drew (Lies.start _)) ?_; (repeat (first | (refine quiet_skip rfl ?_; simp only [Act.put, List.setIfInBounds_toArray, List.set_cons_zero, List.set_cons_succ]) | (apply quiet_op _ rfl; (focus (intro w1 hw1; have hc1 := hw1.cells; go_simp; (try go_bits); (try (rw [if_pos (by omega)]; go_simp)); first | rfl)); simp only [Act.put, List.setIfInBounds_toArray, List.set_cons_zero, List.set_cons_succ]))); refine wpQuiet_nil ?_; intro w2 hw2)
      go_wp2
      go_roundw
      case rel => exact ⟨k + 1, by go_num, by omega, hlr.tr' hw2, Lib.hid (HT.out.2 (by simpa using hxy))⟩
      case measure => simp [intOf]; omega
set_option maxRecDepth 100000 in
set_option maxHeartbeats 1500000 in
theorem refSteps_any {l m : List StepD} {p q : Value} {w : World} {F G : Nat → Prop} (hI : StepsAt w F p l) (hJ : StepsAt w G q m) :
    Calls Tryd.prog 13 #[p, q] w (Ret (.bool (decide (l = m))) w) := by
  obtain ⟨r, hr⟩ : ∃ r, r = decide (l = m) := ⟨_, rfl⟩
  rw [← hr]
  obtain ⟨oa, c, hv⟩ := hI.slice
  obtain ⟨ob, d, hu⟩ := hJ.slice
  have hz1 := hI.len
  have hz2 := hJ.len
  have HI := Lib.hid hI
  have HJ := Lib.hid hJ
  have HR := Lib.hid hr
  clear hI hJ hr
  subst hv hu
  by_cases hlen : l.length = m.length
  case neg =>
    have e1 : ((l.length : Int) != (m.length : Int)) = true := by simp; omega
    obtain rfl : r = false := by rw [HR.out]; exact decide_eq_false (fun e => hlen (by rw [e]))
    clear hlen HR
    go_enter Tryd.func13, Tryd.ntmps13
    go_wp2
    go_ret
    exact ⟨rfl, Below.refl _ _⟩
  have HL := Lib.hid hlen
  have e1 : ((l.length : Int) != (m.length : Int)) = false := by simp; omega
  clear hlen
  go_enter Tryd.func13, Tryd.ntmps13
  go_wp2_with fail
  go_loopw [5] (fun j wr => ∃ k : Nat, j = .int .i64 (k : Int) ∧ k ≤ l.length ∧ Lies w wr ∧ Hid (l.take k = m.take k)) (fun j _ => l.length - (intOf j).toNat)
  case atStart => exact ⟨0, rfl, Nat.zero_le _, Lies.start w, Lib.hid (by simp)⟩
  case round =>
    obtain ⟨k, rfl, hk, hl, ht⟩ := hrel
    by_cases hlt : k < l.length
    case neg =>
      obtain rfl : k = l.length := by omega
      have d1 : decide (l.length < l.length) = false := decide_eq_false hlt
      obtain rfl : r = true := by
        have := ht.out
        rw [List.take_length, List.take_of_length_le (by rw [HL.out]; exact Nat.le_refl _)] at this
        rw [HR.out]; exact decide_eq_true this
      go_wp2
      go_ret
      exact ⟨rfl, hl⟩
    have d1 : decide (k < l.length) = true := decide_eq_true hlt
    have hlt2 : k < m.length := by rw [← HL.out]; exact hlt
    obtain ⟨b1, f1, c1, pv, hv, hF1, hb1, hp, a0, a1, a2, a3, a4⟩ := (HI.out.lies hl).cell hlt
    obtain ⟨b2, f2, c2, qv, hu, hG1, hb2, hq, e0, e1', e2, e3, e4⟩ := (HJ.out.lies hl).cell hlt2
    injection hv with i1 i2 i3
    injection hu with j1 j2 j3
    subst i1 j1
    clear i2 i3 j2 j3
    obtain ⟨oa2, cap2, hpv⟩ := hp.slice
    obtain ⟨ob2, cap3, hqv⟩ := hq.slice
    have HT : Hid (l.take (k + 1) = m.take (k + 1) ↔ l[k] = m[k]) := Lib.hid (by
      rw [List.take_succ_eq_append_getElem hlt, List.take_succ_eq_append_getElem hlt2, ht.out, List.append_cancel_left_eq]; simp)
    have HNE : Hid (l[k] ≠ m[k] → l ≠ m) := Lib.hid (fun h e => h (by subst e; rfl))
    generalize l[k] = x at *
    generalize m[k] = y at *
    have HP := Lib.hid hp
    have HQ := Lib.hid hq
    clear hp hq
    subst hpv hqv
    have k30 : ∀ W, Lies wr W → Calls Tryd.prog 30 #[.agg #[.int .u8 (x.pass : Int), .int .u8 (x.way : Int), .int .i64 x.rule, .slice oa2 x.path.length cap2, .int .i64 x.place], .agg #[.int .u8 (y.pass : Int), .int .u8 (y.way : Int), .int .i64 y.rule, .slice ob2 y.path.length cap3, .int .i64 y.place]] W (Ret (.bool (decide (x = y))) W) :=
      fun W hW => refStep_any (HP.out.lies hW) (HQ.out.lies hW)
    go_upto_region 6 with (fail)
    cases hxy : decide (x = y)
    · rw [hxy] at k30
      obtain rfl : r = false := by rw [HR.out]; exact decide_eq_false (HNE.out (of_decide_eq_false hxy))
      clear hxy
      (refine wp_region_quiet_all (C := Lies _) (by kernel_rfl) (by kernel_rfl) (Lies.drew (Lies.start _)) ?_; (repeat (first | (refine quiet_skip rfl ?_; simp only [Act.put, List.setIfInBounds_toArray, List.set_cons_zero, List.set_cons_succ]) | (apply quiet_op _ rfl; (focus (intro w1 hw1; have hc1 := hw1.cells; go_simp; (try go_bits); (try (rw [if_pos (by omega)]; go_simp)); first | (go_at_call 30; with_reducible exact Calls.lies hw1 (k30 w1 hw1)) | (go_at_call 30; exact Calls.lies hw1 (k30 w1 hw1)) | rfl)); simp only [Act.put, List.setIfInBounds_toArray, List.set_cons_zero, List.set_cons_succ]))); refine wpQuiet_nil ?_; intro w2 hw2)
      go_wp2
      go_ret
      exact ⟨rfl, hl.tr' hw2⟩
    · rw [hxy] at k30
      (refine wp_region_quiet_all (C := Lies _) (by kernel_rfl) (by kernel_rfl) (Lies.drew (Lies.start _)) ?_; (repeat (first | (refine quiet_skip rfl ?_; simp only [Act.put, List.setIfInBounds_toArray, List.set_cons_zero, List.set_cons_succ]) | (apply quiet_op _ rfl; (focus (intro w1 hw1; have hc1 := hw1.cells; go_simp; (try go_bits); (try (rw [if_pos (by omega)]; go_simp)); first | (go_at_call 30; with_reducible exact Calls.lies hw1 (k30 w1 hw1)) | (go_at_call 30; exact Calls.lies hw1 (k30 w1 hw1)) | rfl)); simp only [Act.put, List.setIfInBounds_toArray, List.set_cons_zero, List.set_cons_succ]))); refine wpQuiet_nil ?_; intro w2 hw2)
      go_wp2
      go_roundw
      case rel => exact ⟨k + 1, by go_num, by omega, hl.tr' hw2, Lib.hid (HT.out.2 (of_decide_eq_true hxy))⟩
      case measure => simp [intOf]; omega
end Go.Proofs.YtbgmjlonbbmffaaDoor
