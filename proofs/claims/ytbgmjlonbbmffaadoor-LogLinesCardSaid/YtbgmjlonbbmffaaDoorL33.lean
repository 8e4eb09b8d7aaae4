/- The document's word whether two logs are the same. -/
import Derived.Test.YtbgmjlonbbmffaaDoorL21
import Derived.Test.YtbgmjlonbbmffaaDoorStp
namespace Go.Proofs.YtbgmjlonbbmffaaDoor
open Go Go.RowKit
attribute [local go_sem] Oper.quietAt Oper.quietUpon
set_option maxRecDepth 100000 in
set_option maxHeartbeats 400000 in
theorem refSame_any {l m : List ItemD} {p q : Value} {w : World} {F G : Nat → Prop} (hI : ItemsAt w F p l) (hJ : ItemsAt w G q m) :
    Calls Tryd.prog 20 #[p, q] w (Ret (.bool (decide (l = m))) w) := by
  obtain ⟨r, hr⟩ : ∃ r, r = decide (l = m) := ⟨_, rfl⟩
  rw [← hr]
  obtain ⟨oa, c, hv⟩ := hI.slice
  obtain ⟨ob, d, hu⟩ := hJ.slice
  have hz1 := hI.len
  have hz2 := hJ.len
  have HI := Lib.hid hI
  have HJ := Lib.hid hJ
  have HR := Lib.hid hr
  clear hI hJ hr
  subst hv hu
  by_cases hlen : l.length = m.length
  case neg =>
    have e1 : ((l.length : Int) != (m.length : Int)) = true := by simp; omega
    obtain rfl : r = false := by rw [HR.out]; exact decide_eq_false (fun e => hlen (by rw [e]))
    clear hlen HR
    go_enter Tryd.func20, Tryd.ntmps20
    go_wp2
    go_ret
    exact ⟨rfl, Below.refl _ _⟩
  have HL := Lib.hid hlen
  have e1 : ((l.length : Int) != (m.length : Int)) = false := by simp; omega
  clear hlen
  go_enter Tryd.func20, Tryd.ntmps20
  go_wp2_with fail
  go_loopw [5] (fun j wr => ∃ k : Nat, j = .int .i64 (k : Int) ∧ k ≤ l.length ∧ Lies w wr ∧ Hid (l.take k = m.take k)) (fun j _ => l.length - (intOf j).toNat)
  case atStart => exact ⟨0, rfl, Nat.zero_le _, Lies.start w, Lib.hid (by simp)⟩
  case round =>
    obtain ⟨k, rfl, hk, hl, ht⟩ := hrel
    by_cases hlt : k < l.length
    case neg =>
      obtain rfl : k = l.length := by omega
      have d1 : decide (l.length < l.length) = false := decide_eq_false hlt
      obtain rfl : r = true := by
        have := ht.out
        rw [List.take_length, List.take_of_length_le (by rw [HL.out]; exact Nat.le_refl _)] at this
        rw [HR.out]; exact decide_eq_true this
      go_wp2
      go_ret
      exact ⟨rfl, hl⟩
    have d1 : decide (k < l.length) = true := decide_eq_true hlt
    have hlt2 : k < m.length := by rw [← HL.out]; exact hlt
    obtain ⟨b1, f1, c1, pv, hv, hF1, hb1, hp, hok1, a0, a1, a2, a3, a4, a5⟩ := (HI.out.lies hl).cell hlt
    obtain ⟨b2, f2, c2, qv, hu, hG1, hb2, hq, hok2, e0, e1', e2, e3, e4, e5⟩ := (HJ.out.lies hl).cell hlt2
    injection hv with i1 i2 i3
    injection hu with j1 j2 j3
    subst i1 j1
    clear i2 i3 j2 j3 hok1 hok2
    obtain ⟨oa2, cap2, hpv⟩ := hp.slice
    obtain ⟨ob2, cap3, hqv⟩ := hq.slice
    have HT : Hid (l.take (k + 1) = m.take (k + 1) ↔ l[k] = m[k]) := Lib.hid (by
      rw [List.take_succ_eq_append_getElem hlt, List.take_succ_eq_append_getElem hlt2, ht.out, List.append_cancel_left_eq]; simp)
    have HNE : Hid (l[k] ≠ m[k] → l ≠ m) := Lib.hid (fun h e => h (by subst e; rfl))
    generalize l[k] = x at *
    generalize m[k] = y at *
    have HP := Lib.hid hp
    have HQ := Lib.hid hq
    clear hp hq
    subst hpv hqv
    have k30 : ∀ W, Lies wr W → Calls Tryd.prog 30 #[.agg #[.int .u8 (x.step.pass : Int), .int .u8 (x.step.way : Int), .int .i64 x.step.rule, .slice oa2 x.step.path.length cap2, .int .i64 x.step.place], .agg #[.int .u8 (y.step.pass : Int), .int .u8 (y.step.way : Int), .int .i64 y.step.rule, .slice ob2 y.step.path.length cap3, .int .i64 y.step.place]] W (Ret (.bool (decide (x.step = y.step))) W) :=
      fun W hW => refStep_any (HP.out.lies hW) (HQ.out.lies hW)
    go_upto_region 6 with (fail)
    cases hmm : (x.mark == y.mark)
    · obtain rfl : r = false := by rw [HR.out]; exact decide_eq_false (HNE.out (fun e => by subst e; simp at hmm))
      (refine wp_region_quiet_all (C := Lies _) (by kernel_rfl) (by kernel_rfl) (Lies.drew (Lies.start _)) ?_; (repeat (first | (have hX_ : True := trivial; refine quiet_skip ?_ ?_; (focus exact wanted_no rfl rfl rfl); clear hX_; simp only [Act.put, List.setIfInBounds_toArray, List.set_cons_zero, List.set_cons_succ]) | (apply quiet_op _ rfl; (focus (intro w1 hw1; have hc1 := hw1.cells; go_simp; (try go_bits); (try (rw [if_pos (by omega)]; go_simp)); first | rfl)); simp only [Act.put, List.setIfInBounds_toArray, List.set_cons_zero, List.set_cons_succ]))); refine wpQuiet_nil ?_; intro w2 hw2)
      go_wp2
      go_ret
      exact ⟨rfl, hl.tr' hw2⟩
    cases hxy : decide (x.step = y.step)
    · rw [hxy] at k30
      obtain rfl : r = false := by rw [HR.out]; exact decide_eq_false (HNE.out (fun e => of_decide_eq_false hxy (by rw [e])))
      clear hxy
      (refine wp_region_quiet_all (C := Lies _) (by kernel_rfl) (by kernel_rfl) (Lies.drew (Lies.start _)) ?_; (repeat (first | (have hX_ : True := trivial; refine quiet_skip ?_ ?_; (focus exact wanted_no rfl rfl rfl); clear hX_; simp only [Act.put, List.setIfInBounds_toArray, List.set_cons_zero, List.set_cons_succ]) | (apply quiet_op _ rfl; (focus (intro w1 hw1; have hc1 := hw1.cells; go_simp; (try go_bits); (try (rw [if_pos (by omega)]; go_simp)); first | (go_at_call 30; with_reducible exact Calls.lies hw1 (k30 w1 hw1)) | (go_at_call 30; exact Calls.lies hw1 (k30 w1 hw1)) | rfl)); simp only [Act.put, List.setIfInBounds_toArray, List.set_cons_zero, List.set_cons_succ]))); refine wpQuiet_nil ?_; intro w2 hw2)
      go_wp2
      go_ret
      exact ⟨rfl, hl.tr' hw2⟩
    · rw [hxy] at k30
      have HXY : Hid (x = y) := Lib.hid (by
        have h1 : x.mark = y.mark := by simpa using hmm
        have h2 := of_decide_eq_true hxy
        cases x; cases y; simp only at h1 h2; rw [h1, h2])
      clear hxy
      (refine wp_region_quiet_all (C := Lies _) (by kernel_rfl) (by kernel_rfl) (Lies.drew (Lies.start _)) ?_; (repeat (first | (have hX_ : True := trivial; refine quiet_skip ?_ ?_; (focus exact wanted_no rfl rfl rfl); clear hX_; simp only [Act.put, List.setIfInBounds_toArray, List.set_cons_zero, List.set_cons_succ]) | (apply quiet_op _ rfl; (focus (intro w1 hw1; have hc1 := hw1.cells; go_simp; (try go_bits); (try (rw [if_pos (by omega)]; go_simp)); first | (go_at_call 30; with_reducible exact Calls.lies hw1 (k30 w1 hw1)) | (go_at_call 30; exact Calls.lies hw1 (k30 w1 hw1)) | rfl)); simp only [Act.put, List.setIfInBounds_toArray, List.set_cons_zero, List.set_cons_succ]))); refine wpQuiet_nil ?_; intro w2 hw2)
      go_wp2
      go_roundw
      case rel => exact ⟨k + 1, by go_num, by omega, hl.tr' hw2, Lib.hid (HT.out.2 HXY.out)⟩
      case measure => simp [intOf]; omega
end Go.Proofs.YtbgmjlonbbmffaaDoor
