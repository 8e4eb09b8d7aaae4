/- The reference's Class. -/
import Derived.Test.YtakcckdnliiieaaDoorQ5
namespace Go.Proofs.YtakcckdnliiieaaDoor
open Go Go.RowKit
attribute [local go_sem] Oper.quietAt Oper.quietUpon
theorem cls_same : ∀ n, n < 256 → sgnR [93, 45, 94, 92] n = sgn clsL n := by decide +kernel
theorem full_runs (s : BS) : s.runs = [(0, 255)] ↔ s = BS.full := by
  constructor
  · intro h
    have := accR_runs s
    rw [h] at this
    rw [← this]
    exact BS.ext_has fun n hn => by
      have : n ≤ 255 := by omega
      simp [accR, BS.has_or, BS.has_zero, BS.has_range _ _ _ hn, BS.has_full, this]
  · rintro rfl; decide +kernel
theorem sgn_strR (n : Nat) (X : ByteArray) (hX : X = ⟨(sgn clsL n).toArray⟩) (w : World) (hn : n < 256) : Calls Tryd.prog 73 #[.int .u8 (n : Int), .string ⟨#[93, 45, 94, 92]⟩] w (Ret (.string X) w) :=
  sign_str n _ X (by rw [hX, cls_same n hn]) w hn (by show 4 ≤ _; omega)
set_option maxRecDepth 100000 in
set_option maxHeartbeats 2000000 in
theorem refClass_any (s : BS) (w : World) : Calls Tryd.prog 58 #[.agg s.cells] w (Ret (strV (classB s)) w) := by
  obtain ⟨W0, hW0⟩ : ∃ W0, w.alloc (.cells s.cells 24) = W0 := ⟨_, rfl⟩
  have hS0 : Blk W0 w.heap.size 24 s.cells := by rw [← hW0]; exact Blk.new w 24 _
  have hB0 : Below w.heap.size w W0 := by rw [← hW0]; (repeat' first | exact Below.refl _ _ | assumption | refine Below.alloc ?_ (by simp <;> omega) _ | refine Below.setCell ?_ (by simp <;> omega) _ | refine Below.drew ?_)
  have hcS0 := hS0.cell
  have K38 := refRuns_any s W0
  obtain ⟨rs, hrs⟩ : ∃ rs, rs = s.runs := ⟨_, rfl⟩
  have hap : Apart rs := by rw [hrs]; exact apart_runs s
  have hrl := BS.runs_len s
  have hfr := full_runs s
  have hcl : classB s = if rs = [(0, 255)] then [46] else [91] ++ runsT clsL rs ++ [93] := by
    unfold classB
    rw [hrs]
    by_cases hf : s = BS.full
    · rw [if_pos hf, if_pos (hfr.2 hf)]
    · rw [if_neg hf, if_neg (fun e => hf (hfr.1 e))]
  rw [← hrs] at hrl K38
  clear hrs hfr
  rw [hcl]
  clear hcl
  obtain ⟨m, hm⟩ : ∃ m, m = rs.length := ⟨_, rfl⟩
  have HM := Lib.hid hm
  rw [← hm] at hrl
  clear hm
  by_cases hf : rs = [(0, 255)]
  · rw [if_pos hf]
    have HF := Lib.hid hf
    clear hf
    go_enter Tryd.func58, Tryd.ntmps58
    go_upto_region 1 with (fail)
    clear hW0
    go_upto_region 2 with (go_at_call 38; refine K38.mono ?_; rintro e w2 ⟨v, rfl, hrow, hb2⟩; have hR := RunsAt.of hrow)
    rw [HF.out] at hR
    rcases hR with ⟨_, h0⟩ | ⟨g, cap, rfl, hc⟩
    · cases h0
    have q1 : w2.cell? ⟨g, 0, none⟩ = some (.int .u8 0) := (hc 0 (by simp)).1
    have q2 : w2.cell? ⟨g, 1, none⟩ = some (.int .u8 255) := (hc 0 (by simp)).2
    clear hc hrow K38 HF
    go_wp2
    go_ret
    exact ⟨rfl, hB0.trans (Below.mono hb2 hB0.size)⟩
  rw [if_neg hf]
  have hv : ∀ (v : Value) (W : World) (B : Nat), W.ownsRow B 36 2 v rs.length (rcells rs) → ∃ a c, v = .slice a m c := fun v W B hrow => by rcases hrow.2 with ⟨h1, h2⟩ | ⟨g, cap, _, h1, _⟩; exact ⟨_, _, by rw [h1, HM.out, h2]⟩; exact ⟨_, _, by rw [h1, HM.out]⟩
  have HV := Lib.hid hv
  have HF := Lib.hid hf
  clear hv hf
  have hz0 : w.heap.size < W0.heap.size := hS0.lt
  by_cases hm1 : m = 1
  · have hl1 : 0 < rs.length := by have := HM.out; omega
    obtain ⟨a, ha⟩ : ∃ a, a = rs[0].1 := ⟨_, rfl⟩
    obtain ⟨z, hz⟩ : ∃ z, z = rs[0].2 := ⟨_, rfl⟩
    have hne : ((a : Int) == 0 && (z : Int) == 255) = false := by
      rw [Bool.eq_false_iff]
      intro h
      simp at h
      refine HF.out ?_
      have hl : rs.length = 1 := by have := HM.out; omega
      obtain ⟨r, hr⟩ := List.length_eq_one_iff.1 hl
      subst hr
      simp at ha hz
      rw [← show r.1 = 0 by omega, ← show r.2 = 255 by omega]
    have HA := Lib.hid ha
    have HZ := Lib.hid hz
    have HM1 := Lib.hid hm1
    clear ha hz hm1
    have hm1' : ((m : Int) == 1) = true := by have := HM1.out; simp; omega
    go_enter Tryd.func58, Tryd.ntmps58
    go_upto_region 1 with (fail)
    clear hW0
    go_upto_region 2 with (go_at_call 38; refine K38.mono ?_; rintro e w2 ⟨v, rfl, hrow, hb2⟩; have hR2 := RunsAt.of hrow; obtain ⟨va, vc, rfl⟩ := HV.out _ _ _ hrow)
    have hB2 := Lies.below (show Lies W0 w2 from hb2) hB0.size hB0
    obtain ⟨g, cap, hvv, hcur⟩ : ∃ g cap, (Value.slice va m vc) = .slice (some ⟨g, 0, none⟩) rs.length cap ∧ ∀ k (h : k < rs.length), w2.cell? ⟨g, k * 2, none⟩ = some (nb rs[k].1) ∧ w2.cell? ⟨g, k * 2 + 1, none⟩ = some (nb rs[k].2) := by
      rcases hR2 with ⟨_, h0⟩ | h
      · rw [h0] at hl1; simp at hl1
      · exact h
    obtain ⟨rfl, -, rfl⟩ : va = some ⟨g, 0, none⟩ ∧ m = rs.length ∧ vc = cap := by injection hvv with h1 h2 h3; exact ⟨h1, h2, h3⟩
    have q1 : w2.cell? ⟨g, 0, none⟩ = some (.int .u8 (a : Int)) := by rw [HA.out]; exact (hcur 0 hl1).1
    have q2 : w2.cell? ⟨g, 1, none⟩ = some (.int .u8 (z : Int)) := by rw [HZ.out]; exact (hcur 0 hl1).2
    have hm0 : 0 < m := by have := HM1.out; omega
    clear hvv hcur hrow hb2 K38
    go_upto_region 6 with (fail)
    clear q1 q2 hne hm1'
    obtain ⟨va, hva⟩ : ∃ va, va = some (⟨g, 0, none⟩ : Addr) := ⟨_, rfl⟩
    rw [← hva] at hR2 ⊢
    clear hva
    go_loopw [4, 5] (fun t i wr => ∃ (k : Nat) (A : ByteArray), k ≤ m ∧ i = .int .i64 (k : Int) ∧ t = .string A ∧ Hid (A = ⟨(runsT clsL (rs.take k)).toArray⟩) ∧ Below w.heap.size w wr ∧ RunsAt wr (.slice va m vc) rs) (fun _ i _ => m - (intOf i).toNat)
    case atStart => exact ⟨0, _, by omega, rfl, rfl, Lib.hid (by simp [runsT]), hB2, hR2⟩
    clear hB2 hR2
    case round =>
      obtain ⟨k, A, hk, rfl, rfl, hA, hb, hR⟩ := hrel
      have hTl : A.size ≤ 9 * k := by
        have h1 := runsT_len clsL (rs.take k)
        have h2 := List.length_take_le k rs
        rw [hA.out, size_mk]; omega
      by_cases hlt : k < m
      · have hlt' : k < rs.length := by rw [← HM.out]; exact hlt
        rcases hR with ⟨_, h0⟩ | ⟨g, cap, hvv, hcur⟩
        · rw [h0] at hlt'; simp at hlt'
        obtain ⟨rfl, -, rfl⟩ : va = some ⟨g, 0, none⟩ ∧ m = rs.length ∧ vc = cap := by injection hvv with h1 h2 h3; exact ⟨h1, h2, h3⟩
        have hck := hcur k hlt'
        have hak := hap.each k hlt'
        have hst := runsT_take clsL rs k hlt'
        unfold runT at hst
        obtain ⟨a, ha⟩ : ∃ a, a = rs[k].1 := ⟨_, rfl⟩
        obtain ⟨z, hz⟩ : ∃ z, z = rs[k].2 := ⟨_, rfl⟩
        rw [← ha, ← hz] at hck hak hst
        obtain ⟨haz, hz256⟩ := hak
        have c1 : wr.cell? ⟨g, k * 2, none⟩ = some (.int .u8 (a : Int)) := hck.1
        have c2 : wr.cell? ⟨g, k * 2 + 1, none⟩ = some (.int .u8 (z : Int)) := hck.2
        have hgl := cell_lt c1
        obtain ⟨X, hX⟩ : ∃ X : ByteArray, X = ⟨(sgn clsL a).toArray⟩ := ⟨_, rfl⟩
        obtain ⟨Z, hZ⟩ : ∃ X : ByteArray, X = ⟨(sgn clsL z).toArray⟩ := ⟨_, rfl⟩
        have hXz : X.size ≤ 4 := by rw [hX, size_mk]; exact sgn_len _ _
        have hZz : Z.size ≤ 4 := by rw [hZ, size_mk]; exact sgn_len _ _
        have hR' : RunsAt wr (.slice (some ⟨g, 0, none⟩) m vc) rs := .inr ⟨g, vc, by rw [HM.out], hcur⟩
        have l1 : ¬ (9223372036854775807 < A.size + X.size) := by omega
        have HST := Lib.hid hst
        have HX := Lib.hid hX
        have HZ := Lib.hid hZ
        clear ha hz hck hst hvv hcur
        go_upto_region 8 with (fail)
        (refine wp_region_quiet_all (C := Lies _) (by kernel_rfl) (by kernel_rfl) (Lies.drew (Lies.start _)) ?_; (repeat (first | (refine quiet_skip rfl ?_; simp only [Act.put, List.setIfInBounds_toArray, List.set_cons_zero, List.set_cons_succ]) | (apply quiet_op _ rfl; (focus (intro w1 hw1; have hc1 := hw1.cells; go_simp; (try go_bits); (try (rw [if_pos (by omega)]; go_simp)); first | rfl)); simp only [Act.put, List.setIfInBounds_toArray, List.set_cons_zero, List.set_cons_succ]))); refine wpQuiet_nil ?_; intro w3 hw3)
        have hb3 := Lies.below hw3 hb.size hb
        have hR3 := hR'.lies hw3
        have k1 := sgn_strR a X hX w3 (by omega)
        clear hX hZ c1 c2 hgl hw3 hR' hb
        go_upto_region 10 with (go_at_call 73; refine k1.mono ?_; rintro e w4 ⟨rfl, hw4⟩)
        have hb4 := Lies.below hw4 hb3.size hb3
        have hR4 := hR3.lies hw4
        have k2 := sgn_strR z Z HZ.out w4 (by omega)
        clear k1 hb3 hR3 hw4
        rcases (show z = a ∨ z = a + 1 ∨ a + 1 < z by omega) with hza | hza | hza
        · have d1 : decide ((a : Int) + 1 < (z : Int)) = false := decide_eq_false (by omega)
          have d2 : decide (a < z) = false := decide_eq_false (by omega)
          have hT7 : Hid (A ++ X = ⟨(runsT clsL (rs.take (k + 1))).toArray⟩) := Lib.hid (by rw [hA.out, HX.out, str_add, HST.out, if_neg (by omega), if_neg (by omega)]; simp)
          clear hza k2
          go_wp2
          go_roundw
          case rel => exact ⟨k + 1, _, by omega, by go_num, rfl, hT7, hb4, hR4⟩
          case measure => simp [intOf]; omega
        · have d1 : decide ((a : Int) + 1 < (z : Int)) = false := decide_eq_false (by omega)
          have d2 : decide (a < z) = true := decide_eq_true (by omega)
          have l2 : ¬ (9223372036854775807 < A.size + X.size + Z.size) := by omega
          have hT7 : Hid (A ++ X ++ Z = ⟨(runsT clsL (rs.take (k + 1))).toArray⟩) := Lib.hid (by rw [hA.out, HX.out, HZ.out, str_add, str_add, HST.out, if_neg (by omega), if_pos (by omega)]; simp)
          clear hza
          go_wp2_with (go_at_call 73; refine k2.mono ?_; rintro e w5 ⟨rfl, hw5⟩)
          go_roundw
          case rel => exact ⟨k + 1, _, by omega, by go_num, rfl, hT7, Lies.below hw5 hb4.size hb4, hR4.lies hw5⟩
          case measure => simp [intOf]; omega
        · have d1 : decide ((a : Int) + 1 < (z : Int)) = true := decide_eq_true (by omega)
          have d2 : decide (a < z) = true := decide_eq_true (by omega)
          have l2 : ¬ (9223372036854775807 < A.size + X.size + 1) := by omega
          have l3 : ¬ (9223372036854775807 < A.size + X.size + 1 + Z.size) := by omega
          have hT7 : Hid (A ++ X ++ ByteArray.mk #[45] ++ Z = ⟨(runsT clsL (rs.take (k + 1))).toArray⟩) := Lib.hid (by
            rw [hA.out, HX.out, HZ.out, HST.out, if_pos (by omega), if_pos (by omega)]
            show _ ++ _ ++ ByteArray.mk [45].toArray ++ _ = _
            rw [str_add, str_add, str_add]; simp)
          clear hza
          go_wp2_with (go_at_call 73; refine k2.mono ?_; rintro e w5 ⟨rfl, hw5⟩)
          go_roundw
          case rel => exact ⟨k + 1, _, by omega, by go_num, rfl, hT7, Lies.below hw5 hb4.size hb4, hR4.lies hw5⟩
          case measure => simp [intOf]; omega
      · obtain rfl : k = m := by omega
        have hd9 : decide ((k : Int) < (k : Int)) = false := by simp
        have hA' := hA.out
        rw [List.take_of_length_le (by rw [← HM.out]; exact Nat.le_refl _)] at hA'
        have l1 : ¬ (9223372036854775807 < 1 + A.size) := by omega
        have l2 : ¬ (9223372036854775807 < 1 + A.size + 1) := by omega
        have hfin : Hid (ByteArray.mk #[91] ++ A ++ ByteArray.mk #[93] = ⟨([91] ++ runsT clsL rs ++ [93]).toArray⟩) := Lib.hid (by
          rw [hA']
          show ByteArray.mk [91].toArray ++ _ ++ ByteArray.mk [93].toArray = _
          rw [str_add, str_add])
        clear hA' hR hA
        go_wp2
        go_ret
        exact ⟨ret_str hfin.out, hb⟩
  · have hm1' : ((m : Int) == 1) = false := by simp; omega
    have HM1 := Lib.hid hm1
    clear hm1
    go_enter Tryd.func58, Tryd.ntmps58
    go_upto_region 1 with (fail)
    clear hW0
    go_upto_region 2 with (go_at_call 38; refine K38.mono ?_; rintro e w2 ⟨v, rfl, hrow, hb2⟩; have hR2 := RunsAt.of hrow; obtain ⟨va, vc, rfl⟩ := HV.out _ _ _ hrow)
    have hB2 := Lies.below (show Lies W0 w2 from hb2) hB0.size hB0
    clear hrow hb2 K38
    go_upto_region 6 with (fail)
    clear hm1'
    go_loopw [4, 5] (fun t i wr => ∃ (k : Nat) (A : ByteArray), k ≤ m ∧ i = .int .i64 (k : Int) ∧ t = .string A ∧ Hid (A = ⟨(runsT clsL (rs.take k)).toArray⟩) ∧ Below w.heap.size w wr ∧ RunsAt wr (.slice va m vc) rs) (fun _ i _ => m - (intOf i).toNat)
    case atStart => exact ⟨0, _, by omega, rfl, rfl, Lib.hid (by simp [runsT]), hB2, hR2⟩
    clear hB2 hR2
    case round =>
      obtain ⟨k, A, hk, rfl, rfl, hA, hb, hR⟩ := hrel
      have hTl : A.size ≤ 9 * k := by
        have h1 := runsT_len clsL (rs.take k)
        have h2 := List.length_take_le k rs
        rw [hA.out, size_mk]; omega
      by_cases hlt : k < m
      · have hlt' : k < rs.length := by rw [← HM.out]; exact hlt
        rcases hR with ⟨_, h0⟩ | ⟨g, cap, hvv, hcur⟩
        · rw [h0] at hlt'; simp at hlt'
        obtain ⟨rfl, -, rfl⟩ : va = some ⟨g, 0, none⟩ ∧ m = rs.length ∧ vc = cap := by injection hvv with h1 h2 h3; exact ⟨h1, h2, h3⟩
        have hck := hcur k hlt'
        have hak := hap.each k hlt'
        have hst := runsT_take clsL rs k hlt'
        unfold runT at hst
        obtain ⟨a, ha⟩ : ∃ a, a = rs[k].1 := ⟨_, rfl⟩
        obtain ⟨z, hz⟩ : ∃ z, z = rs[k].2 := ⟨_, rfl⟩
        rw [← ha, ← hz] at hck hak hst
        obtain ⟨haz, hz256⟩ := hak
        have c1 : wr.cell? ⟨g, k * 2, none⟩ = some (.int .u8 (a : Int)) := hck.1
        have c2 : wr.cell? ⟨g, k * 2 + 1, none⟩ = some (.int .u8 (z : Int)) := hck.2
        have hgl := cell_lt c1
        obtain ⟨X, hX⟩ : ∃ X : ByteArray, X = ⟨(sgn clsL a).toArray⟩ := ⟨_, rfl⟩
        obtain ⟨Z, hZ⟩ : ∃ X : ByteArray, X = ⟨(sgn clsL z).toArray⟩ := ⟨_, rfl⟩
        have hXz : X.size ≤ 4 := by rw [hX, size_mk]; exact sgn_len _ _
        have hZz : Z.size ≤ 4 := by rw [hZ, size_mk]; exact sgn_len _ _
        have hR' : RunsAt wr (.slice (some ⟨g, 0, none⟩) m vc) rs := .inr ⟨g, vc, by rw [HM.out], hcur⟩
        have l1 : ¬ (9223372036854775807 < A.size + X.size) := by omega
        have HST := Lib.hid hst
        have HX := Lib.hid hX
        have HZ := Lib.hid hZ
        clear ha hz hck hst hvv hcur
        go_upto_region 8 with (fail)
        (refine wp_region_quiet_all (C := Lies _) (by kernel_rfl) (by kernel_rfl) (Lies.drew (Lies.start _)) ?_; (repeat (first | (refine quiet_skip rfl ?_; simp only [Act.put, List.setIfInBounds_toArray, List.set_cons_zero, List.set_cons_succ]) | (apply quiet_op _ rfl; (focus (intro w1 hw1; have hc1 := hw1.cells; go_simp; (try go_bits); (try (rw [if_pos (by omega)]; go_simp)); first | rfl)); simp only [Act.put, List.setIfInBounds_toArray, List.set_cons_zero, List.set_cons_succ]))); refine wpQuiet_nil ?_; intro w3 hw3)
        have hb3 := Lies.below hw3 hb.size hb
        have hR3 := hR'.lies hw3
        have k1 := sgn_strR a X hX w3 (by omega)
        clear hX hZ c1 c2 hgl hw3 hR' hb
        go_upto_region 10 with (go_at_call 73; refine k1.mono ?_; rintro e w4 ⟨rfl, hw4⟩)
        have hb4 := Lies.below hw4 hb3.size hb3
        have hR4 := hR3.lies hw4
        have k2 := sgn_strR z Z HZ.out w4 (by omega)
        clear k1 hb3 hR3 hw4
        rcases (show z = a ∨ z = a + 1 ∨ a + 1 < z by omega) with hza | hza | hza
        · have d1 : decide ((a : Int) + 1 < (z : Int)) = false := decide_eq_false (by omega)
          have d2 : decide (a < z) = false := decide_eq_false (by omega)
          have hT7 : Hid (A ++ X = ⟨(runsT clsL (rs.take (k + 1))).toArray⟩) := Lib.hid (by rw [hA.out, HX.out, str_add, HST.out, if_neg (by omega), if_neg (by omega)]; simp)
          clear hza k2
          go_wp2
          go_roundw
          case rel => exact ⟨k + 1, _, by omega, by go_num, rfl, hT7, hb4, hR4⟩
          case measure => simp [intOf]; omega
        · have d1 : decide ((a : Int) + 1 < (z : Int)) = false := decide_eq_false (by omega)
          have d2 : decide (a < z) = true := decide_eq_true (by omega)
          have l2 : ¬ (9223372036854775807 < A.size + X.size + Z.size) := by omega
          have hT7 : Hid (A ++ X ++ Z = ⟨(runsT clsL (rs.take (k + 1))).toArray⟩) := Lib.hid (by rw [hA.out, HX.out, HZ.out, str_add, str_add, HST.out, if_neg (by omega), if_pos (by omega)]; simp)
          clear hza
          go_wp2_with (go_at_call 73; refine k2.mono ?_; rintro e w5 ⟨rfl, hw5⟩)
          go_roundw
          case rel => exact ⟨k + 1, _, by omega, by go_num, rfl, hT7, Lies.below hw5 hb4.size hb4, hR4.lies hw5⟩
          case measure => simp [intOf]; omega
        · have d1 : decide ((a : Int) + 1 < (z : Int)) = true := decide_eq_true (by omega)
          have d2 : decide (a < z) = true := decide_eq_true (by omega)
          have l2 : ¬ (9223372036854775807 < A.size + X.size + 1) := by omega
          have l3 : ¬ (9223372036854775807 < A.size + X.size + 1 + Z.size) := by omega
          have hT7 : Hid (A ++ X ++ ByteArray.mk #[45] ++ Z = ⟨(runsT clsL (rs.take (k + 1))).toArray⟩) := Lib.hid (by
            rw [hA.out, HX.out, HZ.out, HST.out, if_pos (by omega), if_pos (by omega)]
            show _ ++ _ ++ ByteArray.mk [45].toArray ++ _ = _
            rw [str_add, str_add, str_add]; simp)
          clear hza
          go_wp2_with (go_at_call 73; refine k2.mono ?_; rintro e w5 ⟨rfl, hw5⟩)
          go_roundw
          case rel => exact ⟨k + 1, _, by omega, by go_num, rfl, hT7, Lies.below hw5 hb4.size hb4, hR4.lies hw5⟩
          case measure => simp [intOf]; omega
      · obtain rfl : k = m := by omega
        have hd9 : decide ((k : Int) < (k : Int)) = false := by simp
        have hA' := hA.out
        rw [List.take_of_length_le (by rw [← HM.out]; exact Nat.le_refl _)] at hA'
        have l1 : ¬ (9223372036854775807 < 1 + A.size) := by omega
        have l2 : ¬ (9223372036854775807 < 1 + A.size + 1) := by omega
        have hfin : Hid (ByteArray.mk #[91] ++ A ++ ByteArray.mk #[93] = ⟨([91] ++ runsT clsL rs ++ [93]).toArray⟩) := Lib.hid (by
          rw [hA']
          show ByteArray.mk [91].toArray ++ _ ++ ByteArray.mk [93].toArray = _
          rw [str_add, str_add])
        clear hA' hR hA
        go_wp2
        go_ret
        exact ⟨ret_str hfin.out, hb⟩
end Go.Proofs.YtakcckdnliiieaaDoor
