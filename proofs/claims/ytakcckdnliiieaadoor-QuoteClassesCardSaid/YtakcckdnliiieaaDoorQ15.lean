/- The reference's sign. -/
import Derived.Test.YtakcckdnliiieaaDoorQ14
namespace Go.Proofs.YtakcckdnliiieaaDoor
open Go Go.RowKit
theorem pl_split {L : List UInt8} {n : Nat} (h1 : ¬ n < 32) (h2 : ¬ 126 < n) (h3 : n ≠ 92) : pl L n = !inL L n := by
  unfold pl
  rw [decide_eq_true (show 32 ≤ n by omega), decide_eq_true (show n ≤ 126 by omega), decide_eq_true h3]
  simp
theorem pl_out {L : List UInt8} {n : Nat} (h : n < 32 ∨ 126 < n) : pl L n = false := by
  unfold pl
  rcases h with h | h
  · rw [decide_eq_false (show ¬ 32 ≤ n by omega)]; simp
  · rw [decide_eq_false (show ¬ n ≤ 126 by omega)]; simp
set_option maxRecDepth 100000 in
set_option maxHeartbeats 2000000 in
theorem refSign_any {t S : ByteArray} {L : List UInt8} {i : Nat} (w : World) (ht : t.size ≤ 1000000) (hi : i ≤ t.size) (hSz : S.size ≤ 1000) (hS : ∀ n, n < 256 → inL S.data.toList n = (inL L n || decide (n = 92)))
    (hL : inL L 110 = false ∧ inL L 114 = false ∧ inL L 116 = false) :
    Calls Tryd.prog 72 #[.string t, .int .i64 (i : Int), .string S] w fun x w' => x = .returned (.tuple #[.int .u8 ((signP t L i).1 : Int), .int .i64 ((signP t L i).2.1 : Int), .int .i64 ((signP t L i).2.2 : Int)]) ∧ w = w' := by
  obtain ⟨r, hr⟩ : ∃ r, r = signP t L i := ⟨_, rfl⟩
  rw [← hr]
  have HR := Lib.hid hr
  clear hr
  by_cases hlen : i < t.size
  case neg =>
    obtain rfl : r = (0, t.size, 8) := by rw [HR.out]; unfold signP; rw [byteAt_ge (by omega)]
    have d1 : decide (t.size ≤ i) = true := decide_eq_true (by omega)
    clear HR hlen
    go_enter Tryd.func72, Tryd.ntmps72
    go_wp2
    exact bodyPost_ret (v := .tuple #[.int .u8 0, .int .i64 (t.size : Int), .int .i64 8]) (by simp [results, Tryd.results72, go_sem]) rfl ⟨rfl, rfl⟩
  have d1 : decide (t.size ≤ i) = false := decide_eq_false (by omega)
  have hb256 := t[i].toNat_lt
  by_cases hlo : t[i].toNat < 32
  · obtain rfl : r = (0, i, 4) := by rw [HR.out]; unfold signP; rw [byteAt_lt hlen]; simp only; rw [if_neg (by omega), pl_out (.inl hlo)]; rfl
    have d2 : decide ((t[i].toNat : Int) < 32) = true := decide_eq_true (by omega)
    clear HR hlo
    go_enter Tryd.func72, Tryd.ntmps72
    go_wp2
    exact bodyPost_ret (v := .tuple #[.int .u8 0, .int .i64 (i : Int), .int .i64 4]) (by simp [results, Tryd.results72, go_sem]) rfl ⟨rfl, rfl⟩
  by_cases hhi : 126 < t[i].toNat
  · obtain rfl : r = (0, i, 4) := by rw [HR.out]; unfold signP; rw [byteAt_lt hlen]; simp only; rw [if_neg (by omega), pl_out (.inr hhi)]; rfl
    have d2 : decide ((t[i].toNat : Int) < 32) = false := decide_eq_false (by omega)
    have d3 : decide (126 < (t[i].toNat : Int)) = true := decide_eq_true (by omega)
    clear HR hlo hhi
    go_enter Tryd.func72, Tryd.ntmps72
    go_wp2
    exact bodyPost_ret (v := .tuple #[.int .u8 0, .int .i64 (i : Int), .int .i64 4]) (by simp [results, Tryd.results72, go_sem]) rfl ⟨rfl, rfl⟩
  have d2 : decide ((t[i].toNat : Int) < 32) = false := decide_eq_false (by omega)
  have d3 : decide (126 < (t[i].toNat : Int)) = false := decide_eq_false (by omega)
  by_cases h92 : t[i].toNat = 92
  case neg =>
    have d4 : ((t[i].toNat : Int) != 92) = true := by simp; omega
    have hw := fun w => within_any t[i].toNat S w hb256 (by omega)
    have hSi := hS _ hb256
    rw [decide_eq_false h92, Bool.or_false] at hSi
    rw [hSi] at hw
    cases hin : inL L t[i].toNat
    · obtain rfl : r = (t[i].toNat, i + 1, 0) := by rw [HR.out]; unfold signP; rw [byteAt_lt hlen]; simp only; rw [if_neg h92, pl_split hlo hhi h92, hin]; rfl
      simp only [hin] at hw
      clear HR hlo hhi h92 hSi hin hS
      go_enter Tryd.func72, Tryd.ntmps72
      go_wp2_with (go_at_call 84; refine (hw _).mono ?_; rintro x w2 ⟨rfl, rfl⟩)
      exact bodyPost_ret (v := .tuple #[.int .u8 (t[i].toNat : Int), .int .i64 ((i : Int) + 1), .int .i64 0]) (by simp [results, Tryd.results72, go_sem]) rfl ⟨rfl, rfl⟩
    · obtain rfl : r = (0, i, 4) := by rw [HR.out]; unfold signP; rw [byteAt_lt hlen]; simp only; rw [if_neg h92, pl_split hlo hhi h92, hin]; rfl
      simp only [hin] at hw
      clear HR hlo hhi h92 hSi hin hS
      go_enter Tryd.func72, Tryd.ntmps72
      go_wp2_with (go_at_call 84; refine (hw _).mono ?_; rintro x w2 ⟨rfl, rfl⟩)
      exact bodyPost_ret (v := .tuple #[.int .u8 0, .int .i64 (i : Int), .int .i64 4]) (by simp [results, Tryd.results72, go_sem]) rfl ⟨rfl, rfl⟩
  have d4 : ((t[i].toNat : Int) != 92) = false := by simp; omega
  by_cases hlen2 : i + 1 < t.size
  case neg =>
    obtain rfl : r = (0, t.size, 8) := by rw [HR.out]; unfold signP; rw [byteAt_lt hlen]; simp only; rw [if_pos h92, byteAt_ge (by omega)]
    have d5 : decide ((t.size : Int) ≤ (i : Int) + 1) = true := decide_eq_true (by omega)
    clear HR hlo hhi h92 hlen2
    go_enter Tryd.func72, Tryd.ntmps72
    go_wp2
    exact bodyPost_ret (v := .tuple #[.int .u8 0, .int .i64 (t.size : Int), .int .i64 8]) (by simp [results, Tryd.results72, go_sem]) rfl ⟨rfl, rfl⟩
  have d5 : decide ((t.size : Int) ≤ (i : Int) + 1) = false := decide_eq_false (by omega)
  have hc256 := t[i + 1].toNat_lt
  have HM : r = match meant L t[i + 1].toNat with | some m => (m, i + 2, 0) | none => if t[i + 1].toNat = 120 then hexP t (i + 2) else (0, i + 1, 4) := by
    rw [HR.out]; unfold signP; rw [byteAt_lt hlen]; simp only; rw [if_pos h92, byteAt_lt hlen2]; rfl
  clear HR hlo hhi
  by_cases h110 : t[i + 1].toNat = 110
  · obtain rfl : r = (10, i + 2, 0) := by
      rw [HM]
      have : meant L t[i + 1].toNat = some 10 := by unfold meant; rw [h110]; simp [hL.1, hL.2.1, hL.2.2]
      rw [this]
    have e110 : ((t[i + 1].toNat : Int) == 110) = true := by simp; omega
    clear HM h110 h92 hS
    go_enter Tryd.func72, Tryd.ntmps72
    go_wp2
    exact bodyPost_ret (v := .tuple #[.int .u8 10, .int .i64 ((i : Int) + 2), .int .i64 0]) (by simp [results, Tryd.results72, go_sem]) rfl ⟨rfl, rfl⟩
  have e110 : ((t[i + 1].toNat : Int) == 110) = false := by simp; omega
  by_cases h114 : t[i + 1].toNat = 114
  · obtain rfl : r = (13, i + 2, 0) := by
      rw [HM]
      have : meant L t[i + 1].toNat = some 13 := by unfold meant; rw [h114]; simp [hL.1, hL.2.1, hL.2.2]
      rw [this]
    have e114 : ((t[i + 1].toNat : Int) == 114) = true := by simp; omega
    clear HM h114 h92 hS
    go_enter Tryd.func72, Tryd.ntmps72
    go_wp2
    exact bodyPost_ret (v := .tuple #[.int .u8 13, .int .i64 ((i : Int) + 2), .int .i64 0]) (by simp [results, Tryd.results72, go_sem]) rfl ⟨rfl, rfl⟩
  have e114 : ((t[i + 1].toNat : Int) == 114) = false := by simp; omega
  by_cases h116 : t[i + 1].toNat = 116
  · obtain rfl : r = (9, i + 2, 0) := by
      rw [HM]
      have : meant L t[i + 1].toNat = some 9 := by unfold meant; rw [h116]; simp [hL.1, hL.2.1, hL.2.2]
      rw [this]
    have e116 : ((t[i + 1].toNat : Int) == 116) = true := by simp; omega
    clear HM h116 h92 hS
    go_enter Tryd.func72, Tryd.ntmps72
    go_wp2
    exact bodyPost_ret (v := .tuple #[.int .u8 9, .int .i64 ((i : Int) + 2), .int .i64 0]) (by simp [results, Tryd.results72, go_sem]) rfl ⟨rfl, rfl⟩
  have e116 : ((t[i + 1].toNat : Int) == 116) = false := by simp; omega
  have hw := fun w => within_any t[i + 1].toNat S w hc256 (by omega)
  cases hin : inL S.data.toList t[i + 1].toNat
  case true =>
    simp only [hin] at hw
    obtain rfl : r = (t[i + 1].toNat, i + 2, 0) := by
      rw [HM]
      have : meant L t[i + 1].toNat = some t[i + 1].toNat := by
        unfold meant
        cases hl : inL L t[i + 1].toNat
        · have h9 : t[i + 1].toNat = 92 := by have := hS _ hc256; rw [hin, hl] at this; simpa using this
          rw [h9]; simp
        · rfl
      rw [this]
    clear HM h92 hS hin h110 h114 h116
    go_enter Tryd.func72, Tryd.ntmps72
    go_wp2_with (go_at_call 84; refine (hw _).mono ?_; rintro x w2 ⟨rfl, rfl⟩)
    exact bodyPost_ret (v := .tuple #[.int .u8 (t[i + 1].toNat : Int), .int .i64 ((i : Int) + 2), .int .i64 0]) (by simp [results, Tryd.results72, go_sem]) rfl ⟨rfl, rfl⟩
  simp only [hin] at hw
  have hno : meant L t[i + 1].toNat = none := by
    have := hS _ hc256
    rw [hin] at this
    simp at this
    unfold meant
    rw [this.1, if_neg (by simp), if_neg this.2, if_neg h116, if_neg h114, if_neg h110]
  rw [hno] at HM
  simp only at HM
  clear hno hin hS h110 h114 h116
  by_cases h120 : t[i + 1].toNat = 120
  case neg =>
    rw [if_neg h120] at HM
    subst HM
    have e120 : ((t[i + 1].toNat : Int) != 120) = true := by simp; omega
    clear h120 h92
    go_enter Tryd.func72, Tryd.ntmps72
    go_wp2_with (go_at_call 84; refine (hw _).mono ?_; rintro x w2 ⟨rfl, rfl⟩)
    exact bodyPost_ret (v := .tuple #[.int .u8 0, .int .i64 ((i : Int) + 1), .int .i64 4]) (by simp [results, Tryd.results72, go_sem]) rfl ⟨rfl, rfl⟩
  rw [if_pos h120] at HM
  have e120 : ((t[i + 1].toNat : Int) != 120) = false := by simp; omega
  have HX := Lib.hid HM
  clear h120 h92 HM
  go_enter Tryd.func72, Tryd.ntmps72
  go_upto_region 22 with (go_at_call 84; refine (hw _).mono ?_; rintro x w2 ⟨rfl, rfl⟩)
  clear d1 d2 d3 d4 d5 e110 e114 e116 e120 hw hb256 hc256
  go_wp2_with fail
  go_loop [10, 11] (fun v j => ∃ k s p : Nat, k ≤ 2 ∧ Hid (p = i + 2 + k) ∧ p ≤ t.size ∧ j = .int .i64 (p : Int) ∧ v = .int .i64 (s : Int) ∧ Hid (hexs t (i + 2) k = some s) ∧ s < 256) (fun _ j => i + 4 - (intOf j).toNat)
  case atStart => exact ⟨0, 0, i + 2, by omega, Lib.hid rfl, by omega, by go_num, rfl, Lib.hid rfl, by omega⟩
  case round =>
    obtain ⟨k, s, p, hk, hp, hpt, rfl, rfl, hs, hs256⟩ := hrel
    by_cases hlt : k < 2
    · have hs16 := hexs_lt hs.out hlt
      have c1 : decide ((p : Int) < (i : Int) + 4) = true := decide_eq_true (by have := hp.out; omega)
      by_cases hpl : p < t.size
      · have c2 : decide (t.size ≤ p) = false := decide_eq_false (by omega)
        have hb256 := t[p].toNat_lt
        have hbt := byteAt_lt hpl
        cases hv : hexv t[p].toNat with
        | none =>
          have hP := hexP_bad hlt hs.out (by rw [← hp.out]; exact hbt) hv
          obtain rfl : r = (0, p, 4) := by rw [HX.out, hP, ← hp.out]
          have k1 := fun w => refHex_no w hb256 hv
          clear hP hv hbt HX hlt
          go_wp2_with (go_at_call 85; refine (k1 _).mono ?_; rintro x w2 ⟨rfl, rfl⟩)
          exact bodyPost_ret (v := .tuple #[.int .u8 0, .int .i64 (p : Int), .int .i64 4]) (by simp [results, Tryd.results72, go_sem]) rfl ⟨rfl, rfl⟩
        | some d =>
          have hst := Lib.hid (hexs_step hs.out (by rw [← hp.out]; exact hbt) hv)
          have hd := hexv_lt hv
          have k1 := fun w => refHex_yes w hb256 hv
          have hpp : p + 1 = i + 2 + (k + 1) := by have := hp.out; omega
          have HPP := Lib.hid hpp
          have hmm : i + 4 - (p + 1) < i + 4 - p := by have := hp.out; omega
          clear hv hbt hpp
          go_wp2_with (go_at_call 85; refine (k1 _).mono ?_; rintro x w2 ⟨rfl, rfl⟩)
          go_round
          case rel => exact ⟨k + 1, s * 16 + d, p + 1, by omega, HPP, by omega, by go_num, by go_num, hst, by omega⟩
          case measure => simp [intOf]; omega
      · have c2 : decide (t.size ≤ p) = true := decide_eq_true (by omega)
        have hP := hexP_short hlt hs.out (byteAt_ge (by have := hp.out; omega))
        obtain rfl : r = (0, t.size, 8) := by rw [HX.out, hP]
        clear hP HX hlt
        go_wp2
        exact bodyPost_ret (v := .tuple #[.int .u8 0, .int .i64 (t.size : Int), .int .i64 8]) (by simp [results, Tryd.results72, go_sem]) rfl ⟨rfl, rfl⟩
    · obtain rfl : k = 2 := by omega
      have hP := hexP_good hs.out
      obtain rfl : r = (s, i + 2 + 2, 0) := by rw [HX.out, hP]
      have c1 : decide ((p : Int) < (i : Int) + 4) = false := decide_eq_false (by have := hp.out; omega)
      clear hP HX
      go_wp2
      exact bodyPost_ret (v := .tuple #[.int .u8 (s : Int), .int .i64 ((i : Int) + 4), .int .i64 0]) (by simp [results, Tryd.results72, go_sem]) rfl ⟨rfl, rfl⟩
end Go.Proofs.YtakcckdnliiieaaDoor
