/- quote's reader: hex. -/
import Derived.Test.YtakcckdnliiieaaDoorQ8
namespace Go.Proofs.YtakcckdnliiieaaDoor
open Go Go.RowKit
attribute [local go_sem] Oper.quietAt Oper.quietUpon
/-- A hexadecimal digit's number. -/
def hexv (b : Nat) : Option Nat := if 48 ≤ b ∧ b ≤ 57 then some (b - 48) else if 97 ≤ b ∧ b ≤ 102 then some (b - 87) else if 65 ≤ b ∧ b ≤ 70 then some (b - 55) else none
theorem hexv_lt {b d : Nat} (h : hexv b = some d) : d < 16 := by
  unfold hexv at h
  split at h
  · injection h; omega
  · split at h
    · injection h; omega
    · split at h
      · injection h; omega
      · cases h
/-- Two hexadecimal digits: the byte, the place behind them, no error; or where an error stands. -/
def hexP (t : ByteArray) (i : Nat) : Nat × Nat × Nat :=
  match byteAt t i with
  | none => (0, t.size, 8)
  | some b => match hexv b with
    | none => (0, i, 4)
    | some d => match byteAt t (i + 1) with
      | none => (0, t.size, 8)
      | some b2 => match hexv b2 with
        | none => (0, i + 1, 4)
        | some d2 => (d * 16 + d2, i + 2, 0)
/-- The first k digits. -/
def hexs (t : ByteArray) (i : Nat) : Nat → Option Nat
  | 0 => some 0
  | k + 1 => (hexs t i k).bind fun s => (byteAt t (i + k)).bind fun b => (hexv b).map fun d => s * 16 + d
theorem hexs_step {t : ByteArray} {i k s b d : Nat} (h : hexs t i k = some s) (hb : byteAt t (i + k) = some b) (hd : hexv b = some d) : hexs t i (k + 1) = some (s * 16 + d) := by simp [hexs, h, hb, hd]
theorem hexs_one {t : ByteArray} {i s : Nat} (h : hexs t i 1 = some s) : ∃ b, byteAt t i = some b ∧ hexv b = some s := by
  simp only [hexs, Option.bind_some, Nat.add_zero, Nat.zero_mul, Nat.zero_add] at h
  cases hb : byteAt t i with
  | none => rw [hb] at h; cases h
  | some b => rw [hb] at h; exact ⟨b, rfl, by simpa using h⟩
theorem hexP_short {t : ByteArray} {i k s : Nat} (hk : k < 2) (h : hexs t i k = some s) (hb : byteAt t (i + k) = none) : hexP t i = (0, t.size, 8) := by
  unfold hexP
  match k, hk with
  | 0, _ => rw [Nat.add_zero] at hb; rw [hb]
  | 1, _ =>
    obtain ⟨b, h1, h2⟩ := hexs_one h
    rw [h1]; simp only [h2, hb]
theorem hexP_bad {t : ByteArray} {i k s b : Nat} (hk : k < 2) (h : hexs t i k = some s) (hb : byteAt t (i + k) = some b) (hd : hexv b = none) : hexP t i = (0, i + k, 4) := by
  unfold hexP
  match k, hk with
  | 0, _ => rw [Nat.add_zero] at hb; rw [hb]; simp only [hd]; rfl
  | 1, _ =>
    obtain ⟨b1, h1, h2⟩ := hexs_one h
    rw [h1]; simp only [h2, hb, hd]
theorem hexP_good {t : ByteArray} {i s : Nat} (h : hexs t i 2 = some s) : hexP t i = (s, i + 2, 0) := by
  have h' : ((hexs t i 1).bind fun s => (byteAt t (i + 1)).bind fun b => (hexv b).map fun d => s * 16 + d) = some s := h
  cases h1 : hexs t i 1 with
  | none => rw [h1] at h'; cases h'
  | some s1 =>
    rw [h1] at h'
    obtain ⟨b1, h2, h3⟩ := hexs_one h1
    cases hb : byteAt t (i + 1) with
    | none => rw [hb] at h'; cases h'
    | some b =>
      rw [hb] at h'
      cases hd : hexv b with
      | none => simp [hd] at h'
      | some d =>
        simp [hd] at h'
        unfold hexP
        rw [h2]; simp only [h3, hb, hd, h']
theorem hexs_lt {t : ByteArray} {i k s : Nat} (h : hexs t i k = some s) (hk : k < 2) : s < 16 := by
  match k, hk with
  | 0, _ => simp [hexs] at h; omega
  | 1, _ => obtain ⟨b, _, h2⟩ := hexs_one h; exact hexv_lt h2
theorem or_nibble0 : ∀ s : Nat, s < 16 → ∀ d : Nat, d < 16 → bits .or .u8 ((s : Int) * 16) (d : Int) = (s : Int) * 16 + (d : Int) := by decide +kernel
theorem or_nib {s d : Nat} {x : Int} (hs : s < 16) (hd : d < 16) (hx : x = (d : Int)) : Value.int .u8 (bits .or .u8 ((s : Int) * 16) x) = Value.int .u8 ((s * 16 + d : Nat) : Int) := by
  rw [hx, or_nibble0 s hs d hd]
  rfl
set_option maxRecDepth 100000 in
set_option maxHeartbeats 2000000 in
theorem hex_any {t L : ByteArray} {en mb i g : Nat} {w : World} (ht : t.size ≤ 1000000000) (hi : i ≤ t.size) (hB : Blk w g 84 (rdr t L en mb i 0)) :
    Calls Tryd.prog 89 #[.pointer (some ⟨g, 0, none⟩)] w fun x w' => x = .returned (.tuple #[.int .u8 ((hexP t i).1 : Int), .bool ((hexP t i).2.2 == 0)]) ∧ Blk w' g 84 (rdr t L en mb (hexP t i).2.1 (hexP t i).2.2) ∧ w.grownBy w' (some g) := by
  obtain ⟨r, hr⟩ : ∃ r, r = hexP t i := ⟨_, rfl⟩
  rw [← hr]
  have HR := Lib.hid hr
  clear hr
  go_enter Tryd.func89, Tryd.ntmps89
  go_wp2_with fail
  go_loopw [4, 7] (fun v j wr => ∃ k s : Nat, k ≤ 2 ∧ i + k ≤ t.size ∧ j = .int .i64 (k : Int) ∧ v = .int .u8 (s : Int) ∧ Hid (hexs t i k = some s) ∧ s < 256 ∧ Blk wr g 84 (rdr t L en mb (i + k) 0) ∧ w.grownBy wr (some g)) (fun _ j _ => 2 - (intOf j).toNat)
  case atStart => exact ⟨0, 0, by omega, by omega, rfl, rfl, Lib.hid rfl, by omega, hB, World.grownBy.refl _ _⟩
  clear hB
  case round =>
    obtain ⟨k, s, hk, hik, rfl, rfl, hs, hs256, hBr, hgr⟩ := hrel
    by_cases hlt : k < 2
    · have hs16 := hexs_lt hs.out hlt
      by_cases hlen : i + k < t.size
      · have m1 := next_yes ht hBr hlen
        have hbt := byteAt_lt hlen
        obtain ⟨b, hb⟩ : ∃ b, b = t[i + k].toNat := ⟨_, rfl⟩
        have hb256 : b < 256 := by rw [hb]; exact t[i + k].toNat_lt
        rw [← hb] at m1 hbt
        have HB := Lib.hid hbt
        clear hb hbt
        by_cases c1 : 48 ≤ b ∧ b ≤ 57
        · have d1 : decide (48 ≤ (b : Int)) = true := decide_eq_true (by omega)
          have d2 : decide ((b : Int) ≤ 57) = true := decide_eq_true (by omega)
          have c1a := c1.1
          have c1b := c1.2
          have hv : hexv b = some (b - 48) := by unfold hexv; rw [if_pos c1]
          clear c1
          have hst := Lib.hid (hexs_step hs.out HB.out hv)
          have hd16 := hexv_lt hv
          clear hv
          go_upto_region 9 with (go_at_call 81; refine m1.mono ?_; rintro e w2 ⟨rfl, hB2, hg2⟩)
          clear m1
          go_wp2
          go_roundw
          case rel => exact ⟨k + 1, s * 16 + (b - 48), by omega, by omega, by go_num, or_nib hs16 hd16 (by omega), hst, by omega, hB2, grownBy_trans hgr hg2⟩
          case measure => simp [intOf]; omega
        have n1 : (decide (48 ≤ (b : Int)) && decide ((b : Int) ≤ 57)) = false := by rw [← Bool.decide_and]; exact decide_eq_false (by omega)
        by_cases c2 : 97 ≤ b ∧ b ≤ 102
        · have d1 : decide (48 ≤ (b : Int)) = true := decide_eq_true (by omega)
          have d2 : decide ((b : Int) ≤ 57) = false := decide_eq_false (by omega)
          have d3 : decide (97 ≤ (b : Int)) = true := decide_eq_true (by omega)
          have d4 : decide ((b : Int) ≤ 102) = true := decide_eq_true (by omega)
          have c1a := c2.1
          have c1b := c2.2
          have hv : hexv b = some (b - 87) := by unfold hexv; rw [if_neg c1, if_pos c2]
          clear c1 c2 n1
          have hst := Lib.hid (hexs_step hs.out HB.out hv)
          have hd16 := hexv_lt hv
          clear hv
          go_upto_region 9 with (go_at_call 81; refine m1.mono ?_; rintro e w2 ⟨rfl, hB2, hg2⟩)
          clear m1
          go_wp2
          go_roundw
          case rel => exact ⟨k + 1, s * 16 + (b - 87), by omega, by omega, by go_num, or_nib hs16 hd16 (by omega), hst, by omega, hB2, grownBy_trans hgr hg2⟩
          case measure => simp [intOf]; omega
        by_cases c3 : 65 ≤ b ∧ b ≤ 70
        · have d1 : decide (48 ≤ (b : Int)) = true := decide_eq_true (by omega)
          have d2 : decide ((b : Int) ≤ 57) = false := decide_eq_false (by omega)
          have d3 : decide (97 ≤ (b : Int)) = false := decide_eq_false (by omega)
          have d5 : decide (65 ≤ (b : Int)) = true := decide_eq_true (by omega)
          have d6 : decide ((b : Int) ≤ 70) = true := decide_eq_true (by omega)
          have c1a := c3.1
          have c1b := c3.2
          have hv : hexv b = some (b - 55) := by unfold hexv; rw [if_neg c1, if_neg c2, if_pos c3]
          clear c1 c2 c3 n1
          have hst := Lib.hid (hexs_step hs.out HB.out hv)
          have hd16 := hexv_lt hv
          clear hv
          go_upto_region 9 with (go_at_call 81; refine m1.mono ?_; rintro e w2 ⟨rfl, hB2, hg2⟩)
          clear m1
          go_wp2
          go_roundw
          case rel => exact ⟨k + 1, s * 16 + (b - 55), by omega, by omega, by go_num, or_nib hs16 hd16 (by omega), hst, by omega, hB2, grownBy_trans hgr hg2⟩
          case measure => simp [intOf]; omega
        have hv : hexv b = none := by unfold hexv; rw [if_neg c1, if_neg c2, if_neg c3]
        have hP := hexP_bad hlt hs.out HB.out hv
        have hrr : r = (0, i + k, 4) := by rw [HR.out, hP]
        clear hP hv HR
        subst hrr
        have hcase : b < 48 ∨ (58 ≤ b ∧ b < 65) ∨ (71 ≤ b ∧ b < 97) ∨ 103 ≤ b := by omega
        clear n1 c1 c2 c3
        go_upto_region 9 with (go_at_call 81; refine m1.mono ?_; rintro e w2 ⟨rfl, hB2, hg2⟩)
        have c4 : w2.cell? ⟨g, 4, none⟩ = some (.int .i64 ((i : Int) + (k : Int) + 1)) := hB2.cell 4
        have m2 : Calls Tryd.prog 71 #[.pointer (some ⟨g, 0, none⟩), .int .i64 ((i : Int) + (k : Int))] w2 fun x w' => x = .returned (.tuple #[]) ∧ Blk w' g 84 (rdr t L en mb (i + k) 4) ∧ w2.grownBy w' (some g) := @fail_any t L en mb (i + k + 1) 0 g (i + k) w2 hB2
        clear m1
        rcases hcase with hc | ⟨hc1, hc2⟩ | ⟨hc1, hc2⟩ | hc
        · have d1 : decide (48 ≤ (b : Int)) = false := decide_eq_false (by omega)
          have d3 : decide (97 ≤ (b : Int)) = false := decide_eq_false (by omega)
          have d5 : decide (65 ≤ (b : Int)) = false := decide_eq_false (by omega)
          clear hc
          go_wp2_with (go_at_call 71; refine m2.mono ?_; rintro e w3 ⟨rfl, hB3, hg3⟩)
          go_ret2
          exact ⟨rfl, hB3, grownBy_trans (grownBy_trans hgr hg2) hg3⟩
        · have d1 : decide (48 ≤ (b : Int)) = true := decide_eq_true (by omega)
          have d2 : decide ((b : Int) ≤ 57) = false := decide_eq_false (by omega)
          have d3 : decide (97 ≤ (b : Int)) = false := decide_eq_false (by omega)
          have d5 : decide (65 ≤ (b : Int)) = false := decide_eq_false (by omega)
          clear hc1 hc2
          go_wp2_with (go_at_call 71; refine m2.mono ?_; rintro e w3 ⟨rfl, hB3, hg3⟩)
          go_ret2
          exact ⟨rfl, hB3, grownBy_trans (grownBy_trans hgr hg2) hg3⟩
        · have d1 : decide (48 ≤ (b : Int)) = true := decide_eq_true (by omega)
          have d2 : decide ((b : Int) ≤ 57) = false := decide_eq_false (by omega)
          have d3 : decide (97 ≤ (b : Int)) = false := decide_eq_false (by omega)
          have d5 : decide (65 ≤ (b : Int)) = true := decide_eq_true (by omega)
          have d6 : decide ((b : Int) ≤ 70) = false := decide_eq_false (by omega)
          clear hc1 hc2
          go_wp2_with (go_at_call 71; refine m2.mono ?_; rintro e w3 ⟨rfl, hB3, hg3⟩)
          go_ret2
          exact ⟨rfl, hB3, grownBy_trans (grownBy_trans hgr hg2) hg3⟩
        · have d1 : decide (48 ≤ (b : Int)) = true := decide_eq_true (by omega)
          have d2 : decide ((b : Int) ≤ 57) = false := decide_eq_false (by omega)
          have d3 : decide (97 ≤ (b : Int)) = true := decide_eq_true (by omega)
          have d4 : decide ((b : Int) ≤ 102) = false := decide_eq_false (by omega)
          have d5 : decide (65 ≤ (b : Int)) = true := decide_eq_true (by omega)
          have d6 : decide ((b : Int) ≤ 70) = false := decide_eq_false (by omega)
          clear hc
          go_wp2_with (go_at_call 71; refine m2.mono ?_; rintro e w3 ⟨rfl, hB3, hg3⟩)
          go_ret2
          exact ⟨rfl, hB3, grownBy_trans (grownBy_trans hgr hg2) hg3⟩
      · have hP := hexP_short hlt hs.out (byteAt_ge (by omega))
        have hrr : r = (0, t.size, 8) := by rw [HR.out, hP]
        clear hP HR
        subst hrr
        have m1 := next_no ht hBr (by omega)
        go_wp2_with (go_at_call 81; refine m1.mono ?_; rintro e w2 ⟨rfl, hB2, hg2⟩)
        go_ret2
        exact ⟨rfl, hB2, grownBy_trans hgr hg2⟩
    · obtain rfl : k = 2 := by omega
      have hP := hexP_good hs.out
      have hrr : r = (s, i + 2, 0) := by rw [HR.out, hP]
      clear hP HR
      subst hrr
      go_wp2
      go_ret2
      exact ⟨rfl, hBr, hgr⟩
end Go.Proofs.YtakcckdnliiieaaDoor
