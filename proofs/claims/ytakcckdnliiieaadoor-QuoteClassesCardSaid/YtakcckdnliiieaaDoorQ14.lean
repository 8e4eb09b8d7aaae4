/- The reference's hex and sign. -/
import Derived.Test.YtakcckdnliiieaaDoorQ13
namespace Go.Proofs.YtakcckdnliiieaaDoor
open Go Go.RowKit
set_option maxHeartbeats 1000000 in
theorem refHex_yes {b d : Nat} (w : World) (hb : b < 256) (h : hexv b = some d) : Calls Tryd.prog 85 #[.int .u8 (b : Int)] w fun x w' => x = .returned (.int .i64 (d : Int)) ∧ w = w' := by
  unfold hexv at h
  by_cases c1 : 48 ≤ b ∧ b ≤ 57
  · rw [if_pos c1] at h
    have hd : (b : Int) - 48 = (d : Int) := by injection h; omega
    have d1 : decide (48 ≤ (b : Int)) = true := decide_eq_true (by omega)
    have d2 : decide ((b : Int) ≤ 57) = true := decide_eq_true (by omega)
    have H := Lib.hid hd
    obtain ⟨c1a, c1b⟩ := c1
    clear h hd
    go_enter Tryd.func85, Tryd.ntmps85
    go_wp2
    go_ret
    exact ⟨by rw [← H.out]; rfl, rfl⟩
  rw [if_neg c1] at h
  by_cases c2 : 97 ≤ b ∧ b ≤ 102
  · rw [if_pos c2] at h
    have hd : (b : Int) - 97 + 10 = (d : Int) := by injection h; omega
    have d1 : decide (48 ≤ (b : Int)) = true := decide_eq_true (by omega)
    have d2 : decide ((b : Int) ≤ 57) = false := decide_eq_false (by omega)
    have d3 : decide (97 ≤ (b : Int)) = true := decide_eq_true (by omega)
    have d4 : decide ((b : Int) ≤ 102) = true := decide_eq_true (by omega)
    have H := Lib.hid hd
    obtain ⟨c1a, c1b⟩ := c2
    clear h hd c1
    go_enter Tryd.func85, Tryd.ntmps85
    go_wp2
    go_ret
    exact ⟨by rw [← H.out]; rfl, rfl⟩
  rw [if_neg c2] at h
  by_cases c3 : 65 ≤ b ∧ b ≤ 70
  · rw [if_pos c3] at h
    have hd : (b : Int) - 65 + 10 = (d : Int) := by injection h; omega
    have d1 : decide (48 ≤ (b : Int)) = true := decide_eq_true (by omega)
    have d2 : decide ((b : Int) ≤ 57) = false := decide_eq_false (by omega)
    have d3 : decide (97 ≤ (b : Int)) = false := decide_eq_false (by omega)
    have d5 : decide (65 ≤ (b : Int)) = true := decide_eq_true (by omega)
    have d6 : decide ((b : Int) ≤ 70) = true := decide_eq_true (by omega)
    have H := Lib.hid hd
    obtain ⟨c1a, c1b⟩ := c3
    clear h hd c1 c2
    go_enter Tryd.func85, Tryd.ntmps85
    go_wp2
    go_ret
    exact ⟨by rw [← H.out]; rfl, rfl⟩
  rw [if_neg c3] at h
  cases h
set_option maxHeartbeats 1000000 in
theorem refHex_no {b : Nat} (w : World) (hb : b < 256) (h : hexv b = none) : Calls Tryd.prog 85 #[.int .u8 (b : Int)] w fun x w' => x = .returned (.int .i64 (-1)) ∧ w = w' := by
  have hcase : b < 48 ∨ (58 ≤ b ∧ b < 65) ∨ (71 ≤ b ∧ b < 97) ∨ 103 ≤ b := by
    unfold hexv at h
    by_cases c1 : 48 ≤ b ∧ b ≤ 57
    · rw [if_pos c1] at h; cases h
    · rw [if_neg c1] at h
      by_cases c2 : 97 ≤ b ∧ b ≤ 102
      · rw [if_pos c2] at h; cases h
      · rw [if_neg c2] at h
        by_cases c3 : 65 ≤ b ∧ b ≤ 70
        · rw [if_pos c3] at h; cases h
        · omega
  clear h
  rcases hcase with hc | ⟨hc1, hc2⟩ | ⟨hc1, hc2⟩ | hc
  · have d0 : decide (48 ≤ (b : Int)) = false := decide_eq_false (by omega)
    have d1 : decide (97 ≤ (b : Int)) = false := decide_eq_false (by omega)
    have d2 : decide (65 ≤ (b : Int)) = false := decide_eq_false (by omega)
    clear hc
    go_enter Tryd.func85, Tryd.ntmps85
    go_wp2
    go_ret
    exact ⟨rfl, rfl⟩
  · have d0 : decide (48 ≤ (b : Int)) = true := decide_eq_true (by omega)
    have d1 : decide ((b : Int) ≤ 57) = false := decide_eq_false (by omega)
    have d2 : decide (97 ≤ (b : Int)) = false := decide_eq_false (by omega)
    have d3 : decide (65 ≤ (b : Int)) = false := decide_eq_false (by omega)
    clear hc1 hc2
    go_enter Tryd.func85, Tryd.ntmps85
    go_wp2
    go_ret
    exact ⟨rfl, rfl⟩
  · have d0 : decide (48 ≤ (b : Int)) = true := decide_eq_true (by omega)
    have d1 : decide ((b : Int) ≤ 57) = false := decide_eq_false (by omega)
    have d2 : decide (97 ≤ (b : Int)) = false := decide_eq_false (by omega)
    have d3 : decide (65 ≤ (b : Int)) = true := decide_eq_true (by omega)
    have d4 : decide ((b : Int) ≤ 70) = false := decide_eq_false (by omega)
    clear hc1 hc2
    go_enter Tryd.func85, Tryd.ntmps85
    go_wp2
    go_ret
    exact ⟨rfl, rfl⟩
  · have d0 : decide (48 ≤ (b : Int)) = true := decide_eq_true (by omega)
    have d1 : decide ((b : Int) ≤ 57) = false := decide_eq_false (by omega)
    have d2 : decide (97 ≤ (b : Int)) = true := decide_eq_true (by omega)
    have d3 : decide ((b : Int) ≤ 102) = false := decide_eq_false (by omega)
    have d4 : decide (65 ≤ (b : Int)) = true := decide_eq_true (by omega)
    have d5 : decide ((b : Int) ≤ 70) = false := decide_eq_false (by omega)
    clear hc
    go_enter Tryd.func85, Tryd.ntmps85
    go_wp2
    go_ret
    exact ⟨rfl, rfl⟩
end Go.Proofs.YtakcckdnliiieaaDoor
