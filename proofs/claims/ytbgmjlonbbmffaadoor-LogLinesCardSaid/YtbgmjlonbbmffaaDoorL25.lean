/- log.decimal. -/
import Derived.Test.YtbgmjlonbbmffaaDoorL15
namespace Go.Proofs.YtbgmjlonbbmffaaDoor
open Go Go.RowKit
attribute [local go_sem] Oper.quietAt Oper.quietUpon
/-- Digits, gathered: none where a byte is no digit. -/
def digG : List UInt8 → Nat → Option Nat
  | [], n => some n
  | b :: l, n => if b.toNat < 48 ∨ 57 < b.toNat then none else digG l (10 * n + (b.toNat - 48))
/-- A number of a line: the number, and whether it is one. -/
def decR (l : List UInt8) : Nat × Bool :=
  if l = [] ∨ 10 < l.length ∨ (l.head? = some 48 ∧ 1 < l.length) then (0, false) else match digG l 0 with
  | none => (0, false)
  | some n => (n, decide (n ≤ 2147483647))
theorem drop_byte (s : ByteArray) (k : Nat) (hk : k < s.size) : s.data.toList.drop k = s[k] :: s.data.toList.drop (k + 1) := by
  have h : k < s.data.toList.length := by rw [Array.length_toList]; exact hk
  rw [List.drop_eq_getElem_cons h]
  rfl
theorem pow_step {n k d : Nat} (h : n < 10 ^ k) (hd : d < 10) : 10 * n + d < 10 ^ (k + 1) := by rw [Nat.pow_succ]; omega
set_option maxRecDepth 100000 in
set_option maxHeartbeats 1500000 in
theorem decimal_any (s : ByteArray) (w : World) (hs : s.size ≤ 1000000000) :
    Calls Tryd.prog 37 #[.string s] w fun e w' => e = .returned (.tuple #[.int .i64 ((decR s.data.toList).1 : Int), .bool (decR s.data.toList).2]) ∧ w = w' := by
  obtain ⟨r, hr⟩ : ∃ r, r = decR s.data.toList := ⟨_, rfl⟩
  rw [← hr]
  have hln : s.data.toList.length = s.size := Array.length_toList
  by_cases h0 : s.size = 0
  · have e0 : s.data.toList = [] := List.eq_nil_of_length_eq_zero (by rw [hln]; exact h0)
    obtain rfl : r = (0, false) := by rw [hr, e0]; rfl
    have e1 : (s.toList == []) = true := by rw [Lib.toList_data, e0]; rfl
    clear hr hln h0 e0
    go_enter Tryd.func37, Tryd.ntmps37
    go_wp2
    go_ret2
    exact ⟨rfl, rfl⟩
  have hne : s.data.toList ≠ [] := fun e => by rw [e] at hln; simp at hln; omega
  have e1 : (s.toList == []) = false := by rw [Lib.toList_data]; simpa using hne
  by_cases h1 : 10 < s.size
  · obtain rfl : r = (0, false) := by rw [hr]; unfold decR; rw [if_pos (.inr (.inl (by rw [hln]; exact h1)))]
    have d1 : decide (10 < (s.size : Int)) = true := decide_eq_true (by omega)
    clear hr hln h0 hne
    go_enter Tryd.func37, Tryd.ntmps37
    go_wp2
    go_ret2
    exact ⟨rfl, rfl⟩
  have d1 : decide (10 < (s.size : Int)) = false := decide_eq_false (by omega)
  have hpos : 0 < s.size := by omega
  have hd0 := drop_byte s 0 hpos
  rw [List.drop_zero] at hd0
  by_cases h2 : s[0].toNat = 48 ∧ 1 < s.size
  · obtain rfl : r = (0, false) := by
      rw [hr]; unfold decR
      rw [if_pos (.inr (.inr ⟨by rw [hd0]; simp only [List.head?_cons, Option.some.injEq]; exact UInt8.toNat_inj.1 h2.1, by rw [hln]; exact h2.2⟩))]
    have d2 : ((s[0].toNat : Int) == 48) = true := by simp; omega
    have d3 : decide (1 < (s.size : Int)) = true := decide_eq_true (by omega)
    clear hr hln h0 hne hd0 h2
    go_enter Tryd.func37, Tryd.ntmps37
    go_wp2
    go_ret2
    exact ⟨rfl, rfl⟩
  have hr2 : r = match digG s.data.toList 0 with | none => (0, false) | some n => (n, decide (n ≤ 2147483647)) := by
    rw [hr]; unfold decR
    rw [if_neg]
    rintro (h | h | ⟨h, h'⟩)
    · exact hne h
    · omega
    · rw [hd0] at h
      simp only [List.head?_cons, Option.some.injEq] at h
      exact h2 ⟨by rw [h]; rfl, by omega⟩
  have HR := Lib.hid hr2
  clear hr hr2 hne hd0
  have hcase : ((s[0].toNat : Int) == 48) = false ∨ (((s[0].toNat : Int) == 48) = true ∧ decide (1 < (s.size : Int)) = false) := by
    by_cases h3 : s[0].toNat = 48
    · exact .inr ⟨by simp; omega, decide_eq_false (by have : ¬ 1 < s.size := fun h => h2 ⟨h3, h⟩; omega)⟩
    · exact .inl (by simp; omega)
  clear h2
  go_enter Tryd.func37, Tryd.ntmps37
  rcases hcase with d2 | ⟨d2, d3⟩
  all_goals
    go_upto_region 3 with (fail)
    go_wp2_with fail
    go_loopw [4, 25] (fun a j wr => ∃ k n : Nat, j = .int .i64 (k : Int) ∧ a = .int .i64 (n : Int) ∧ k ≤ s.size ∧ n < 10 ^ k ∧ wr = w ∧ Hid (digG s.data.toList 0 = digG (s.data.toList.drop k) n)) (fun _ j _ => s.size - (intOf j).toNat)
    case atStart => exact ⟨0, 0, rfl, rfl, Nat.zero_le _, by simp, rfl, Lib.hid (by simp)⟩
    case round =>
      obtain ⟨k, n, rfl, rfl, hk, hn, rfl, hg⟩ := hrel
      have hnb : n < 10000000000 := Nat.lt_of_lt_of_le hn (Nat.pow_le_pow_right (by omega) (by omega) : 10 ^ k ≤ 10 ^ 10)
      by_cases hlt : k < s.size
      case neg =>
        obtain rfl : k = s.size := by omega
        have d4 : decide (s.size < s.size) = false := decide_eq_false hlt
        obtain rfl : r = (n, decide (n ≤ 2147483647)) := by
          rw [HR.out, hg.out, List.drop_of_length_le (by rw [hln]; exact Nat.le_refl _)]; rfl
        clear hn
        go_wp2
        go_ret2
        exact ⟨by rw [show decide (n ≤ 2147483647) = decide ((n : Int) ≤ 2147483647) from decide_eq_decide.2 (by omega)]; rfl, rfl⟩
      have d4 : decide (k < s.size) = true := decide_eq_true hlt
      have hdr := drop_byte s k hlt
      have hb := s[k].toNat_lt
      by_cases hlo : s[k].toNat < 48
      · have d5 : decide ((s[k].toNat : Int) < 48) = true := decide_eq_true (by omega)
        obtain rfl : r = (0, false) := by rw [HR.out, hg.out, hdr, digG, if_pos (.inl hlo)]
        clear hdr hn
        go_wp2
        go_ret2
        exact ⟨rfl, rfl⟩
      have d5 : decide ((s[k].toNat : Int) < 48) = false := decide_eq_false (by omega)
      by_cases hhi : 57 < s[k].toNat
      · have d6 : decide (57 < (s[k].toNat : Int)) = true := decide_eq_true (by omega)
        obtain rfl : r = (0, false) := by rw [HR.out, hg.out, hdr, digG, if_pos (.inr hhi)]
        clear hdr hn
        go_wp2
        go_ret2
        exact ⟨rfl, rfl⟩
      have d6 : decide (57 < (s[k].toNat : Int)) = false := decide_eq_false (by omega)
      have hg2 : Hid (digG s.data.toList 0 = digG (s.data.toList.drop (k + 1)) (10 * n + (s[k].toNat - 48))) := Lib.hid (by rw [hg.out, hdr, digG, if_neg (by omega)])
      have hn2 := pow_step (d := s[k].toNat - 48) hn (by omega)
      have HN2 := Lib.hid hn2
      clear hdr hn hn2
      go_wp2
      go_roundw
      case rel => exact ⟨k + 1, 10 * n + (s[k].toNat - 48), by go_num, congrArg (Value.int .i64) (by omega), by omega, HN2.out, (by first | rfl | trivial), hg2⟩
      case measure => simp [intOf]; omega
end Go.Proofs.YtbgmjlonbbmffaaDoor
