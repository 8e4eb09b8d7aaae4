/- The document's number. -/
import Derived.Test.YtbgmjlonbbmffaaDoorP3
namespace Go.Proofs.YtbgmjlonbbmffaaDoor
open Go Go.RowKit
attribute [local go_sem] Oper.quietAt Oper.quietUpon
def dgB (b : UInt8) : Bool := decide (48 ≤ b.toNat) && decide (b.toNat ≤ 57)
set_option maxRecDepth 100000 in
set_option maxHeartbeats 1000000 in
theorem digit_any (b : UInt8) (w : World) : Calls Tryd.prog 53 #[.int .u8 (b.toNat : Int)] w fun e w' => e = .returned (.bool (dgB b)) ∧ w = w' := by
  by_cases h : 48 ≤ b.toNat
  · have d1 : decide (48 ≤ (b.toNat : Int)) = true := decide_eq_true (by omega)
    have hf : dgB b = decide ((b.toNat : Int) ≤ 57) := by unfold dgB; rw [decide_eq_true h, Bool.true_and]; exact decide_eq_decide.2 (by omega)
    rw [hf]
    clear hf h
    go_enter Tryd.func53, Tryd.ntmps53
    go_wp2
    go_ret
    exact ⟨rfl, rfl⟩
  · have d1 : decide (48 ≤ (b.toNat : Int)) = false := decide_eq_false (by omega)
    have hf : dgB b = false := by unfold dgB; rw [decide_eq_false h, Bool.false_and]
    rw [hf]
    clear hf h
    go_enter Tryd.func53, Tryd.ntmps53
    go_wp2
    go_ret
    exact ⟨rfl, rfl⟩
theorem digit_eq {b : UInt8} {r : Bool} (h : dgB b = r) (w : World) : Calls Tryd.prog 53 #[.int .u8 (b.toNat : Int)] w fun e w' => e = .returned (.bool r) ∧ w = w' := by rw [← h]; exact digit_any b w
theorem digG_none : ∀ (l : List UInt8) (n : Nat), (∃ b ∈ l, dgB b = false) → digG l n = none
  | [], n, h => by obtain ⟨b, hb, _⟩ := h; simp at hb
  | c :: l, n, h => by
    unfold digG
    split
    · rfl
    · rename_i hc
      obtain ⟨b, hb, hd⟩ := h
      rcases List.mem_cons.1 hb with rfl | hb
      · unfold dgB at hd
        have h1 : 48 ≤ b.toNat := by omega
        have h2 : b.toNat ≤ 57 := by omega
        simp [h1, h2] at hd
      · exact digG_none l _ ⟨b, hb, hd⟩
theorem digG_ge : ∀ (l : List UInt8) (n m : Nat), digG l n = some m → n ≤ m
  | [], n, m, h => by unfold digG at h; injection h with h; omega
  | c :: l, n, m, h => by
    unfold digG at h
    split at h
    · cases h
    · have := digG_ge l _ m h; omega
theorem decR_small {l : List UInt8} {n : Nat} (h : digG l 0 = some n) (hne : l ≠ []) (h0 : ¬ (l.head? = some 48 ∧ 1 < l.length)) (hn : n ≤ 2147483647) : decR l = (n, true) := by
  have hl : 0 < l.length := List.length_pos_iff.2 hne
  have := (dec_canon (l.length - 1) l (by omega) (fun e => by have : ¬ 1 < l.length := fun h1 => h0 ⟨e, h1⟩; omega) n h).1
  rw [this]
  exact decR_dec n hn
theorem decR_big {l : List UInt8} {k n : Nat} (h : digG l 0 = digG (l.drop k) n) (hn : 2147483647 < n) : (decR l).2 = false := by
  unfold decR
  split
  · rfl
  · rw [h]
    cases hd : digG (l.drop k) n with
    | none => rfl
    | some m =>
      have := digG_ge _ _ _ hd
      exact decide_eq_false (by omega)
theorem decR_none {l : List UInt8} (h : digG l 0 = none) : (decR l).2 = false := by
  unfold decR
  split
  · rfl
  · rw [h]
/-- What the document's number answers. -/
def NumRes (l : List UInt8) (w : World) (x : Ending) (w' : World) : Prop :=
  ∃ k e : Nat, x = .returned (.tuple #[.int .i64 (k : Int), .int .i64 (e : Int)]) ∧ ((decR l).2 = true → k = (decR l).1 ∧ e = 0) ∧ ((decR l).2 = false → e = 4 ∨ e = 40) ∧ w = w'
set_option maxRecDepth 100000 in
set_option maxHeartbeats 1500000 in
theorem refDec_any (s : ByteArray) (w : World) (hs : s.size ≤ 1000000000) :
    Calls Tryd.prog 41 #[.string s, .int .i64 2147483647] w (NumRes s.data.toList w) := by
  have hln : s.data.toList.length = s.size := Array.length_toList
  by_cases h0 : s.size = 0
  · have e0 : s.data.toList = [] := List.eq_nil_of_length_eq_zero (by rw [hln]; exact h0)
    have e1 : (s.toList == []) = true := by rw [Lib.toList_data, e0]; rfl
    have hr : (decR s.data.toList).2 = false := by rw [e0]; rfl
    have HR := Lib.hid hr
    clear hln h0 e0 hr
    go_enter Tryd.func41, Tryd.ntmps41
    go_wp2
    go_ret2
    exact ⟨0, 4, rfl, by rw [HR.out]; simp, fun _ => .inl rfl, rfl⟩
  have hne : s.data.toList ≠ [] := fun e => by rw [e] at hln; simp at hln; omega
  have e1 : (s.toList == []) = false := by rw [Lib.toList_data]; simpa using hne
  have hpos : 0 < s.size := by omega
  have hd0 := drop_byte s 0 hpos
  rw [List.drop_zero] at hd0
  by_cases h2 : s[0].toNat = 48 ∧ 1 < s.size
  · have hr : (decR s.data.toList).2 = false := by
      unfold decR
      rw [if_pos (.inr (.inr ⟨by rw [hd0]; simp only [List.head?_cons, Option.some.injEq]; exact UInt8.toNat_inj.1 h2.1, by rw [hln]; exact h2.2⟩))]
    have HR := Lib.hid hr
    have d2 : ((s[0].toNat : Int) == 48) = true := by simp; omega
    have d3 : decide (1 < (s.size : Int)) = true := decide_eq_true (by omega)
    clear hr hln h0 hne hd0 h2
    go_enter Tryd.func41, Tryd.ntmps41
    go_wp2
    go_ret2
    exact ⟨0, 4, rfl, by rw [HR.out]; simp, fun _ => .inl rfl, rfl⟩
  have HH : Hid (¬ (s.data.toList.head? = some 48 ∧ 1 < s.data.toList.length)) := Lib.hid (by
    rintro ⟨h, h'⟩
    rw [hd0] at h
    simp only [List.head?_cons, Option.some.injEq] at h
    exact h2 ⟨by rw [h]; rfl, by omega⟩)
  have HNE := Lib.hid hne
  clear hne hd0
  have hcase : ((s[0].toNat : Int) == 48) = false ∨ (((s[0].toNat : Int) == 48) = true ∧ decide (1 < (s.size : Int)) = false) := by
    by_cases h3 : s[0].toNat = 48
    · exact .inr ⟨by simp; omega, decide_eq_false (by have : ¬ 1 < s.size := fun h => h2 ⟨h3, h⟩; omega)⟩
    · exact .inl (by simp; omega)
  clear h2
  go_enter Tryd.func41, Tryd.ntmps41
  rcases hcase with d2 | ⟨d2, d3⟩
  all_goals
    go_upto_region 3 with (fail)
    go_wp2_with fail
    go_loopw [6] (fun j wr => ∃ k : Nat, j = .int .i64 (k : Int) ∧ k ≤ s.size ∧ wr = w ∧ Hid (∀ b ∈ s.data.toList.take k, dgB b = true)) (fun j _ => s.size - (intOf j).toNat)
    case atStart => exact ⟨0, rfl, Nat.zero_le _, rfl, Lib.hid (by simp)⟩
    case round =>
      obtain ⟨k, rfl, hk, rfl, hal⟩ := hrel
      by_cases hlt : k < s.size
      case pos =>
        have d4 : decide (k < s.size) = true := decide_eq_true hlt
        have hdr := drop_byte s k hlt
        cases hb : dgB s[k]
        · have kd := digit_eq hb
          have hr : (decR s.data.toList).2 = false := decR_none (digG_none _ 0 ⟨s[k], List.mem_of_mem_drop (i := k) (by rw [hdr]; simp), hb⟩)
          have HR := Lib.hid hr
          clear hdr hb hr
          go_wp2_with (go_at_call 53; refine (kd _).mono ?_; rintro e w' ⟨rfl, rfl⟩)
          go_ret2
          exact ⟨0, 4, rfl, by rw [HR.out]; simp, fun _ => .inl rfl, rfl⟩
        · have kd := digit_eq hb
          have HN : Hid (∀ b ∈ s.data.toList.take (k + 1), dgB b = true) := Lib.hid (by
            have hkl : k < s.data.toList.length := by omega
            rw [List.take_succ_eq_append_getElem hkl]
            intro b hb'
            rcases List.mem_append.1 hb' with h | h
            · exact hal.out b h
            · rw [List.mem_singleton] at h; subst h; exact hb)
          clear hdr hb
          go_wp2_with (go_at_call 53; refine (kd _).mono ?_; rintro e w' ⟨rfl, rfl⟩)
          go_roundw
          case rel => exact ⟨k + 1, by go_num, by omega, by trivial, HN⟩
          case measure => simp [intOf]; omega
      obtain rfl : k = s.size := by omega
      have d4 : decide (s.size < s.size) = false := decide_eq_false hlt
      have hall := hal.out
      rw [List.take_of_length_le (by omega)] at hall
      have HALL := Lib.hid hall
      clear hall hal
      go_wp2_with fail
      go_loopw [7, 8] (fun a j wq => ∃ k n : Nat, j = .int .i64 (k : Int) ∧ a = .int .i64 (n : Int) ∧ k ≤ s.size ∧ n ≤ 2147483647 ∧ wq = wr ∧ Hid (digG s.data.toList 0 = digG (s.data.toList.drop k) n)) (fun _ j _ => s.size - (intOf j).toNat)
      case atStart => exact ⟨0, 0, rfl, rfl, Nat.zero_le _, by omega, rfl, Lib.hid (by simp)⟩
      case round =>
        obtain ⟨k, n, rfl, rfl, hk, hn, rfl, hg⟩ := hrel
        by_cases hlt : k < s.size
        case neg =>
          obtain rfl : k = s.size := by omega
          have d4 : decide (s.size < s.size) = false := decide_eq_false hlt
          have hr : decR s.data.toList = (n, true) := decR_small (by rw [hg.out, List.drop_of_length_le (by omega)]; rfl) HNE.out HH.out hn
          have HR := Lib.hid hr
          clear hr
          go_wp2
          go_ret2
          exact ⟨n, 0, rfl, by rw [HR.out]; simp, by rw [HR.out]; simp, rfl⟩
        have d4 : decide (k < s.size) = true := decide_eq_true hlt
        have hdr := drop_byte s k hlt
        have hb := s[k].toNat_lt
        have hdg := HALL.out s[k] (List.mem_of_mem_drop (i := k) (by rw [hdr]; simp))
        unfold dgB at hdg
        simp only [Bool.and_eq_true, decide_eq_true_eq] at hdg
        have hg2 : Hid (digG s.data.toList 0 = digG (s.data.toList.drop (k + 1)) (10 * n + (s[k].toNat - 48))) := Lib.hid (by rw [hg.out, hdr, digG, if_neg (by omega)])
        clear hdr
        have htd : (2147483647 - ((s[k].toNat : Int) - 48)).tdiv 10 = (2147483647 - ((s[k].toNat : Int) - 48)) / 10 := Int.tdiv_eq_ediv_of_nonneg (by omega)
        have dm : decide ((2147483647 : Int) < (s[k].toNat : Int) - 48) = false := decide_eq_false (by omega)
        by_cases hbig : 2147483647 < 10 * n + (s[k].toNat - 48)
        · have HR := Lib.hid (decR_big hg2.out hbig)
          have d5 : decide ((2147483647 - ((s[k].toNat : Int) - 48)).tdiv 10 < (n : Int)) = true := decide_eq_true (by rw [htd]; omega)
          have d6 : decide ((2147483647 - ((s[k].toNat : Int) - 48)) / 10 < (n : Int)) = true := decide_eq_true (by omega)
          clear htd hbig
          go_wp2
          go_ret2
          exact ⟨0, 40, rfl, by rw [HR.out]; simp, fun _ => .inr rfl, rfl⟩
        have d5 : decide ((2147483647 - ((s[k].toNat : Int) - 48)).tdiv 10 < (n : Int)) = false := decide_eq_false (by rw [htd]; omega)
        have d6 : decide ((2147483647 - ((s[k].toNat : Int) - 48)) / 10 < (n : Int)) = false := decide_eq_false (by omega)
        clear htd
        go_wp2
        go_roundw
        case rel => exact ⟨k + 1, 10 * n + (s[k].toNat - 48), by go_num, congrArg (Value.int .i64) (by omega), by omega, by omega, (by first | rfl | trivial), hg2⟩
        case measure => simp [intOf]; omega
end Go.Proofs.YtbgmjlonbbmffaaDoor
