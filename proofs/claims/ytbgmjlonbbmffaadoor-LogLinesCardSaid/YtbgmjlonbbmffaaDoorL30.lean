/- The document's text of a number. -/
import Derived.Test.YtbgmjlonbbmffaaDoorL29
import Derived.Test.YtbgmjlonbbmffaaDoorL15
namespace Go.Proofs.YtbgmjlonbbmffaaDoor
open Go Go.RowKit
attribute [local go_sem] Oper.quietAt Oper.quietUpon
theorem ret_str {A : ByteArray} {l : List UInt8} (h : A = ⟨l.toArray⟩) : Ending.returned (.string A) = .returned (strV l) := by rw [h]; rfl
theorem dec_step {u : Nat} (h : 9 < u) : Lib.decDigits u = Lib.decDigits (u / 10) ++ [UInt8.ofNat (48 + u % 10)] := by rw [Lib.decDigits, dif_neg (by omega)]
theorem conv_dig {m : Int} {n : Nat} (hm : m = (n : Int)) (hn : n < 10) (w : World) : ∃ D : ByteArray, D.size ≤ 1 ∧ Hid (D = ⟨[UInt8.ofNat (48 + n)].toArray⟩) ∧ (convert 61 9 (.slice (some ⟨w.heap.size, 0, none⟩) 1 1)).run Tryd.prog (w.alloc (.cells #[.int .u8 (48 + m)] 5)) = .ok (.string D) (w.alloc (.cells #[.int .u8 (48 + m)] 5)) := by
  subst hm
  refine ⟨_, ?_, Lib.hid rfl, ?_⟩
  · exact Nat.le_refl _
  have hc : (w.alloc (.cells #[.int .u8 (48 + (n : Int))] 5)).cell? ⟨w.heap.size, 0, none⟩ = some (.int .u8 (48 + (n : Int))) := (Blk.new w 5 #[.int .u8 (48 + (n : Int))]).cell 0
  have := run_convert_bytes_arg (w.alloc (.cells #[.int .u8 (48 + (n : Int))] 5)) 61 5 Tryd.underlying61 Tryd.underlying5 w.heap.size 0 1 1 [48 + (n : Int)] rfl (fun i hi => by
    obtain rfl : i = 0 := by omega
    exact hc) 9 Tryd.underlying9
  exact this
set_option maxRecDepth 100000 in
set_option maxHeartbeats 1500000 in
theorem refNum_any {n : Nat} (h1 : n ≤ 2147483647) {w : World} : Calls Tryd.prog 43 #[.int .i64 (n : Int)] w (Ret (strV (Lib.itoa n)) w) := by
  have d0 : decide ((n : Int) < 0) = false := decide_eq_false (by omega)
  have hi : Lib.itoa n = Lib.decDigits n := by unfold Lib.itoa; rw [if_neg (by omega)]; rfl
  rw [hi]
  clear hi
  go_enter Tryd.func43, Tryd.ntmps43
  go_wp2
  go_loopw [3, 5] (fun j s wr => ∃ (u : Nat) (l : List UInt8) (S : ByteArray), j = .int .u64 (u : Int) ∧ s = .string S ∧ u ≤ n ∧ Lies w wr ∧ Hid (S = ⟨l.toArray⟩) ∧ Hid (Lib.decDigits n = Lib.decDigits u ++ l) ∧ Hid (S.size ≤ n - u)) (fun j _ _ => (intOf j).toNat)
  case atStart => exact ⟨n, [], _, rfl, rfl, Nat.le_refl _, Lies.start w, Lib.hid rfl, Lib.hid (by simp), Lib.hid (Nat.zero_le _)⟩
  case round =>
    obtain ⟨u, l, S, rfl, rfl, hu, hl, hS, hd, hz⟩ := hrel
    by_cases hlt : 9 < u
    case neg =>
      have d1 : decide (9 < (u : Int)) = false := decide_eq_false (by omega)
      obtain ⟨D, hD, hD2, hcv⟩ := conv_dig (m := (u : Int)) rfl (by omega) wr
      have hz' := hz.out
      have z1 : ¬ (9223372036854775807 < D.size + S.size) := by omega
      have z2 : ¬ (9223372036854775807 < D.size) := by omega
      have e0 : (ByteArray.mk #[] ++ D) = D := ByteArray.empty_append
      have hf : S = ⟨l.toArray⟩ := hS.out
      have HE : Hid (D ++ S = ⟨(Lib.decDigits n).toArray⟩) := Lib.hid (by rw [hS.out, hD2.out, str_add, hd.out, Lib.decDigits_one (by omega)])
      clear hz' hf
      go_wp2
      go_ret
      exact ⟨ret_str HE.out, hl.alloc (by have := hl.size; omega) _⟩
    have d1 : decide (9 < (u : Int)) = true := decide_eq_true (by omega)
    obtain ⟨D, hD, hD2, hcv⟩ := conv_dig (m := (u : Int) % 10) (n := u % 10) (by omega) (by omega) wr
    have hz' := hz.out
    have z1 : ¬ (9223372036854775807 < D.size + S.size) := by omega
    have HS : Hid ((D ++ S).size ≤ n - u / 10) := Lib.hid (by rw [ByteArray.size_append]; omega)
    clear hz'
    go_wp2
    go_roundw
    case rel => exact ⟨u / 10, _, _, by go_num, rfl, by omega, hl.alloc (by have := hl.size; omega) _, Lib.hid (by rw [hS.out, hD2.out, str_add]), Lib.hid (by rw [hd.out, dec_step hlt, List.append_assoc]), HS⟩
    case measure => simp [intOf]; omega
end Go.Proofs.YtbgmjlonbbmffaaDoor
