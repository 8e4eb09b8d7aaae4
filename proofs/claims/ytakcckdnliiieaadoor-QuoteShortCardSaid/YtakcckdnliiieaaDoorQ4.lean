/- The reference's within, digit, Sign, Literal. -/
import Derived.Test.YtakcckdnliiieaaDoorQ3
namespace Go.Proofs.YtakcckdnliiieaaDoor
open Go Go.RowKit
attribute [local go_sem] Oper.quietAt Oper.quietUpon
theorem nat_eqb (a b : Nat) : ((a : Int) == (b : Int)) = (a == b) := by rw [Bool.eq_iff_iff]; simp only [beq_iff_eq]; omega
theorem inL_snoc (l : List UInt8) (x : UInt8) (n : Nat) (hn : n < 256) : inL (l ++ [x]) n = (inL l n || x.toNat == n) := by
  unfold inL
  rw [Bool.eq_iff_iff]
  simp only [List.contains_iff_mem, List.mem_append, List.mem_singleton, Bool.or_eq_true, beq_iff_eq]
  constructor
  · rintro (h | rfl)
    · exact .inl h
    · exact .inr (UInt8.toNat_ofNat_of_lt' (by simpa using hn))
  · rintro (h | rfl)
    · exact .inl h
    · exact .inr (by simp)
theorem inL_prefix {l m : List UInt8} {n : Nat} (h : inL l n = true) : inL (l ++ m) n = true := by
  unfold inL at *
  rw [List.contains_iff_mem] at *
  exact List.mem_append_left _ h
set_option maxRecDepth 100000 in
set_option maxHeartbeats 1000000 in
theorem within_any (n : Nat) (s : ByteArray) (w : World) (hn : n < 256) (hs : s.size ≤ 1000000000) :
    Calls Tryd.prog 84 #[.int .u8 (n : Int), .string s] w fun e w' => e = .returned (.bool (inL s.data.toList n)) ∧ w = w' := by
  obtain ⟨v, hv⟩ : ∃ v, v = inL s.data.toList n := ⟨_, rfl⟩
  have HV := Lib.hid hv
  rw [← hv]
  clear hv
  go_enter Tryd.func84, Tryd.ntmps84
  go_wp2_with fail
  go_loop [5] (fun i => ∃ k : Nat, k ≤ s.size ∧ i = .int .i64 (k : Int) ∧ Hid (inL (s.data.toList.take k) n = false)) (fun i => s.size - (intOf i).toNat)
  case atStart => exact ⟨0, by omega, rfl, Lib.hid (by simp [inL])⟩
  case round =>
    obtain ⟨k, hk, rfl, hin⟩ := hrel
    by_cases hlt : k < s.size
    · by_cases he : s[k].toNat = n
      · have he' : ((s[k].toNat : Int) == (n : Int)) = true := by rw [nat_eqb]; simp [he]
        have hT : v = true := by
          rw [HV.out]
          have h1 : inL (s.data.toList.take (k + 1)) n = true := by rw [take_snoc s k hlt, inL_snoc _ _ _ hn]; simp [he]
          have := @inL_prefix _ (s.data.toList.drop (k + 1)) n h1
          rwa [List.take_append_drop] at this
        subst hT
        clear he
        go_wp2
        go_ret
        exact ⟨rfl, rfl⟩
      · have he' : ((s[k].toNat : Int) == (n : Int)) = false := by rw [nat_eqb]; simp [he]
        have h1 : Hid (inL (s.data.toList.take (k + 1)) n = false) := Lib.hid (by rw [take_snoc s k hlt, inL_snoc _ _ _ hn, hin.out]; simp [he])
        clear he
        go_wp2
        go_round
        case rel => exact ⟨k + 1, by omega, by go_num, h1⟩
        case measure => simp [intOf]; omega
    · obtain rfl : k = s.size := by omega
      have hF : v = false := by rw [HV.out]; have := hin.out; rwa [take_all] at this
      subst hF
      go_wp2
      go_ret
      exact ⟨rfl, rfl⟩
theorem hexS : ∀ n, n < 16 → ((ByteArray.mk #[48, 49, 50, 51, 52, 53, 54, 55, 56, 57, 97, 98, 99, 100, 101, 102]).extract n (n + 1)) = ⟨[hexd n].toArray⟩ := by
  intro n hn
  have h : ∀ n, n < 16 → ((ByteArray.mk #[48, 49, 50, 51, 52, 53, 54, 55, 56, 57, 97, 98, 99, 100, 101, 102]).extract n (n + 1)).data = [hexd n].toArray := by decide +kernel
  exact ByteArray.ext (h n hn)
set_option maxHeartbeats 1000000 in
theorem digit_any (n : Nat) (w : World) (hn : n < 16) : Calls Tryd.prog 86 #[.int .i64 (n : Int)] w fun e w' => e = .returned (strV [hexd n]) ∧ w = w' := by
  have h1 := hexS n hn
  go_enter Tryd.func86, Tryd.ntmps86
  go_wp2
  go_ret
  exact ⟨rfl, rfl⟩
/-- A byte's own sign, by the document's words. -/
def sgnR (S : List UInt8) (n : Nat) : List UInt8 :=
  if n = 10 then [92, 110] else if n = 13 then [92, 114] else if n = 9 then [92, 116] else if n < 32 ∨ 126 < n then [92, 120, hexd (n / 16), hexd (n % 16)] else if inL S n then [92, UInt8.ofNat n] else [UInt8.ofNat n]
theorem sgnR_len (S : List UInt8) (n : Nat) : (sgnR S n).length ≤ 4 := by
  unfold sgnR
  repeat' split
  all_goals simp
theorem conv_one {n g : Nat} {w : World} (hn : n < 256) (h : w.cell? ⟨g, 0, none⟩ = some (.int .u8 (n : Int))) : (convert 41 9 (.slice (some ⟨g, 0, none⟩) 1 1)).run Tryd.prog w = .ok (.string ⟨#[UInt8.ofNat n]⟩) w := by
  have := run_convert_bytes_arg w 41 5 Tryd.underlying41 Tryd.underlying5 g 0 1 1 [(n : Int)] rfl (fun i hi => by
    obtain rfl : i = 0 := by omega
    exact h) 9 Tryd.underlying9
  rw [this]
  congr 1
theorem str_add (l m : List UInt8) : (ByteArray.mk l.toArray ++ ByteArray.mk m.toArray) = ByteArray.mk (l ++ m).toArray := ByteArray.mk_append_mk l m
theorem ret_str {A : ByteArray} {l : List UInt8} (h : A = ⟨l.toArray⟩) : Ending.returned (.string A) = .returned (strV l) := by rw [h]; rfl
set_option maxRecDepth 100000 in
set_option maxHeartbeats 1000000 in
theorem sign_any (n : Nat) (s : ByteArray) (w : World) (hn : n < 256) (hs : s.size ≤ 1000000000) : Calls Tryd.prog 73 #[.int .u8 (n : Int), .string s] w (Ret (strV (sgnR s.data.toList n)) w) := by
  by_cases h10 : n = 10
  · have hr : sgnR s.data.toList n = [92, 110] := by unfold sgnR; rw [if_pos h10]
    rw [hr]; subst h10; clear hr
    go_enter Tryd.func73, Tryd.ntmps73
    go_wp2
    go_ret
    exact ⟨rfl, Below.refl _ _⟩
  have e10 : ((n : Int) == 10) = false := by simp; omega
  by_cases h13 : n = 13
  · have hr : sgnR s.data.toList n = [92, 114] := by unfold sgnR; rw [if_neg h10, if_pos h13]
    rw [hr]; subst h13; clear hr e10 h10
    go_enter Tryd.func73, Tryd.ntmps73
    go_wp2
    go_ret
    exact ⟨rfl, Below.refl _ _⟩
  have e13 : ((n : Int) == 13) = false := by simp; omega
  by_cases h9 : n = 9
  · have hr : sgnR s.data.toList n = [92, 116] := by unfold sgnR; rw [if_neg h10, if_neg h13, if_pos h9]
    rw [hr]; subst h9; clear hr e10 h10 h13 e13
    go_enter Tryd.func73, Tryd.ntmps73
    go_wp2
    go_ret
    exact ⟨rfl, Below.refl _ _⟩
  have e9 : ((n : Int) == 9) = false := by simp; omega
  have d1 : Calls Tryd.prog 86 #[.int .i64 ((n : Int) / 16)] w fun e w' => e = .returned (.string ⟨#[hexd (n / 16)]⟩) ∧ w = w' := by
    have := digit_any (n / 16) w (by omega)
    rwa [show ((n / 16 : Nat) : Int) = (n : Int) / 16 by omega] at this
  have d2 : Calls Tryd.prog 86 #[.int .i64 ((n : Int) % 16)] w fun e w' => e = .returned (.string ⟨#[hexd (n % 16)]⟩) ∧ w = w' := by
    have := digit_any (n % 16) w (by omega)
    rwa [show ((n % 16 : Nat) : Int) = (n : Int) % 16 by omega] at this
  by_cases hlo : n < 32
  · have hr : sgnR s.data.toList n = [92, 120, hexd (n / 16), hexd (n % 16)] := by unfold sgnR; rw [if_neg h10, if_neg h13, if_neg h9, if_pos (.inl hlo)]
    rw [hr]; clear hr h10 h13 h9
    have c1 : decide ((n : Int) < 32) = true := decide_eq_true (by omega)
    go_enter Tryd.func73, Tryd.ntmps73
    go_wp2_with (first | (go_at_call 86; (with_reducible refine d1.mono ?_); rintro e w' ⟨rfl, rfl⟩) | (go_at_call 86; (with_reducible refine d2.mono ?_); rintro e w' ⟨rfl, rfl⟩))
    go_ret
    exact ⟨ret_str (by show (ByteArray.mk [92, 120].toArray ++ ByteArray.mk [hexd (n / 16)].toArray) ++ ByteArray.mk [hexd (n % 16)].toArray = _; rw [str_add, str_add]; rfl), Below.refl _ _⟩
  by_cases hhi : 126 < n
  · have hr : sgnR s.data.toList n = [92, 120, hexd (n / 16), hexd (n % 16)] := by unfold sgnR; rw [if_neg h10, if_neg h13, if_neg h9, if_pos (.inr hhi)]
    rw [hr]; clear hr h10 h13 h9
    have c1 : decide ((n : Int) < 32) = false := decide_eq_false (by omega)
    have c2 : decide (126 < (n : Int)) = true := decide_eq_true (by omega)
    go_enter Tryd.func73, Tryd.ntmps73
    go_wp2_with (first | (go_at_call 86; (with_reducible refine d1.mono ?_); rintro e w' ⟨rfl, rfl⟩) | (go_at_call 86; (with_reducible refine d2.mono ?_); rintro e w' ⟨rfl, rfl⟩))
    go_ret
    exact ⟨ret_str (by show (ByteArray.mk [92, 120].toArray ++ ByteArray.mk [hexd (n / 16)].toArray) ++ ByteArray.mk [hexd (n % 16)].toArray = _; rw [str_add, str_add]; rfl), Below.refl _ _⟩
  have hr : sgnR s.data.toList n = if inL s.data.toList n then [92, UInt8.ofNat n] else [UInt8.ofNat n] := by unfold sgnR; rw [if_neg h10, if_neg h13, if_neg h9, if_neg (by omega)]
  have c1 : decide ((n : Int) < 32) = false := decide_eq_false (by omega)
  have c2 : decide (126 < (n : Int)) = false := decide_eq_false (by omega)
  have k1 := within_any n s w hn hs
  have hcv := conv_one (g := w.heap.size) (w := w.alloc (.cells #[.int .u8 (n : Int)] 5)) hn (by rw [(Blk.new w 5 #[.int .u8 (n : Int)]).cell]; rfl)
  have hb : Below w.heap.size w (w.alloc (.cells #[.int .u8 (n : Int)] 5)) := by (repeat' first | exact Below.refl _ _ | assumption | refine Below.alloc ?_ (by simp <;> omega) _ | refine Below.setCell ?_ (by simp <;> omega) _ | refine Below.drew ?_)
  rw [hr]
  clear hr d1 d2 h10 h13 h9
  cases hi : inL s.data.toList n <;> rw [hi] at k1
  · clear hi
    go_enter Tryd.func73, Tryd.ntmps73
    go_wp2_with (go_at_call 84; refine k1.mono ?_; rintro e w' ⟨rfl, rfl⟩)
    go_ret
    exact ⟨rfl, hb⟩
  · clear hi
    go_enter Tryd.func73, Tryd.ntmps73
    go_wp2_with (go_at_call 84; refine k1.mono ?_; rintro e w' ⟨rfl, rfl⟩)
    go_ret
    exact ⟨ret_str (by show ByteArray.mk [92].toArray ++ ByteArray.mk [UInt8.ofNat n].toArray = _; rw [str_add]; rfl), hb⟩
theorem sign_str (n : Nat) (s X : ByteArray) (hX : X = ⟨(sgnR s.data.toList n).toArray⟩) (w : World) (hn : n < 256) (hs : s.size ≤ 1000000000) : Calls Tryd.prog 73 #[.int .u8 (n : Int), .string s] w (Ret (.string X) w) := by
  subst hX; exact sign_any n s w hn hs
def sgnsR (S l : List UInt8) : List UInt8 := l.flatMap fun x => sgnR S x.toNat
theorem sgnsR_snoc (L l : List UInt8) (x : UInt8) : sgnsR L (l ++ [x]) = sgnsR L l ++ sgnR L x.toNat := by simp [sgnsR]
theorem sgnsR_len (L l : List UInt8) : (sgnsR L l).length ≤ 4 * l.length := by
  induction l with
  | nil => simp [sgnsR]
  | cons x l ih =>
    have := sgnR_len L x.toNat
    simp [sgnsR] at ih ⊢
    omega
theorem size_mk (l : List UInt8) : (ByteArray.mk l.toArray).size = l.length := by show l.toArray.size = _; simp
theorem lit_same : ∀ n, n < 256 → sgnR [34, 92] n = sgn [34] n := by decide +kernel
theorem sgns_same (l : List UInt8) : sgnsR [34, 92] l = sgns [34] l := by
  unfold sgnsR sgns
  congr 1
  funext x
  exact lit_same _ x.toNat_lt
set_option maxRecDepth 100000 in
set_option maxHeartbeats 1000000 in
theorem refLiteral_any (s : ByteArray) (w : World) (hs : s.size ≤ 1000000000) : Calls Tryd.prog 56 #[.string s] w (Ret (strV (litB s.data.toList)) w) := by
  go_enter Tryd.func56, Tryd.ntmps56
  go_wp2_with fail
  go_loopw [3, 4] (fun t i wr => ∃ (k : Nat) (A : ByteArray), k ≤ s.size ∧ i = .int .i64 (k : Int) ∧ t = .string A ∧ Hid (A = ⟨(sgns [34] (s.data.toList.take k)).toArray⟩) ∧ Below w.heap.size w wr) (fun _ i _ => s.size - (intOf i).toNat)
  case atStart => exact ⟨0, _, by omega, rfl, rfl, Lib.hid (by simp [sgns]), Below.refl _ _⟩
  case round =>
    obtain ⟨k, A, hk, rfl, rfl, hA, hb⟩ := hrel
    have hAz : A.size ≤ 4 * k := by
      have h1 := sgns_len [34] (s.data.toList.take k)
      have h2 := List.length_take_le k s.data.toList
      rw [hA.out, size_mk]; omega
    by_cases hlt : k < s.size
    · obtain ⟨X, hX⟩ : ∃ X : ByteArray, X = ⟨(sgnR [34, 92] s[k].toNat).toArray⟩ := ⟨_, rfl⟩
      have hXz : X.size ≤ 4 := by rw [hX, size_mk]; exact sgnR_len _ _
      have k1 := sign_str s[k].toNat ⟨#[34, 92]⟩ X hX wr s[k].toNat_lt (by show 2 ≤ _; omega)
      have hlim : ¬ (9223372036854775807 < A.size + X.size) := by omega
      have hnew : Hid (A ++ X = ⟨(sgns [34] (s.data.toList.take (k + 1))).toArray⟩) := Lib.hid (by rw [hA.out, hX, str_add, take_snoc s k hlt, sgns_snoc, lit_same _ s[k].toNat_lt])
      clear hX
      go_wp2_with (go_at_call 73; refine k1.mono ?_; rintro e w2 ⟨rfl, hw2⟩)
      go_roundw
      case rel => exact ⟨k + 1, _, by omega, by go_num, rfl, hnew, Lies.below hw2 hb.size hb⟩
      case measure => simp [intOf]; omega
    · obtain rfl : k = s.size := by omega
      have hl1 : ¬ (9223372036854775807 < 1 + A.size) := by omega
      have hl2 : ¬ (9223372036854775807 < 1 + A.size + 1) := by omega
      have hfin : Hid (ByteArray.mk #[34] ++ A ++ ByteArray.mk #[34] = ⟨(litB s.data.toList).toArray⟩) := Lib.hid (by
        rw [hA.out, take_all]
        show ByteArray.mk [34].toArray ++ _ ++ ByteArray.mk [34].toArray = _
        rw [str_add, str_add]; rfl)
      go_wp2
      go_ret
      exact ⟨ret_str hfin.out, hb⟩
end Go.Proofs.YtakcckdnliiieaaDoor
