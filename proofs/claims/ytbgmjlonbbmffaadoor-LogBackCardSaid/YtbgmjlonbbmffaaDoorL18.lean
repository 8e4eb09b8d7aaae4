/- bonsailaw27.LogOne walked. -/
import Derived.Test.YtbgmjlonbbmffaaDoorL17
import Derived.Test.YtbgmjlonbbmffaaDoorP1
namespace Go.Proofs.YtbgmjlonbbmffaaDoor
open Go Go.RowKit
attribute [local go_sem] Oper.quietAt Oper.quietUpon
theorem bytesOf_mk {L : List Nat} (h : ∀ b ∈ L, b < 256) : bytesOf ⟨(L.map UInt8.ofNat).toArray⟩ = L := by
  unfold bytesOf
  simp only [List.map_map]
  conv => rhs; rw [← List.map_id L]
  refine List.map_congr_left fun b hb => ?_
  have := h b hb
  simp [UInt8.toNat_ofNat', Nat.mod_eq_of_lt this]
theorem vb_lt : ∀ (n : Nat), ∀ b ∈ vb n, b < 256 := by
  intro n
  induction n using Nat.strongRecOn with
  | _ n ih =>
    intro b hb
    by_cases h : n < 128
    · rw [vb_small h] at hb; simp at hb; omega
    · rw [vb_great h] at hb
      rcases List.mem_cons.1 hb with rfl | hb
      · omega
      · exact ih (n / 128) (by omega) b hb
theorem vbs_lt (l : List Int) : ∀ b ∈ vbs l, b < 256 := by
  intro b hb
  obtain ⟨x, _, hx⟩ := List.mem_flatMap.1 hb
  exact vb_lt _ b hx
theorem encB_lt (x : ItemD) : ∀ b ∈ encB x, b < 256 := by
  intro b hb
  unfold encB at hb
  split at hb
  · simp at hb; omega
  · rcases List.mem_append.1 hb with hb | hb
    · rcases List.mem_append.1 hb with hb | hb <;> exact vbs_lt _ b hb
    · exact vbs_lt _ b hb
theorem encL_lt (l : List ItemD) : ∀ b ∈ encL l, b < 256 := by
  intro b hb
  unfold encL at hb
  rcases List.mem_append.1 hb with hb | hb
  · exact vb_lt _ b hb
  · obtain ⟨x, _, hx⟩ := List.mem_flatMap.1 hb
    exact encB_lt x b hx
theorem encL_len {l : List ItemD} (hl : l.length ≤ 4096) (hm : l.all mayB = true) (hok : ∀ x ∈ l, x.step.ok) : (encL l).length ≤ 1000000 := by
  have h1 := encs_len hm hok
  have h2 := @vb_five l.length (by omega)
  unfold encL
  rw [List.length_append]
  omega
theorem vb_ne (n : Nat) : 0 < (vb n).length := by
  rw [vb]; split <;> simp
theorem encL_pos (l : List ItemD) : 0 < (encL l).length := by
  unfold encL
  have := vb_ne l.length
  rw [List.length_append]; omega
/-- A log's bytes, as a text. -/
def encT (l : List ItemD) : ByteArray := ⟨((encL l).map UInt8.ofNat).toArray⟩
theorem encT_bytes (l : List ItemD) : bytesOf (encT l) = encL l := bytesOf_mk (encL_lt l)
theorem encT_size (l : List ItemD) : (encT l).size = (encL l).length := by rw [← bytesOf_len, encT_bytes]
theorem bytesOf_inj {s t : ByteArray} (h : bytesOf s = bytesOf t) : s = t := by
  unfold bytesOf at h
  have h1 : s.data.toList = t.data.toList := (List.map_inj_right (fun a b e => UInt8.toNat_inj.1 e)).1 h
  exact ByteArray.ext (Array.toList_inj.1 h1)
theorem str_ne {A B : ByteArray} (h : A ≠ B) : (A.toList == B.toList) = false := by
  rw [Lib.toList_data, Lib.toList_data]
  simp only [beq_eq_false_iff_ne, ne_eq]
  exact fun e => h (ByteArray.ext (Array.toList_inj.1 e))
theorem bytesOf_take (t : ByteArray) (k : Nat) (hk : k ≤ t.size) : bytesOf (t.extract 0 k) = (bytesOf t).take k := by
  unfold bytesOf
  rw [ByteArray.data_extract, Array.toList_extract]
  simp [List.map_take]
theorem bytesOf_app (s t : ByteArray) : bytesOf (s ++ t) = bytesOf s ++ bytesOf t := by
  unfold bytesOf
  rw [ByteArray.data_append, Array.toList_append, List.map_append]
/-- Two logs that may be: their bytes are one, or one begins by the other's, just if they are the same. -/
theorem encT_inj {l m : List ItemD} (hl : l.length ≤ 4096) (hm : m.length ≤ 4096) (hla : l.all mayB = true) (hma : m.all mayB = true) (hlo : ∀ x ∈ l, x.step.ok) (hmo : ∀ x ∈ m, x.step.ok) (h : (encT m).extract 0 (encT l).size = encT l) (hle : (encT l).size ≤ (encT m).size) : l = m := by
  have h1 := congrArg bytesOf h
  rw [bytesOf_take _ _ hle, encT_bytes, encT_bytes, encT_size] at h1
  refine enc_free (R := (encL m).drop (encL l).length) hl hm hla hma hlo hmo ?_ (encL_lt m)
  conv => lhs; rw [← List.take_append_drop (encL l).length (encL m), h1]
theorem wrong_cut {l : List ItemD} (hl : l.length ≤ 4096) (hla : l.all mayB = true) (hlo : ∀ x ∈ l, x.step.ok) {k : Nat} (hk : k < (encT l).size) : wrongP ((encT l).extract 0 k) = 8 := by
  have := decP_cut (t := (encT l).extract 0 k) (j := k) hl hla hlo (by rw [bytesOf_take _ _ (by omega), encT_bytes]) (by rw [← encT_size]; exact hk)
  unfold wrongP
  rw [this]; rfl
theorem wrong_more {l : List ItemD} (hl : l.length ≤ 4096) (hla : l.all mayB = true) (hlo : ∀ x ∈ l, x.step.ok) {s : ByteArray} (hs : 0 < s.size) : wrongP (encT l ++ s) = 10 := by
  have := decP_enc (t := encT l ++ s) (R := bytesOf s) hl hla hlo (by rw [bytesOf_app, encT_bytes])
  rw [if_neg (fun e => by have := bytesOf_len s; rw [e] at this; simp at this; omega)] at this
  unfold wrongP
  rw [this]; rfl
theorem at_mod (x : Int) {n : Nat} (h0 : 0 < n) (h1 : n ≤ 1000000) : ∃ k : Nat, k < n ∧ wrap64 ((IntKind.u64.wrap x).tmod (n : Int)) = (k : Int) := by
  obtain ⟨u, hu⟩ : ∃ u : Nat, IntKind.u64.wrap x = (u : Int) := by
    refine ⟨(IntKind.u64.wrap x).toNat, ?_⟩
    have : 0 ≤ IntKind.u64.wrap x := by
      simp [IntKind.wrap, IntKind.signed, IntKind.bits]
      omega
    omega
  rw [hu, Int.tmod_eq_emod_of_nonneg (by omega)]
  have h2 : u % n < n := Nat.mod_lt _ h0
  refine ⟨u % n, h2, ?_⟩
  rw [← Int.natCast_emod]
  simp only [wrap64]; omega
set_option maxRecDepth 100000 in
set_option maxHeartbeats 1500000 in
theorem logOne_any {p q : Value} {l m : List ItemD} {at' : Int} {w : World} {F G : Nat → Prop} (hI : ItemsAt w F p l) (hJ : ItemsAt w G q m) (hF : ∀ b, F b → b < w.heap.size) (hG : ∀ b, G b → b < w.heap.size) (h0 : -9223372036854775808 ≤ at') (h1 : at' ≤ 9223372036854775807) (hT : Tab w) :
    Calls Tryd.prog 3 #[p, q, .int .i64 at'] w (Ret (.bool true) w) := by
  have kA : ∀ W, Lies w W → Calls Tryd.prog 8 #[] W (Ret (.bool true) W) := fun W h => awake_any (hT.lies h)
  have kL : ∀ W, Lies w W → Calls Tryd.prog 7 #[p] W (Ret (.bool (decide (20000 ≤ wt l))) W) := fun W h => long_any (hI.lies h)
  have kM : ∀ W, Lies w W → Calls Tryd.prog 7 #[q] W (Ret (.bool (decide (20000 ≤ wt m))) W) := fun W h => long_any (hJ.lies h)
  have kE : ∀ W, Lies w W → Calls Tryd.prog 9 #[p] W (Ret (.tuple #[strV ((encP l).1.map UInt8.ofNat), .int .i64 ((encP l).2 : Int)]) W) := fun W h => encode_any (hI.lies h) (fun b hb => Nat.lt_of_lt_of_le (hF b hb) h.size)
  have kE2 : ∀ W, Lies w W → Calls Tryd.prog 9 #[q] W (Ret (.tuple #[strV ((encP m).1.map UInt8.ofNat), .int .i64 ((encP m).2 : Int)]) W) := fun W h => encode_any (hJ.lies h) (fun b hb => Nat.lt_of_lt_of_le (hG b hb) h.size)
  have kS : ∀ W, Lies w W → Calls Tryd.prog 10 #[p, q] W (Ret (.bool (decide (l = m))) W) := fun W h => same_any (hI.lies h) (hJ.lies h) (fun b hb => Nat.lt_of_lt_of_le (hF b hb) h.size) (fun b hb => Nat.lt_of_lt_of_le (hG b hb) h.size)
  have kW : ∀ (t : ByteArray) (r : Nat), t.size ≤ 1000000000 → wrongP t = r → ∀ W, Calls Tryd.prog 11 #[.string t] W (Ret (.int .i64 (r : Int)) W) := fun t r ht hr W => by subst hr; exact wrong_any ht
  have hlo : ∀ x ∈ l, x.step.ok := by obtain ⟨_, _, _, _, h, _⟩ := hI; exact h
  have hmo : ∀ x ∈ m, x.step.ok := by obtain ⟨_, _, _, _, h, _⟩ := hJ; exact h
  obtain ⟨oa, c, hv⟩ := hI.slice
  obtain ⟨ob, d, hu⟩ := hJ.slice
  have hz1 := hI.len
  have hz2 := hJ.len
  subst hv hu
  have hl0 := Lies.start w
  clear hI hJ hT
  cases dl : decide (20000 ≤ wt l)
  case true =>
    rw [dl] at kL
    clear dl kM kE kE2 kS kW
    go_enter Tryd.func3, Tryd.ntmps3
    go_wp2_with (first | (go_at_call 7; refine (Calls.lies (W0 := w) (by assumption) (kL _ (by assumption))).mono ?_; rintro e W1 ⟨rfl, hW1⟩) | (go_at_call 8; refine (Calls.lies (W0 := w) (by assumption) (kA _ (by assumption))).mono ?_; rintro e W1 ⟨rfl, hW2⟩))
    go_ret
    exact ⟨rfl, hW2⟩
  cases dm : decide (20000 ≤ wt m)
  case true =>
    rw [dl] at kL
    rw [dm] at kM
    clear dl dm kE kE2 kS kW
    go_enter Tryd.func3, Tryd.ntmps3
    go_wp2_with (first | (go_at_call 7; (first | (with_reducible refine (Calls.lies (W0 := w) (by assumption) (kL _ (by assumption))).mono ?_) | (with_reducible refine (Calls.lies (W0 := w) (by assumption) (kM _ (by assumption))).mono ?_)); rintro e W1 ⟨rfl, hW1⟩) | (go_at_call 8; refine (Calls.lies (W0 := w) (by assumption) (kA _ (by assumption))).mono ?_; rintro e W1 ⟨rfl, hW2⟩))
    go_ret
    exact ⟨rfl, hW2⟩
  rw [dl] at kL
  rw [dm] at kM
  clear dl dm
  obtain ⟨a, e, hae⟩ : ∃ a e, encP l = (a, e) := ⟨_, _, rfl⟩
  obtain ⟨b, f, hbf⟩ : ∃ b f, encP m = (b, f) := ⟨_, _, rfl⟩
  rw [hae] at kE
  rw [hbf] at kE2
  simp only at kE kE2
  have ga : e ≠ 0 → a = [] := by
    intro he
    unfold encP at hae
    split at hae
    · injection hae with h1 h2; exact h1.symm
    · split at hae
      · injection hae with h1 h2; exact absurd h2.symm he
      · injection hae with h1 h2; exact h1.symm
  obtain ⟨A, hA⟩ : ∃ A : ByteArray, A = ⟨(a.map UInt8.ofNat).toArray⟩ := ⟨_, rfl⟩
  obtain ⟨B, hB⟩ : ∃ B : ByteArray, B = ⟨(b.map UInt8.ofNat).toArray⟩ := ⟨_, rfl⟩
  have kE' : ∀ W, Lies w W → Calls Tryd.prog 9 #[.slice oa l.length c] W (Ret (.tuple #[.string A, .int .i64 (e : Int)]) W) := by rw [hA]; exact kE
  have kE2' : ∀ W, Lies w W → Calls Tryd.prog 9 #[.slice ob m.length d] W (Ret (.tuple #[.string B, .int .i64 (f : Int)]) W) := by rw [hB]; exact kE2
  have HA := Lib.hid hA
  have HB := Lib.hid hB
  clear kE kE2 hA hB
  go_enter Tryd.func3, Tryd.ntmps3
  go_upto_region 5 with (first | (go_at_call 7; (first | (with_reducible refine (Calls.lies (W0 := w) (by assumption) (kL _ (by assumption))).mono ?_) | (with_reducible refine (Calls.lies (W0 := w) (by assumption) (kM _ (by assumption))).mono ?_)); rintro e W1 ⟨rfl, hW1⟩) | (go_at_call 8; refine (Calls.lies (W0 := w) (by assumption) (kA _ (by assumption))).mono ?_; rintro e W1 ⟨rfl, hW2⟩) | (go_at_call 9; (first | (with_reducible refine (Calls.lies (W0 := w) (by assumption) (kE' _ (by assumption))).mono ?_) | (with_reducible refine (Calls.lies (W0 := w) (by assumption) (kE2' _ (by assumption))).mono ?_)); rintro e W1 ⟨rfl, hW3⟩))
  clear kL kM kE' kE2' hl0
  by_cases he : e = 0
  case neg =>
    have d1 : ((e : Int) == 0) = false := by simp; omega
    obtain rfl : A = ⟨#[]⟩ := by rw [HA.out, ga he]; rfl
    clear HA HB hae hbf ga kS kW
    go_wp2
    go_ret
    exact ⟨rfl, hW3⟩
  subst he
  by_cases hf : f = 0
  case neg =>
    have d1 : ((f : Int) == 0) = false := by simp; omega
    clear HA HB hae hbf ga kS kW
    go_wp2
    go_ret
    exact ⟨rfl, hW3⟩
  subst hf
  have enc_ok : ∀ (l : List ItemD) (a : List Nat), encP l = (a, 0) → a = encL l ∧ l.length ≤ 4096 ∧ l.all mayB = true := by
    intro l a h
    unfold encP at h
    split at h
    · injection h with h1 h2; cases h2
    · split at h
      · injection h with h1 h2; exact ⟨h1.symm, by omega, by assumption⟩
      · injection h with h1 h2; cases h2
  obtain ⟨ea, la, ma⟩ := enc_ok l a hae
  obtain ⟨eb, lb, mb⟩ := enc_ok m b hbf
  have hAl : A = encT l := by rw [HA.out, ea]; rfl
  have hBm : B = encT m := by rw [HB.out, eb]; rfl
  have hA0 : 0 < A.size := by rw [hAl, encT_size]; exact encL_pos l
  have hA1 : A.size ≤ 1000000 := by rw [hAl, encT_size]; exact encL_len la ma hlo
  have hB1 : B.size ≤ 1000000 := by rw [hBm, encT_size]; exact encL_len lb mb hmo
  have hAB : l ≠ m → A.size ≤ B.size → B.extract 0 A.size ≠ A := by
    rw [hAl, hBm]
    exact fun hne hle h => hne (encT_inj la lb ma mb hlo hmo h hle)
  have hAB2 : l ≠ m → A ≠ B := fun hne h => hAB hne (by rw [h]; exact Nat.le_refl _) (by rw [h, ByteArray.extract_zero_size])
  have k8 : ∀ k, k < A.size → ∀ W, Calls Tryd.prog 11 #[.string (A.extract 0 k)] W (Ret (.int .i64 8) W) := fun k hk W => kW _ 8 (by rw [ByteArray.size_extract]; omega) (by rw [hAl] at hk ⊢; exact wrong_cut la ma hlo hk) W
  have k10 : ∀ W, Calls Tryd.prog 11 #[.string (A ++ ⟨#[120]⟩)] W (Ret (.int .i64 10) W) := fun W => kW _ 10 (by rw [ByteArray.size_append]; show A.size + 1 ≤ _; omega) (by rw [hAl]; exact wrong_more la ma hlo (by decide)) W
  have heq : l = m → A = B := fun h => by rw [hAl, hBm, h]
  clear kW ea eb la lb ma mb hAl hBm HA HB hae hbf ga enc_ok hlo hmo
  go_upto_region 8 with (go_at_call 10; refine (Calls.lies (W0 := w) (by assumption) (kS _ (by assumption))).mono ?_; rintro e W2 ⟨rfl, hW4⟩)
  clear hW1 hW2 hW3 kS kA
  have hL := Lib.hid hW4
  clear hW4
  obtain ⟨k, hk, hkv⟩ := at_mod at' hA0 hA1
  have k8' := k8 k hk
  have hs1 : ¬ (9223372036854775807 < A.size + 1) := by omega
  have HKV := Lib.hid hkv
  clear k8 hkv
  by_cases hlm : l = m
  · obtain rfl := heq hlm
    have e1 : (A.toList == A.toList) = true := beq_self_eq_true _
    have e2 : decide (l = m) = true := decide_eq_true hlm
    clear hAB hAB2 heq hlm
    rw [e2]
    go_upto_region 11 with (fail)
    have hkv := HKV.out
    rw [hkv]
    go_wp2_with (go_at_call 11; (first | (with_reducible refine (k8' _).mono ?_) | (with_reducible refine (k10 _).mono ?_)); rintro e W3 ⟨rfl, hW3⟩)
    rename_i Wa hWa
    go_ret
    exact ⟨rfl, (hL.out.tr hWa).tr hW3⟩
  · have e1 := str_ne (hAB2 hlm)
    have e2 : decide (l = m) = false := decide_eq_false hlm
    rw [e2]
    by_cases hle : A.size ≤ B.size
    · have e3 := str_ne (hAB hlm hle)
      clear hAB hAB2 heq hlm
      go_upto_region 11 with (fail)
      have hkv := HKV.out
      rw [hkv]
      go_wp2_with (go_at_call 11; (first | (with_reducible refine (k8' _).mono ?_) | (with_reducible refine (k10 _).mono ?_)); rintro e W3 ⟨rfl, hW3⟩)
      rename_i Wa hWa
      go_ret
      exact ⟨rfl, (hL.out.tr hWa).tr hW3⟩
    · have e3 : decide (A.size ≤ B.size) = false := decide_eq_false hle
      clear hAB hAB2 heq hlm
      go_upto_region 11 with (fail)
      have hkv := HKV.out
      rw [hkv]
      go_wp2_with (go_at_call 11; (first | (with_reducible refine (k8' _).mono ?_) | (with_reducible refine (k10 _).mono ?_)); rintro e W3 ⟨rfl, hW3⟩)
      rename_i Wa hWa
      go_ret
      exact ⟨rfl, (hL.out.tr hWa).tr hW3⟩
end Go.Proofs.YtbgmjlonbbmffaaDoor
