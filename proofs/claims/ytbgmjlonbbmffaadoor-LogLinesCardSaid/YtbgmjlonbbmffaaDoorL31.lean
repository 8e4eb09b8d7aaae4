/- The document's line of an item. -/
import Derived.Test.YtbgmjlonbbmffaaDoorL30
namespace Go.Proofs.YtbgmjlonbbmffaaDoor
open Go Go.RowKit
attribute [local go_sem] Oper.quietAt Oper.quietUpon
theorem refNum_str {n : Int} (h0 : 0 ≤ n) (h1 : n ≤ 2147483647) : ∃ A : ByteArray, A = ⟨(Lib.itoa n).toArray⟩ ∧ A.size ≤ 10 ∧ ∀ W, Calls Tryd.prog 43 #[.int .i64 n] W (Ret (.string A) W) := by
  obtain ⟨k, rfl⟩ : ∃ k : Nat, n = (k : Int) := ⟨n.toNat, by omega⟩
  exact ⟨_, rfl, by rw [size_mk]; exact itoa_len h0 h1, fun _ => refNum_any (by omega)⟩
set_option maxRecDepth 100000 in
set_option maxHeartbeats 1500000 in
theorem refShow_any {x : ItemD} {pv : Value} {w : World} {F : Nat → Prop} (hp : IntsAt w F pv x.step.path) (hok : x.step.ok) :
    Calls Tryd.prog 24 #[.agg #[.bool x.mark, .int .u8 (x.step.pass : Int), .int .u8 (x.step.way : Int), .int .i64 x.step.rule, pv, .int .i64 x.step.place]] w (Ret (strV (showP x)) w) := by
  obtain ⟨r, hr⟩ : ∃ r, r = showP x := ⟨_, rfl⟩
  rw [← hr]
  have kmay := fun W (h : IntsAt W F pv x.step.path) => @refMay_any x pv W F h
  cases hm : mayB x
  · obtain rfl : r = [] := by rw [hr]; unfold showP; rw [hm]; rfl
    obtain ⟨m, ⟨pass, way, rule, path, place⟩⟩ := x
    simp only at hp kmay ⊢
    rw [hm] at kmay
    have k1 := kmay _ (hp.alloc (.cells #[.bool m, .int .u8 (pass : Int), .int .u8 (way : Int), .int .i64 rule, pv, .int .i64 place] 50))
    obtain ⟨oa, cap, hv⟩ := hp.slice
    subst hv
    clear kmay hr hm hp
    go_enter Tryd.func24, Tryd.ntmps24
    go_wp2_with (go_at_call 42; refine k1.mono ?_; rintro e W2 ⟨rfl, hl2⟩)
    go_ret
    exact ⟨rfl, Lies.below hl2 (by simp) ((Lies.start w).alloc (Nat.le_refl _) _)⟩
  have hr1 : r = showB x := by rw [hr]; unfold showP; rw [if_pos hm]
  cases hmk : x.mark
  case true =>
    obtain rfl : r = [109, 97, 114, 107] := by rw [hr1]; unfold showB; rw [if_pos hmk]
    obtain ⟨m, ⟨pass, way, rule, path, place⟩⟩ := x
    simp only at hp kmay hmk ⊢
    subst hmk
    rw [hm] at kmay
    have k1 := kmay _ (hp.alloc (.cells #[.bool true, .int .u8 (pass : Int), .int .u8 (way : Int), .int .i64 rule, pv, .int .i64 place] 50))
    obtain ⟨oa, cap, hv⟩ := hp.slice
    subst hv
    obtain ⟨W1, hW1⟩ : ∃ W1, w.alloc (.cells #[.bool true, .int .u8 (pass : Int), .int .u8 (way : Int), .int .i64 rule, .slice oa path.length cap, .int .i64 place] 50) = W1 := ⟨_, rfl⟩
    have hX1 : Blk W1 w.heap.size 50 #[.bool true, .int .u8 (pass : Int), .int .u8 (way : Int), .int .i64 rule, .slice oa path.length cap, .int .i64 place] := by rw [← hW1]; exact Blk.new w 50 _
    have hl1 : Lies w W1 := by rw [← hW1]; exact (Lies.start w).alloc (Nat.le_refl _) _
    rw [hW1] at k1
    clear kmay hr hr1 hm hp
    go_enter Tryd.func24, Tryd.ntmps24
    go_upto_region 1 with (fail)
    clear hW1
    have hcX := hX1.cell
    go_upto_region 3 with (go_at_call 42; refine k1.mono ?_; rintro e W2 ⟨rfl, hl2⟩)
    have hX2 := hX1.lies hl2
    clear hcX
    have hcX := hX2.cell
    have hlX := hX2.lt
    go_wp2
    go_ret
    exact ⟨rfl, Lies.below hl2 hl1.size hl1⟩
  obtain ⟨h0, h1, h2, h3, h4⟩ := mayB_spec hm hmk
  have hr2 : r = Lib.itoa x.step.pass ++ [46] ++ Lib.itoa x.step.way ++ [32] ++ Lib.itoa x.step.rule ++ pathS x.step.path ++ [32, 64] ++ Lib.itoa x.step.place := by rw [hr1]; unfold showB; rw [if_neg (by simp [hmk])]
  clear hr hr1
  obtain ⟨m, ⟨pass, way, rule, path, place⟩⟩ := x
  simp only at hp hm kmay hmk h0 h1 h2 h3 h4 hr2 ⊢
  subst hmk
  rw [hm] at kmay
  unfold StepD.ok at hok
  simp only at hok
  have k1 := kmay _ (hp.alloc (.cells #[.bool false, .int .u8 (pass : Int), .int .u8 (way : Int), .int .i64 rule, pv, .int .i64 place] 50))
  obtain ⟨oa, cap, hv⟩ := hp.slice
  have hpl := hp.len
  subst hv
  obtain ⟨W1, hW1⟩ : ∃ W1, w.alloc (.cells #[.bool false, .int .u8 (pass : Int), .int .u8 (way : Int), .int .i64 rule, .slice oa path.length cap, .int .i64 place] 50) = W1 := ⟨_, rfl⟩
  have hX1 : Blk W1 w.heap.size 50 #[.bool false, .int .u8 (pass : Int), .int .u8 (way : Int), .int .i64 rule, .slice oa path.length cap, .int .i64 place] := by rw [← hW1]; exact Blk.new w 50 _
  have hl1 : Lies w W1 := by rw [← hW1]; exact (Lies.start w).alloc (Nat.le_refl _) _
  rw [hW1] at k1
  have HR := Lib.hid hr2
  have H4 := Lib.hid h4
  have HP := Lib.hid hp
  clear kmay hr2 hm hp h4
  go_enter Tryd.func24, Tryd.ntmps24
  go_upto_region 1 with (fail)
  clear hW1
  have hcX := hX1.cell
  go_upto_region 3 with (go_at_call 42; refine k1.mono ?_; rintro e W2 ⟨rfl, hl2⟩)
  have hX2 := hX1.lies hl2
  have hlw2 : Lies w W2 := Lies.below hl2 hl1.size hl1
  clear hcX hX1 hl1 hl2 k1
  have hcX := hX2.cell
  have hlX := hX2.lt
  go_upto_region 6 with (fail)
  obtain ⟨W3, hW3⟩ : ∃ W3, W2.alloc (.cells #[.int .u8 (pass : Int), .int .u8 (way : Int), .int .i64 rule, .slice oa path.length cap, .int .i64 place] 35) = W3 := ⟨_, rfl⟩
  obtain ⟨S, hS0⟩ : ∃ S, W2.heap.size = S := ⟨_, rfl⟩
  have hS4 : Blk W3 S 35 #[.int .u8 (pass : Int), .int .u8 (way : Int), .int .i64 rule, .slice oa path.length cap, .int .i64 place] := by rw [← hW3, ← hS0]; exact Blk.new W2 35 _
  have hl4 : Lies w W3 := by rw [← hW3]; exact hlw2.alloc hlw2.size _
  rw [hW3]
  try simp only [hS0]
  clear hW3 hX2 hlX hcX hS0 hlw2
  have c0 : W3.cell? ⟨S, 0, none⟩ = some (.int .u8 (pass : Int)) := hS4.cell 0
  have c1 : W3.cell? ⟨S, 1, none⟩ = some (.int .u8 (way : Int)) := hS4.cell 1
  have c2 : W3.cell? ⟨S, 2, none⟩ = some (.int .i64 rule) := hS4.cell 2
  have hlS := hS4.lt
  obtain ⟨A1, hA1, hz1, kA⟩ := refNum_str (n := (pass : Int)) (by omega) (by omega)
  obtain ⟨A2, hA2, hz2, kB⟩ := refNum_str (n := (way : Int)) (by omega) (by omega)
  obtain ⟨A3, hA3, hz3, kC⟩ := refNum_str (n := rule) h1.1 h1.2
  obtain ⟨A4, hA4, hz4, kD⟩ := refNum_str (n := place) h2.1 h2.2
  have HR2 : Hid (r = Lib.itoa pass ++ [46] ++ Lib.itoa way ++ [32] ++ Lib.itoa rule ++ pathS path ++ [32, 64] ++ Lib.itoa place) := Lib.hid HR.out
  obtain ⟨L1, hL1⟩ : ∃ L1, L1 = Lib.itoa pass ++ [46] ++ Lib.itoa way ++ [32] ++ Lib.itoa rule := ⟨_, rfl⟩
  have hX : Hid (A1 ++ ⟨#[46]⟩ ++ A2 ++ ⟨#[32]⟩ ++ A3 = ⟨L1.toArray⟩) := Lib.hid (by
    rw [hL1, hA1, hA2, hA3, ← str_add, ← str_add, ← str_add, ← str_add])
  have hXz : Hid ((A1 ++ ⟨#[46]⟩ ++ A2 ++ ⟨#[32]⟩ ++ A3).size ≤ 40) := Lib.hid (by
    rw [ByteArray.size_append, ByteArray.size_append, ByteArray.size_append, ByteArray.size_append]
    have e1 : (ByteArray.mk #[46]).size = 1 := rfl
    have e2 : (ByteArray.mk #[32]).size = 1 := rfl
    omega)
  rw [← hL1] at HR2
  have HD := Lib.hid hA4
  have HD2 := Lib.hid kD
  clear HR hA1 hA2 hA3 hA4 kD hL1
  have hs1 : ¬ (9223372036854775807 < A1.size + 1) := by omega
  have hs2 : ¬ (9223372036854775807 < A1.size + 1 + A2.size) := by omega
  have hs3 : ¬ (9223372036854775807 < A1.size + 1 + A2.size + 1) := by omega
  have hs4 : ¬ (9223372036854775807 < A1.size + 1 + A2.size + 1 + A3.size) := by omega
  (refine wp_region_quiet_all (C := Lies _) (by kernel_rfl) (by kernel_rfl) (Lies.drew (Lies.start _)) ?_; (repeat (first | (refine quiet_skip rfl ?_; simp only [Act.put, List.setIfInBounds_toArray, List.set_cons_zero, List.set_cons_succ]) | (apply quiet_op _ rfl; (focus (intro w1 hw1; have hc1 := hw1.cells; go_simp; (try go_bits); (try (rw [if_pos (by omega)]; go_simp)); first | (go_at_call 43; with_reducible exact Calls.lies hw1 (kA w1)) | (go_at_call 43; with_reducible exact Calls.lies hw1 (kB w1)) | (go_at_call 43; with_reducible exact Calls.lies hw1 (kC w1)) | (go_at_call 43; exact Calls.lies hw1 (kA w1)) | (go_at_call 43; exact Calls.lies hw1 (kB w1)) | (go_at_call 43; exact Calls.lies hw1 (kC w1)) | rfl)); simp only [Act.put, List.setIfInBounds_toArray, List.set_cons_zero, List.set_cons_succ]))); refine wpQuiet_nil ?_; intro w5 hw5)
  clear kA kB kC hz1 hz2 hz3 c0 c1 c2 hlS
  have hl5 : Lies w w5 := Lies.below hw5 hl4.size hl4
  have hS5 := hS4.lies hw5
  obtain ⟨A0, hA0⟩ : ∃ A0, A1 ++ ByteArray.mk #[46] ++ A2 ++ ByteArray.mk #[32] ++ A3 = A0 := ⟨_, rfl⟩
  rw [hA0] at hX hXz ⊢
  clear hA0 hs1 hs2 hs3 hs4 hS4 hl4 hw5
  go_wp2_with fail
  go_loopw [4, 5] (fun s j wr => ∃ (k : Nat) (A : ByteArray), s = .string A ∧ j = .int .i64 (k : Int) ∧ k ≤ path.length ∧ A.size ≤ 40 + 11 * k ∧ Hid (A = ⟨(L1 ++ pathS (path.take k)).toArray⟩) ∧ Hid (Lies w wr) ∧ Hid (Blk wr S 35 #[.int .u8 (pass : Int), .int .u8 (way : Int), .int .i64 rule, .slice oa path.length cap, .int .i64 place])) (fun _ j _ => path.length - (intOf j).toNat)
  case atStart => exact ⟨0, A0, rfl, rfl, Nat.zero_le _, by have := hXz.out; omega, Lib.hid (by rw [hX.out]; simp [pathS]), Lib.hid hl5, Lib.hid hS5⟩
  case round =>
    obtain ⟨k, A, rfl, rfl, hk, hz, hA, hl, hB⟩ := hrel
    have c3 : wr.cell? ⟨S, 3, none⟩ = some (.slice oa path.length cap) := hB.out.cell 3
    have c4 : wr.cell? ⟨S, 4, none⟩ = some (.int .i64 place) := hB.out.cell 4
    have hlS := hB.out.lt
    by_cases hlt : k < path.length
    case neg =>
      obtain rfl : k = path.length := by omega
      have d1 : decide (path.length < path.length) = false := decide_eq_false hlt
      have kd := HD2.out wr
      have hs1 : ¬ (9223372036854775807 < A.size + 2) := by omega
      have hs2 : ¬ (9223372036854775807 < A.size + 2 + A4.size) := by omega
      go_wp2_with (go_at_call 43; refine kd.mono ?_; rintro e w6 ⟨rfl, hw6⟩)
      go_ret
      refine ⟨ret_str ?_, Lies.below hw6 hl.out.size hl.out⟩
      rw [hA.out, HD.out, HR2.out, List.take_length]
      show ByteArray.mk _ ++ ByteArray.mk [32, 64].toArray ++ _ = _
      rw [str_add, str_add]
    have d1 : decide (k < path.length) = true := decide_eq_true hlt
    obtain ⟨b, off, cap', hv, _, hc, hb⟩ := (HP.out.lies hl.out).cell hlt
    injection hv with e1 e2 e3
    subst e1
    clear e2 e3
    have hr5 := H4.out _ (List.getElem_mem hlt)
    obtain ⟨B, hB1, hzB, kB⟩ := refNum_str hr5.1 hr5.2
    have HN : Hid (A ++ ⟨#[47]⟩ ++ B = ⟨(L1 ++ pathS (path.take (k + 1))).toArray⟩) := Lib.hid (by
      rw [List.take_succ_eq_append_getElem hlt, pathS_snoc, hA.out, hB1]
      show ByteArray.mk _ ++ ByteArray.mk [47].toArray ++ _ = _
      rw [str_add, str_add]
      simp)
    have hs1 : ¬ (9223372036854775807 < A.size + 1) := by omega
    have hs2 : ¬ (9223372036854775807 < A.size + 1 + B.size) := by omega
    have HZ : Hid ((A ++ ⟨#[47]⟩ ++ B).size ≤ 40 + 11 * (k + 1)) := Lib.hid (by
      rw [ByteArray.size_append, ByteArray.size_append]
      have e1 : (ByteArray.mk #[47]).size = 1 := rfl
      omega)
    have kd := kB wr
    clear hB1 kB hr5
    generalize path[k] = y at *
    go_wp2_with (go_at_call 43; refine kd.mono ?_; rintro e w6 ⟨rfl, hw6⟩)
    go_roundw
    case rel => exact ⟨k + 1, _, rfl, by go_num, by omega, HZ.out, HN, Lib.hid (Lies.below hw6 hl.out.size hl.out), Lib.hid (hB.out.lies hw6)⟩
    case measure => simp [intOf]; omega
end Go.Proofs.YtbgmjlonbbmffaaDoor
