/- The reference's Unliteral. -/
import Derived.Test.YtakcckdnliiieaaDoorQ15
namespace Go.Proofs.YtakcckdnliiieaaDoor
open Go Go.RowKit
theorem lit_special : (∀ n, n < 256 → inL (ByteArray.mk #[34, 92]).data.toList n = (inL [34] n || decide (n = 92))) ∧ (inL [34] 110 = false ∧ inL [34] 114 = false ∧ inL [34] 116 = false) := by decide +kernel
theorem refSign_lit {t : ByteArray} {i : Nat} (w : World) (ht : t.size ≤ 1000000) (hi : i ≤ t.size) :
    Calls Tryd.prog 72 #[.string t, .int .i64 (i : Int), .string ⟨#[34, 92]⟩] w fun x w' => x = .returned (.tuple #[.int .u8 ((signP t [34] i).1 : Int), .int .i64 ((signP t [34] i).2.1 : Int), .int .i64 ((signP t [34] i).2.2 : Int)]) ∧ w = w' :=
  refSign_any w ht hi (by show 2 ≤ _; omega) lit_special.1 lit_special.2
theorem unlitP_of {t : ByteArray} {pre : List (Nat × Nat)} {i e : Nat} (h0 : beginP t 34 = (1, 0)) (hc : Chn t [34] 34 (fun x => x.2) 1 0 pre) (hl : pre.length ≤ t.size) (hend : endAt t [34] 34 (headAt (fun x => x.2) 1 pre) (headE 0 pre) = some (i, e)) :
    unlitP t = if e ≠ 0 then ([], i, e) else if 255 < pre.length then ([], 0, 40) else (pre.map (fun x => UInt8.ofNat x.1), i + 1, 0) := by
  have hsig := sigs_chn pre (t.size + 1) 1 0 hc (by omega) hend
  unfold unlitP
  rw [h0]
  simp only [hsig, List.length_map]
theorem headE_zero (pre : List (Nat × Nat)) : headE 0 pre = 0 := by unfold headE; split <;> rfl
theorem seesB_lt {t : ByteArray} {p b : Nat} (h : p < t.size) : seesB t p b = (t[p].toNat == b) := by unfold seesB; rw [byteAt_lt h]; rfl
theorem seesB_ge {t : ByteArray} {p b : Nat} (h : t.size ≤ p) : seesB t p b = false := by unfold seesB; rw [byteAt_ge h]; rfl
theorem signP_ge {t : ByteArray} {L : List UInt8} {p : Nat} (h : t.size ≤ p) : signP t L p = (0, t.size, 8) := by unfold signP; rw [byteAt_ge h]
set_option maxRecDepth 100000 in
set_option maxHeartbeats 2000000 in
theorem refUnliteral_any {t : ByteArray} {w : World} (ht : t.size ≤ 1000000) :
    Calls Tryd.prog 55 #[.string t] w (Ret (.tuple #[strV (unlitP t).1, .int .i64 ((unlitP t).2.1 : Int), .int .i64 ((unlitP t).2.2 : Int)]) w) := by
  obtain ⟨r, hr⟩ : ∃ r, r = unlitP t := ⟨_, rfl⟩
  rw [← hr]
  have HRR := Lib.hid hr
  clear hr
  by_cases hlen : 0 < t.size
  case neg =>
    obtain rfl : r = ([], 0, 8) := by
      rw [HRR.out]; unfold unlitP beginP
      rw [byteAt_ge (by omega)]
      simp only [sigs, endAt]
      rfl
    have he : (t.toList == []) = true := by rw [Lib.toList_data, show t.data.toList = [] from List.eq_nil_of_length_eq_zero (by rw [Array.length_toList]; show t.size = 0; omega)]; rfl
    clear HRR
    go_enter Tryd.func55, Tryd.ntmps55
    go_wp2
    exact bodyPost_ret (v := .tuple #[.string ⟨#[]⟩, .int .i64 0, .int .i64 8]) (by simp [results, Tryd.results55, go_sem]) rfl ⟨rfl, Below.refl _ _⟩
  have he : (t.toList == []) = false := by
    rw [Lib.toList_data, beq_eq_false_iff_ne]
    intro h
    have : t.data.toList.length = 0 := by rw [h]; rfl
    rw [Array.length_toList] at this
    have h2 : t.size = t.data.size := rfl
    omega
  have hb256 := t[0].toNat_lt
  by_cases h34 : t[0].toNat = 34
  case neg =>
    obtain rfl : r = ([], 0, 4) := by
      rw [HRR.out]; unfold unlitP beginP
      rw [byteAt_lt hlen]
      simp only [if_neg h34, sigs, endAt]
      rfl
    have d1 : ((t[0].toNat : Int) != 34) = true := by simp; omega
    clear HRR h34
    go_enter Tryd.func55, Tryd.ntmps55
    go_wp2
    exact bodyPost_ret (v := .tuple #[.string ⟨#[]⟩, .int .i64 0, .int .i64 4]) (by simp [results, Tryd.results55, go_sem]) rfl ⟨rfl, Below.refl _ _⟩
  have hbg : beginP t 34 = (1, 0) := by unfold beginP; rw [byteAt_lt hlen]; simp only [if_pos h34]
  have d1 : ((t[0].toNat : Int) != 34) = false := by simp; omega
  have HBG := Lib.hid hbg
  clear hbg h34
  go_enter Tryd.func55, Tryd.ntmps55
  go_wp2_with fail
  obtain ⟨i0, hi, hz0, hz1, hz2⟩ := info_parts Tryd.info5
  clear he d1 hb256
  go_loopw [5, 6] (fun v j wr => ∃ (pre : List (Nat × Nat)) (p : Nat), j = .int .i64 (p : Int) ∧ p ≤ t.size ∧ Hid (headAt (fun x => x.2) 1 pre = p) ∧ Hid (Chn t [34] 34 (fun x => x.2) 1 0 pre) ∧ pre.length ≤ p ∧ wr.ownsRow w.heap.size 5 1 v pre.length (pre.map fun x => nb x.1) ∧ Below w.heap.size w wr) (fun _ j _ => t.size - (intOf j).toNat)
  case atStart => exact ⟨[], 1, by go_num, by omega, Lib.hid rfl, Lib.hid Chn.nil, by simp, World.ownsRow_nil _ _ _ _, Below.refl _ _⟩
  case round =>
    obtain ⟨pre, p, rfl, hpt, hhd, hch, hpl, hrow, hb⟩ := hrel
    by_cases hlt : p < t.size
    case neg =>
      have hend : endAt t [34] 34 (headAt (fun x => x.2) 1 pre) (headE 0 pre) = some (t.size, 8) := by
        rw [hhd.out, headE_zero]; unfold endAt
        rw [if_neg (by omega), seesB_ge (by omega), signP_ge (by omega)]; rfl
      obtain rfl : r = ([], t.size, 8) := by rw [HRR.out, unlitP_of HBG.out hch.out (by omega) hend, if_pos (by omega)]
      have c1 : decide (p < t.size) = false := decide_eq_false hlt
      have c2 : decide (t.size ≤ p) = true := decide_eq_true (by omega)
      clear HRR hend hlt hrow
      go_wp2
      exact bodyPost_ret (v := .tuple #[.string ⟨#[]⟩, .int .i64 (t.size : Int), .int .i64 8]) (by simp [results, Tryd.results55, go_sem]) rfl ⟨rfl, hb⟩
    by_cases h34 : t[p].toNat = 34
    · have hend : endAt t [34] 34 (headAt (fun x => x.2) 1 pre) (headE 0 pre) = some (p, 0) := by
        rw [hhd.out, headE_zero]; unfold endAt
        rw [if_neg (by omega), seesB_lt hlt, h34]; rfl
      have hu := unlitP_of HBG.out hch.out (by omega) hend
      rw [if_neg (by omega)] at hu
      have HU := Lib.hid hu
      have c1 : decide (p < t.size) = true := decide_eq_true hlt
      have c2 : decide (t.size ≤ p) = false := decide_eq_false (by omega)
      have c3 : ((t[p].toNat : Int) != 34) = false := by simp; omega
      obtain ⟨va, vc, rfl⟩ : ∃ a c, u5 = .slice a pre.length c := by
        rcases hrow.2 with ⟨h1, h2⟩ | ⟨g2, cap, cur, h1, _⟩
        · exact ⟨_, _, by rw [h1, h2]⟩
        · exact ⟨_, _, h1⟩
      have hcv := run_convert_own (P := Tryd.prog) (pre.map (fun x => x.1)) Tryd.underlying41 Tryd.underlying5 Tryd.underlying9 (w := wr) (by rw [List.map_map]; exact hrow)
      have hcv' : (convert 41 9 (.slice va pre.length vc)).run Tryd.prog wr = .ok (.string ⟨((pre.map (fun x => x.1)).map UInt8.ofNat).toArray⟩) wr := hcv
      clear hcv hrow hend hu h34
      by_cases hlen5 : 255 < pre.length
      · obtain rfl : r = ([], 0, 40) := by rw [HRR.out, HU.out, if_pos hlen5]
        have d2 : decide (255 < (pre.length : Int)) = true := decide_eq_true (by omega)
        clear hlen5 HRR HU
        go_wp2
        exact bodyPost_ret (v := .tuple #[.string ⟨#[]⟩, .int .i64 0, .int .i64 40]) (by simp [results, Tryd.results55, go_sem]) rfl ⟨rfl, hb⟩
      · obtain rfl : r = (pre.map (fun x => UInt8.ofNat x.1), p + 1, 0) := by rw [HRR.out, HU.out, if_neg hlen5]
        have d2 : decide (255 < (pre.length : Int)) = false := decide_eq_false (by omega)
        clear hlen5 HRR HU
        go_wp2
        exact bodyPost_ret (v := .tuple #[.string ⟨((pre.map (fun x => x.1)).map UInt8.ofNat).toArray⟩, .int .i64 ((p : Int) + 1), .int .i64 0]) (by simp [results, Tryd.results55, go_sem]) rfl ⟨by rw [List.map_map]; rfl, hb⟩
    · have c1 : decide (p < t.size) = true := decide_eq_true hlt
      have c3 : ((t[p].toNat : Int) != 34) = true := by simp; omega
      have hsl := @signP_le t [34] p hpt
      obtain ⟨q, hq⟩ : ∃ q, q = signP t [34] p := ⟨_, rfl⟩
      have k72 := fun w => @refSign_lit t p w ht hpt
      rw [← hq] at hsl k72
      obtain ⟨a, j, e2⟩ := q
      obtain ⟨hj, ha, hij⟩ := hsl
      simp only at hj ha hij k72
      have hse : seesB t p 34 = false := by rw [seesB_lt hlt]; simpa using h34
      by_cases he2 : e2 = 0
      case neg =>
        have hend : endAt t [34] 34 (headAt (fun x => x.2) 1 pre) (headE 0 pre) = some (j, e2) := by
          rw [hhd.out, headE_zero]; unfold endAt
          rw [if_neg (by omega), hse, if_neg (by simp), ← hq, if_neg he2]
        obtain rfl : r = ([], j, e2) := by rw [HRR.out, unlitP_of HBG.out hch.out (by omega) hend, if_pos he2]
        have d2 : ((e2 : Int) != 0) = true := by simp; omega
        clear HRR hend hrow he2 hse hq h34 hij
        go_wp2_with (go_at_call 72; refine (k72 _).mono ?_; rintro x w2 ⟨rfl, rfl⟩)
        exact bodyPost_ret (v := .tuple #[.string ⟨#[]⟩, .int .i64 (j : Int), .int .i64 (e2 : Int)]) (by simp [results, Tryd.results55, go_sem]) rfl ⟨rfl, hb⟩
      subst he2
      have hn : endAt t [34] 34 (headAt (fun x => x.2) 1 pre) (headE 0 pre) = none := by
        rw [hhd.out, headE_zero]; unfold endAt
        rw [if_neg (by omega), hse, if_neg (by simp), ← hq, if_pos rfl]
      have HCH := Lib.hid (hch.out.snoc (x := (a, j)) hn (by rw [hhd.out]; exact hq.symm))
      have hij' := hij rfl
      have k72' : ∀ w, Calls Tryd.prog 72 #[.string t, .int .i64 (p : Int), .string ⟨#[34, 92]⟩] w fun x w' => x = .returned (.tuple #[.int .u8 (a : Int), .int .i64 (j : Int), .int .i64 0]) ∧ w = w' := k72
      clear hn hse hq h34 hij k72
      go_wp2_with (first | (go_at_call 72; refine (k72' _).mono ?_; rintro x w2 ⟨rfl, rfl⟩) | (refine wpList_push rfl _ _ 41 rfl w.heap.size 5 (.int .u8 0) 1 Tryd.underlying41 Tryd.info5 rfl _ _ _ rfl hrow (nb a) rfl rfl (by omega) (by omega) hb.size ?_; intro v' w3 hown3 hb3 hnil))
      go_roundw
      case rel => exact ⟨pre ++ [(a, j)], j, rfl, hj, Lib.hid (headAt_snoc _ _ _ _), HCH, by simp; omega, by simpa using hown3, hb.trans hb3⟩
      case measure => simp [intOf]; omega
end Go.Proofs.YtakcckdnliiieaaDoor
