/- quote's reader: sign. -/
import Derived.Test.YtakcckdnliiieaaDoorQ9
namespace Go.Proofs.YtakcckdnliiieaaDoor
open Go Go.RowKit Go.Maps
attribute [local go_sem] Oper.quietAt Oper.quietUpon
/-- A sign at a place: the byte, the place behind it, no error; or where an error stands. -/
def signP (t : ByteArray) (L : List UInt8) (i : Nat) : Nat × Nat × Nat :=
  match byteAt t i with
  | none => (0, t.size, 8)
  | some b => if b = 92 then
      match byteAt t (i + 1) with
      | none => (0, t.size, 8)
      | some c => match meant L c with
        | some m => (m, i + 2, 0)
        | none => if c = 120 then hexP t (i + 2) else (0, i + 1, 4)
    else if pl L b then (b, i + 1, 0) else (0, i, 4)
theorem EscAt.grown {w w' : World} {mb g : Nat} {L : List UInt8} (h : EscAt w mb L) (hg : w.grownBy w' (some g)) (hne : mb ≠ g) : EscAt w' mb L := World.ownsMap.kept h hg (by simpa using hne)
theorem EscAt.lies {w w' : World} {mb : Nat} {L : List UInt8} (h : EscAt w mb L) (hw : Lies w w') : EscAt w' mb L := World.ownsMap.kept h (grown_lies hw none) (by simp)
theorem wpList_lookup_esc {ops : Array Oper} {rest : List Oper} {o : Oper} {a : Act} {Q : Exit → Act → World → Prop} {w : World} (hg : o.guard = none) (m x : Operand) (hop : o.op = Op.lookup 82 m x true) {mb : Nat} {L : List UInt8} (hE : EscAt w mb L)
    (hm : a.eval m = .map (some mb)) (n : Nat) (hn : n < 256) (hx : a.eval x = .int .u8 (n : Int)) (v : Nat) (ok : Bool) (hv : (meant L n).getD 0 = v) (ho : (meant L n).isSome = ok)
    (hK : wpList Tryd.prog ops Q rest (a.put o.dst (.tuple #[.int .u8 (v : Int), .bool ok])) w) : wpList Tryd.prog ops Q (o :: rest) a w := by
  refine wpList_lookup_own_ok_int _ hg m x 82 hop 5 5 .u8 byteLaw Tryd.underlying82 Tryd.underlying5 (zero5 _) mb _ _ hm hE _ _ hx (keyOf_int_mk Tryd.underlying5 (wf_byte hn)) ?_
  intro c hat hwc
  obtain ⟨h1, h2⟩ := look_esc L n hn
  have e1 : c = (v : Int) := by
    have := hat.symm.trans h2
    rw [hv] at this
    simpa [kb] using this
  rw [e1]
  have e2 : Maps.has (escD L) (.int .u8 (n : Int)) = ok := h1.trans ho
  rw [e2]
  exact hK
set_option maxRecDepth 100000 in
set_option maxHeartbeats 2000000 in
theorem sign_rd {t L : ByteArray} {en mb i g : Nat} {w : World} (ht : t.size ≤ 1000000000) (hi : i ≤ t.size) (hL : L.size ≤ 1000) (hB : Blk w g 84 (rdr t L en mb i 0)) (hE : EscAt w mb L.data.toList) (hne : mb ≠ g) :
    Calls Tryd.prog 83 #[.pointer (some ⟨g, 0, none⟩)] w fun x w' => x = .returned (.tuple #[.int .u8 ((signP t L.data.toList i).1 : Int), .bool ((signP t L.data.toList i).2.2 == 0)]) ∧ Blk w' g 84 (rdr t L en mb (signP t L.data.toList i).2.1 (signP t L.data.toList i).2.2) ∧ w.grownBy w' (some g) := by
  obtain ⟨r, hr⟩ : ∃ r, r = signP t L.data.toList i := ⟨_, rfl⟩
  rw [← hr]
  unfold signP at hr
  by_cases hlen : i < t.size
  case neg =>
    have m1 := next_no ht hB (by omega)
    rw [byteAt_ge (by omega)] at hr
    simp only at hr
    subst hr
    go_enter Tryd.func83, Tryd.ntmps83
    go_wp2_with (go_at_call 81; refine m1.mono ?_; rintro e w2 ⟨rfl, hB2, hg2⟩)
    go_ret2
    exact ⟨rfl, hB2, hg2⟩
  have m1 := next_yes ht hB hlen
  rw [byteAt_lt hlen] at hr
  simp only at hr
  obtain ⟨b, hb⟩ : ∃ b, b = t[i].toNat := ⟨_, rfl⟩
  have hb256 : b < 256 := by rw [hb]; exact t[i].toNat_lt
  rw [← hb] at m1 hr
  clear hb
  by_cases h92 : b = 92
  case neg =>
    rw [if_neg h92] at hr
    have d1 : ((b : Int) != 92) = true := by simp; omega
    have k1 := fun w => plain_any b L w hb256
    cases hp : pl L.data.toList b
    · rw [hp] at hr
      simp only [Bool.false_eq_true, if_false] at hr
      simp only [hp] at k1
      subst hr
      clear hp h92
      go_enter Tryd.func83, Tryd.ntmps83
      go_upto_region 4 with (go_at_call 81; refine m1.mono ?_; rintro e w2 ⟨rfl, hB2, hg2⟩)
      clear m1 hB hE
      have c1 : w2.cell? ⟨g, 1, none⟩ = some (.string L) := hB2.cell 1
      have c4 : w2.cell? ⟨g, 4, none⟩ = some (.int .i64 ((i : Int) + 1)) := hB2.cell 4
      have m2 := @fail_any t L en mb (i + 1) 0 g i w2 hB2
      go_wp2_with (first | (go_at_call 77; refine (k1 _).mono ?_; rintro e w3 ⟨rfl, rfl⟩) | (go_at_call 71; refine m2.mono ?_; rintro e w4 ⟨rfl, hB4, hg4⟩))
      go_ret2
      exact ⟨rfl, hB4, grownBy_trans hg2 hg4⟩
    · rw [hp] at hr
      simp only [if_true] at hr
      simp only [hp] at k1
      subst hr
      clear hp h92
      go_enter Tryd.func83, Tryd.ntmps83
      go_upto_region 4 with (go_at_call 81; refine m1.mono ?_; rintro e w2 ⟨rfl, hB2, hg2⟩)
      clear m1 hB hE
      have c1 : w2.cell? ⟨g, 1, none⟩ = some (.string L) := hB2.cell 1
      go_wp2_with (go_at_call 77; refine (k1 _).mono ?_; rintro e w3 ⟨rfl, rfl⟩)
      go_ret2
      exact ⟨rfl, hB2, hg2⟩
  rw [if_pos h92] at hr
  subst h92
  by_cases hlen2 : i + 1 < t.size
  case neg =>
    rw [byteAt_ge (by omega)] at hr
    simp only at hr
    subst hr
    go_enter Tryd.func83, Tryd.ntmps83
    go_upto_region 9 with (go_at_call 81; refine m1.mono ?_; rintro e w2 ⟨rfl, hB2, hg2⟩)
    have m2 := next_no ht hB2 (by omega)
    clear m1 hB hE
    go_wp2_with (go_at_call 81; refine m2.mono ?_; rintro e w3 ⟨rfl, hB3, hg3⟩)
    go_ret2
    exact ⟨rfl, hB3, grownBy_trans hg2 hg3⟩
  rw [byteAt_lt hlen2] at hr
  simp only at hr
  have m2 := fun w h => @next_yes t L en mb (i + 1) 0 g w ht h hlen2
  obtain ⟨c, hc⟩ : ∃ c, c = t[i + 1].toNat := ⟨_, rfl⟩
  have hc256 : c < 256 := by rw [hc]; exact t[i + 1].toNat_lt
  rw [← hc] at m2 hr
  clear hc
  have M2 := Lib.hid m2
  clear m2
  cases hm : meant L.data.toList c with
  | some m =>
    rw [hm] at hr
    simp only at hr
    subst hr
    have hm1 : (meant L.data.toList c).getD 0 = m := by rw [hm]; rfl
    have hm2 : (meant L.data.toList c).isSome = true := by rw [hm]; rfl
    have HM1 := Lib.hid hm1
    have HM2 := Lib.hid hm2
    clear hm hm1 hm2
    go_enter Tryd.func83, Tryd.ntmps83
    go_upto_region 9 with (go_at_call 81; refine m1.mono ?_; rintro e w2 ⟨rfl, hB2, hg2⟩)
    have m2 := M2.out w2 hB2
    have hE2 := hE.grown hg2 hne
    clear m1 hB hE M2
    go_upto_region 12 with (go_at_call 81; refine m2.mono ?_; rintro e w3 ⟨rfl, hB3, hg3⟩)
    have hE3 := hE2.grown hg3 hne
    have c3 : w3.cell? ⟨g, 3, none⟩ = some (.map (some mb)) := hB3.cell 3
    clear m2
    go_wp2_with (refine wpList_lookup_esc rfl _ _ rfl hE3 rfl c hc256 rfl m true HM1.out HM2.out ?_)
    go_ret2
    exact ⟨rfl, hB3, grownBy_trans hg2 hg3⟩
  | none =>
    rw [hm] at hr
    simp only at hr
    have hm1 : (meant L.data.toList c).getD 0 = 0 := by rw [hm]; rfl
    have hm2 : (meant L.data.toList c).isSome = false := by rw [hm]; rfl
    have HM1 := Lib.hid hm1
    have HM2 := Lib.hid hm2
    clear hm hm1 hm2
    by_cases hx : c = 120
    · rw [if_pos hx] at hr
      subst hx
      have HR := Lib.hid hr
      clear hr
      go_enter Tryd.func83, Tryd.ntmps83
      go_upto_region 9 with (go_at_call 81; refine m1.mono ?_; rintro e w2 ⟨rfl, hB2, hg2⟩)
      have m2 := M2.out w2 hB2
      have hE2 := hE.grown hg2 hne
      clear m1 hB hE M2
      go_upto_region 12 with (go_at_call 81; refine m2.mono ?_; rintro e w3 ⟨rfl, hB3, hg3⟩)
      have hE3 := hE2.grown hg3 hne
      have c3 : w3.cell? ⟨g, 3, none⟩ = some (.map (some mb)) := hB3.cell 3
      have m3 := hex_any ht (by omega) hB3
      rw [← HR.out] at m3
      clear m2
      go_wp2_with (first | (go_at_call 89; refine m3.mono ?_; rintro e w4 ⟨rfl, hB4, hg4⟩) | (refine wpList_lookup_esc rfl _ _ rfl hE3 rfl 120 hc256 rfl 0 false HM1.out HM2.out ?_))
      go_ret2
      exact ⟨rfl, hB4, grownBy_trans (grownBy_trans hg2 hg3) hg4⟩
    · rw [if_neg hx] at hr
      subst hr
      have d2 : ((c : Int) != 120) = true := by simp; omega
      clear hx
      go_enter Tryd.func83, Tryd.ntmps83
      go_upto_region 9 with (go_at_call 81; refine m1.mono ?_; rintro e w2 ⟨rfl, hB2, hg2⟩)
      have m2 := M2.out w2 hB2
      have hE2 := hE.grown hg2 hne
      clear m1 hB hE M2
      go_upto_region 12 with (go_at_call 81; refine m2.mono ?_; rintro e w3 ⟨rfl, hB3, hg3⟩)
      have hE3 := hE2.grown hg3 hne
      have c3 : w3.cell? ⟨g, 3, none⟩ = some (.map (some mb)) := hB3.cell 3
      have c4 : w3.cell? ⟨g, 4, none⟩ = some (.int .i64 ((i : Int) + 1 + 1)) := hB3.cell 4
      have m3 : Calls Tryd.prog 71 #[.pointer (some ⟨g, 0, none⟩), .int .i64 ((i : Int) + 1)] w3 fun x w' => x = .returned (.tuple #[]) ∧ Blk w' g 84 (rdr t L en mb (i + 1) 4) ∧ w3.grownBy w' (some g) := @fail_any t L en mb (i + 1 + 1) 0 g (i + 1) w3 hB3
      clear m2
      go_wp2_with (first | (go_at_call 71; refine m3.mono ?_; rintro e w4 ⟨rfl, hB4, hg4⟩) | (refine wpList_lookup_esc rfl _ _ rfl hE3 rfl c hc256 rfl 0 false HM1.out HM2.out ?_))
      go_ret2
      exact ⟨rfl, hB4, grownBy_trans (grownBy_trans hg2 hg3) hg4⟩
end Go.Proofs.YtakcckdnliiieaaDoor
