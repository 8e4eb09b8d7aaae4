/- awake: the laws' examples. -/
import Derived.Test.YtbgmjlonbbmffaaDoorL15
import Derived.Test.YtbgmjlonbbmffaaDoorL16
namespace Go.Proofs.YtbgmjlonbbmffaaDoor
open Go Go.RowKit
attribute [local go_sem] Oper.quietAt Oper.quietUpon
theorem Lies.tr {a b c : World} (h : Lies a b) (k : Lies b c) : Lies a c := Lies.below k h.size h
theorem enc_nil : encP [] = ([0], 0) := by simp [encP, encL, vb_small]
theorem vb300 : vb 300 = [172, 2] := by rw [vb_great (by omega), vb_small (by omega)]
theorem enc_some : encP someI = ([2, 0, 2, 1, 172, 2, 2, 1, 0, 0], 0) := by
  have hm : someI.all mayB = true := by decide
  unfold encP
  rw [if_neg (by decide), if_pos hm]
  simp [encL, someI, encB, vbs, vb_small, vb300]
theorem dig_small {n : Nat} (h : n < 10) : Lib.itoa (n : Int) = [UInt8.ofNat (48 + n)] := by
  unfold Lib.itoa
  rw [if_neg (by omega), Int.toNat_natCast, Lib.decDigits_one h]
theorem dig300 : Lib.itoa 300 = [51, 48, 48] := by
  unfold Lib.itoa
  rw [if_neg (by omega), show (300 : Int).toNat = 300 from rfl, Lib.decDigits, dif_neg (by omega), show 300 / 10 = 30 from rfl, Lib.decDigits, dif_neg (by omega), show 30 / 10 = 3 from rfl, Lib.decDigits_one (by omega)]
  rfl
theorem show_some : showP ⟨false, ⟨2, 1, 300, [1, 0], 0⟩⟩ = [50, 46, 49, 32, 51, 48, 48, 47, 49, 47, 48, 32, 64, 48] := by
  have hm : mayB ⟨false, ⟨2, 1, 300, [1, 0], 0⟩⟩ = true := by decide
  have e0 := @dig_small 0 (by omega)
  have e1 := @dig_small 1 (by omega)
  have e2 := @dig_small 2 (by omega)
  have e3 := dig300
  simp at e0 e1 e2
  unfold showP
  rw [if_pos hm]
  simp [showB, pathS, e0, e1, e2, e3]
theorem some_two {w : World} {F : Nat → Prop} {v : Value} (h : ItemsAt w F v someI) : ∃ b off cap oa c, v = .slice (some ⟨b, off, none⟩) 2 cap ∧ b < w.heap.size ∧ IntsAt w F (.slice oa 2 c) [1, 0] ∧ w.cell? ⟨b, off + 6, none⟩ = some (.bool false) ∧ w.cell? ⟨b, off + 6 + 1, none⟩ = some (.int .u8 2) ∧
    w.cell? ⟨b, off + 6 + 2, none⟩ = some (.int .u8 1) ∧ w.cell? ⟨b, off + 6 + 3, none⟩ = some (.int .i64 300) ∧ w.cell? ⟨b, off + 6 + 4, none⟩ = some (.slice oa 2 c) ∧ w.cell? ⟨b, off + 6 + 5, none⟩ = some (.int .i64 0) := by
  obtain ⟨b, off, cap, pv, hv, _, hb, hp, _, c0, c1, c2, c3, c4, c5⟩ := h.cell (i := 1) (by decide)
  obtain ⟨oa, c, hpv⟩ := hp.slice
  rw [hpv] at hp c4
  exact ⟨b, off, cap, oa, c, hv, hb, hp, c0, c1, c2, c3, c4, c5⟩
theorem wrong1 : wrongP ⟨#[128, 0]⟩ = 4 := by decide +kernel
theorem wrong2 : wrongP ⟨#[1]⟩ = 8 := by decide +kernel
theorem wrong3 : wrongP ⟨#[0, 0]⟩ = 10 := by decide +kernel
set_option maxRecDepth 100000 in
set_option maxHeartbeats 1500000 in
theorem awake_any {w : World} (hT : Tab w) : Calls Tryd.prog 8 #[] w (Ret (.bool true) w) := by
  have k1 : ∀ W, Calls Tryd.prog 9 #[.slice none 0 0] W (Ret (.tuple #[.string ⟨#[0]⟩, .int .i64 0]) W) := fun W => by
    have := encode_any (w := W) (F := fun _ => False) (items_nil W _) (fun b hb => hb.elim)
    rw [enc_nil] at this
    exact this
  have k2 : ∀ W F v, ItemsAt W F v someI → (∀ b, F b → b < W.heap.size) → Calls Tryd.prog 9 #[v] W (Ret (.tuple #[.string ⟨#[2, 0, 2, 1, 172, 2, 2, 1, 0, 0]⟩, .int .i64 0]) W) := fun W F v h hF => by
    have := encode_any h hF
    rw [enc_some] at this
    exact this
  have w1 : ∀ W, Calls Tryd.prog 11 #[.string ⟨#[128, 0]⟩] W (Ret (.int .i64 4) W) := fun W => by
    have := wrong_any (w := W) (t := ⟨#[128, 0]⟩) (by decide)
    rwa [wrong1] at this
  have w2 : ∀ W, Calls Tryd.prog 11 #[.string ⟨#[1]⟩] W (Ret (.int .i64 8) W) := fun W => by
    have := wrong_any (w := W) (t := ⟨#[1]⟩) (by decide)
    rwa [wrong2] at this
  have w3 : ∀ W, Calls Tryd.prog 11 #[.string ⟨#[0, 0]⟩] W (Ret (.int .i64 10) W) := fun W => by
    have := wrong_any (w := W) (t := ⟨#[0, 0]⟩) (by decide)
    rwa [wrong3] at this
  have HT := Lib.hid hT
  clear hT
  go_enter Tryd.func8, Tryd.ntmps8
  go_upto_region 2 with (go_at_call 9; refine (k1 _).mono ?_; rintro e W1 ⟨rfl, hl1⟩)
  go_upto_region 3 with (first | (go_at_call 25; refine some_any.mono ?_; rintro e W2 ⟨v, rfl, hI2, hl2⟩) | (go_at_call 9; refine (k2 _ _ _ hI2 (fun b hb => hb.2)).mono ?_; rintro e W3 ⟨rfl, hl3⟩))
  have h3 : Lies w W3 := Lies.below hl3 (Nat.le_trans hl1.size hl2.size) (Lies.below hl2 hl1.size hl1)
  clear hl1 hl2 hl3 hI2 k1 k2
  have k18 : ∀ (W : World) F oa c, IntsAt W F (.slice oa 2 c) [1, 0] → (∀ b, F b → b < W.heap.size) → Tab W → Calls Tryd.prog 18 #[.agg #[.bool false, .int .u8 2, .int .u8 1, .int .i64 300, .slice oa 2 c, .int .i64 0]] W (Ret (.string ⟨#[50, 46, 49, 32, 51, 48, 48, 47, 49, 47, 48, 32, 64, 48]⟩) W) := fun W F oa c h hF hT => by
    have := show_any (x := ⟨false, ⟨2, 1, 300, [1, 0], 0⟩⟩) (w := W) (F := F) h (by constructor <;> decide) hF hT
    rwa [show_some] at this
  go_wp2_with (first | (go_at_call 25; refine some_any.mono ?_; rintro e W4 ⟨v4, rfl, hI4, hl4⟩; obtain ⟨b4, f4, cp4, oa4, c4, hv4, hb4, hp4, a0, a1, a2, a3, a4, a5⟩ := some_two hI4; subst hv4) | (go_at_call 18; refine (k18 _ _ _ _ hp4 (fun b hb => hb.2) (HT.out.lies (Lies.below hl4 h3.size h3))).mono ?_; rintro e W5 ⟨rfl, hl5⟩) | (go_at_call 11; first | (with_reducible refine (w1 _).mono ?_) | (with_reducible refine (w2 _).mono ?_) | (with_reducible refine (w3 _).mono ?_)); (rintro e W6 ⟨rfl, hl6⟩))
  rename_i Wa hla Wb hlb
  go_ret
  exact ⟨rfl, ((((h3.tr hl4).tr hl5).tr hla).tr hlb).tr hl6⟩
end Go.Proofs.YtbgmjlonbbmffaaDoor
