import Derived.Test.YtakcckdnliiieaaDoorSet4
import Derived.Lib.TrailingZeros
namespace Go.Proofs.YtakcckdnliiieaaDoor
open Go Go.RowKit
attribute [local go_sem] Oper.quietAt Oper.quietUpon
/-- The library's table lies where the program has laid it. -/
def Env (w : World) : Prop := 0 < w.heap.size ∧ ∀ i, i < 64 → w.cell? ⟨0, i, none⟩ = some (.int .u8 (Lib.deBruijn64tab.getD i 0 : Nat))
theorem Env.below {w w' : World} (h : Env w) {B : Nat} (hb : Below B w w') (hB : 0 < B) : Env w' :=
  ⟨Nat.lt_of_lt_of_le h.1 hb.size, fun i hi => (hb.cell (p := ⟨0, i, none⟩) hB).trans (h.2 i hi)⟩
theorem Env.lies {w w' : World} (h : Env w) (hb : Lies w w') : Env w' := h.below hb h.1
theorem Env.alloc {w : World} (h : Env w) (o : Obj) : Env (w.alloc o) := h.below ((Below.refl _ _).alloc (Nat.le_refl _) o) h.1
theorem Env.drew {w : World} (h : Env w) : Env w.drew := h
/-- The lowest bit's number. -/
def ctzW (x : BitVec 64) : Nat := Lib.ctz 64 x.toNat
theorem ctzW_spec (x : BitVec 64) (hx : x ≠ 0) : x &&& -x = 1#64 <<< ctzW x ∧ ctzW x < 64 := by
  have h0 : x.toNat ≠ 0 := fun h => hx (BitVec.eq_of_toNat_eq (by simpa using h))
  obtain ⟨h1, h2⟩ := Lib.lowest_bit 64 x.toNat h0 x.isLt
  refine ⟨?_, h2⟩
  apply BitVec.eq_of_toNat_eq
  have hlt : 2 ^ ctzW x < 2 ^ 64 := Nat.pow_lt_pow_right (by omega) h2
  rw [BitVec.toNat_and, BitVec.toNat_neg, BitVec.toNat_shiftLeft, Nat.mod_eq_of_lt (show 2 ^ 64 - x.toNat < 2 ^ 64 by omega), h1]
  simp only [BitVec.toNat_ofNat]
  rw [Nat.shiftLeft_eq]
  show 2 ^ ctzW x = _
  rw [Nat.mod_eq_of_lt (show 1 < 2 ^ 64 by omega), Nat.one_mul, Nat.mod_eq_of_lt hlt]
theorem wrap_neg (x : BitVec 64) : IntKind.u64.wrap (-(tn x)) = tn (-x) := by
  rw [wrap_u64]
  unfold tn
  rw [BitVec.toNat_neg]
  have := x.isLt
  omega
theorem wrap_sub_one (x : BitVec 64) : IntKind.u64.wrap (tn x - 1) = tn (x - 1#64) := by
  rw [wrap_u64]
  unfold tn
  rw [BitVec.toNat_sub]
  have := x.isLt
  simp only [BitVec.toNat_ofNat]
  omega
theorem tn_beq_zero (x : BitVec 64) : (tn x == 0) = (x == 0#64) := by
  rw [show (0 : Int) = tn 0#64 from rfl, Bool.eq_iff_iff]
  simp only [beq_iff_eq]
  exact ⟨tn_inj, fun h => by rw [h]⟩
theorem tn_bne_zero (x : BitVec 64) : (tn x != 0) = (x != 0#64) := by rw [bne, bne, tn_beq_zero]
set_option maxHeartbeats 1000000 in
theorem tz_any (x : BitVec 64) (hx : x ≠ 0) (w : World) (he : Env w) :
    Calls Tryd.prog 75 #[.int .u64 (tn x)] w fun e w' => e = .returned (.int .i64 (ctzW x : Nat)) ∧ w = w' := by
  obtain ⟨h1, h2⟩ := ctzW_spec x hx
  obtain ⟨k, hk⟩ : ∃ k, k = ctzW x := ⟨_, rfl⟩
  rw [← hk] at h1 h2
  obtain ⟨h3, h4⟩ := Lib.deBruijn64_at k h2
  obtain ⟨j, hj⟩ : ∃ j, j = 2 ^ k * 285870213051353865 % 18446744073709551616 / 288230376151711744 := ⟨_, rfl⟩
  rw [← hj] at h3 h4
  have hc := he.2 j h3
  rw [h4] at hc
  have hz : (tn x == 0) = false := by rw [tn_beq_zero]; simpa using hx
  have hn := wrap_neg x
  have hm : IntKind.u64.wrap (tn (1#64 <<< k) * 285870213051353865) / 288230376151711744 = (j : Int) := by
    rw [wrap_u64, tn_shl k h2, hj]
    simp
  have hl : bits .and .u64 (tn x) (tn (-x)) = tn (1#64 <<< k) := by rw [bv_and, h1]
  rw [← hk]
  clear h1 h4 hk hj he hx
  go_enter Tryd.func75, Tryd.ntmps75
  go_wp2
  go_ret
  exact ⟨rfl, rfl⟩
end Go.Proofs.YtakcckdnliiieaaDoor
