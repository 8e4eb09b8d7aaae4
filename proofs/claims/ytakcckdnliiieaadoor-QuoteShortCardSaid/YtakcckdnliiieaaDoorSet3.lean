/- Len and what leans on it; the reference's List. -/
import Derived.Test.YtakcckdnliiieaaDoorSet2
import Derived.Test.YtakcckdnliiieaaDoorOwn
import Derived.Test.YtakcckdnliiieaaDoorPop
namespace Go.Proofs.YtakcckdnliiieaaDoor
open Go Go.RowKit
attribute [local go_sem] Oper.quietAt Oper.quietUpon
theorem Tryd.info5 : (Tryd.prog.info? 5).map (fun i => (i.zero, i.size, i.bytes)) = some (some (.int .u8 0), 1, 1) := by kernel_rfl
theorem BS.bytes_eq (s : BS) : (s.upTo 256).map UInt8.ofNat = s.bytes := rfl
set_option maxRecDepth 100000 in
set_option maxHeartbeats 2000000 in
theorem refList_any (s : BS) (w : World) :
    Calls Tryd.prog 27 #[.agg s.cells] w (Ret (strV s.bytes) w) := by
  have hX0 := Blk.new w 24 s.cells
  go_enter Tryd.func27, Tryd.ntmps27
  go_wp2_with fail
  go_loopw [3, 4] (fun v i wr => ∃ k : Nat, k ≤ 256 ∧ i = .int .i64 (k : Int) ∧ Below w.heap.size w wr ∧ Blk wr w.heap.size 24 s.cells ∧ wr.ownsRow (w.heap.size + 1) 5 1 v (s.upTo k).length ((s.upTo k).map nb)) (fun _ i _ => 256 - (intOf i).toNat)
  case atStart => exact ⟨0, by omega, rfl, by (repeat' first | exact Below.refl _ _ | assumption | refine Below.alloc ?_ (by simp <;> omega) _ | refine Below.setCell ?_ (by simp <;> omega) _ | refine Below.drew ?_), hX0, World.ownsRow_nil _ _ _ _⟩
  clear hX0
  case round =>
    obtain ⟨k, hk, rfl, hb', hX, hown⟩ := hrel
    have hlen := BS.upTo_len_le s k
    by_cases hlt : k < 256
    · have hcX := hX.cell
      have hlX := hX.lt
      cases h1 : s.has k
      · go_wp2_with (go_at_call 23; refine (refHas_eq _ _ _ (by omega) h1).mono ?_; rintro e w2 ⟨rfl, hw2⟩)
        go_roundw
        case rel => exact ⟨k + 1, by omega, by go_num, Lies.below hw2 hb'.size hb', hX.lies hw2, by rw [BS.upTo_succ, h1]; simpa using ownsRow_lies hown hw2⟩
        case measure => simp [intOf]; omega
      · go_wp2_with (first | (go_at_call 23; refine (refHas_eq _ _ _ (by omega) h1).mono ?_; rintro e w2 ⟨rfl, hw2⟩; have hX2 := hX.lies hw2; have hb2 := Lies.below hw2 hb'.size hb'; have hown2 := ownsRow_lies hown hw2; have hl2 := hX2.lt) | (at_builtin; refine wpList_push rfl _ _ 41 rfl (w.heap.size + 1) 5 (.int .u8 0) 1 Tryd.underlying41 Tryd.info5 rfl _ _ _ rfl hown2 (nb k) rfl rfl (by omega) (by omega) (by omega) ?_; intro v3 w3 hown3 hb3 _))
        go_roundw
        case rel => exact ⟨k + 1, by omega, by go_num, hb2.trans (hb3.mono (by omega)), hX2.below hb3 (by omega), by rw [BS.upTo_succ, h1]; simpa using hown3⟩
        case measure => simp [intOf]; omega
    · obtain rfl : k = 256 := by omega
      have hcv := run_convert_own (P := Tryd.prog) (s.upTo 256) Tryd.underlying41 Tryd.underlying5 Tryd.underlying9 hown
      go_wp2
      go_ret
      exact ⟨rfl, hb'⟩
theorem tn_div (x : BitVec 64) (k m : Nat) (h : m = 2 ^ k) : tn x / (m : Int) = tn (x >>> k) := by
  rw [← bv_shr, h, Int.natCast_pow]; rfl
theorem bv_and_lit (x : BitVec 64) (m : Nat) (h : m < 18446744073709551616) : bits .and .u64 (tn x) (m : Int) = tn (x &&& BitVec.ofNat 64 m) := by
  rw [← bv_and, tn_ofNat m h]
theorem bv_i64_low (y : BitVec 64) : bits .and .i64 (IntKind.i64.wrap (tn y)) 127 = ((y.toNat % 128 : Nat) : Int) := by
  have h : BitVec.ofInt 64 (IntKind.i64.wrap (tn y)) = y := by
    apply BitVec.eq_of_toInt_eq
    rw [BitVec.toInt_ofInt, IntKind.wrap_i64]
    unfold tn
    rw [BitVec.toInt_eq_toNat_bmod]
    simp only [Int.bmod_def]
    have := y.isLt
    omega
  show IntKind.i64.wrap (((BitVec.ofInt 64 (IntKind.i64.wrap (tn y))) &&& (BitVec.ofInt 64 127)).toNat : Int) = _
  rw [h, show BitVec.ofInt 64 127 = BitVec.ofNat 64 127 from rfl, BitVec.toNat_and, show (BitVec.ofNat 64 127).toNat = 2 ^ 7 - 1 from rfl, Nat.and_two_pow_sub_one_eq_mod, IntKind.wrap_i64]
  omega
theorem wrap64_i64 (n : Int) : IntKind.i64.wrap n = wrap64 n := by rw [IntKind.wrap_i64]; unfold wrap64; rfl
def onesV (x : BitVec 64) : BitVec 64 :=
  let a := (x >>> 1 &&& 6148914691236517205#64) + (x &&& 6148914691236517205#64)
  let b := (a >>> 2 &&& 3689348814741910323#64) + (a &&& 3689348814741910323#64)
  let c := (b >>> 4 + b) &&& 1085102592571150095#64
  let d := c + c >>> 8
  let e := d + d >>> 16
  e + e >>> 32
theorem onesV_eq (x : BitVec 64) : (onesV x).toNat % 128 = popW x := by
  rw [← popW_eq]
  unfold onesV onesOf
  dsimp only
  have hm : ∀ (y : BitVec 64) (m : Nat), m < 2 ^ 64 → (y &&& BitVec.ofNat 64 m).toNat = y.toNat &&& m := by
    intro y m hm
    rw [BitVec.toNat_and, BitVec.toNat_ofNat, Nat.mod_eq_of_lt hm]
  have hs : ∀ (y : BitVec 64) (k : Nat), (y >>> k).toNat = y.toNat / 2 ^ k := by
    intro y k
    rw [BitVec.toNat_ushiftRight, Nat.shiftRight_eq_div_pow]
  have e1 : ((x >>> 1 &&& 6148914691236517205#64) + (x &&& 6148914691236517205#64)).toNat = (x.toNat / 2 ^ 1 &&& 0x5555555555555555) + (x.toNat &&& 0x5555555555555555) := by
    rw [BitVec.toNat_add, hm _ _ (by decide), hm _ _ (by decide), hs]
    have h1 : x.toNat / 2 ^ 1 &&& 6148914691236517205 ≤ 6148914691236517205 := Nat.and_le_right
    have h2 : x.toNat &&& 6148914691236517205 ≤ 6148914691236517205 := Nat.and_le_right
    exact Nat.mod_eq_of_lt (by omega)
  generalize (x >>> 1 &&& 6148914691236517205#64) + (x &&& 6148914691236517205#64) = A at *
  have e2 : ((A >>> 2 &&& 3689348814741910323#64) + (A &&& 3689348814741910323#64)).toNat = (A.toNat / 2 ^ 2 &&& 0x3333333333333333) + (A.toNat &&& 0x3333333333333333) := by
    rw [BitVec.toNat_add, hm _ _ (by decide), hm _ _ (by decide), hs]
    have h1 : A.toNat / 2 ^ 2 &&& 3689348814741910323 ≤ 3689348814741910323 := Nat.and_le_right
    have h2 : A.toNat &&& 3689348814741910323 ≤ 3689348814741910323 := Nat.and_le_right
    exact Nat.mod_eq_of_lt (by omega)
  have hB : ((A >>> 2 &&& 3689348814741910323#64) + (A &&& 3689348814741910323#64)).toNat ≤ 2 * 3689348814741910323 := by
    rw [e2]
    have h1 : A.toNat / 2 ^ 2 &&& 3689348814741910323 ≤ 3689348814741910323 := Nat.and_le_right
    have h2 : A.toNat &&& 3689348814741910323 ≤ 3689348814741910323 := Nat.and_le_right
    omega
  rw [e1] at e2
  generalize (A >>> 2 &&& 3689348814741910323#64) + (A &&& 3689348814741910323#64) = B at *
  have e3 : ((B >>> 4 + B) &&& 1085102592571150095#64).toNat = (B.toNat / 2 ^ 4 + B.toNat) &&& 0x0f0f0f0f0f0f0f0f := by
    rw [hm _ _ (by decide), BitVec.toNat_add, hs]
    congr 1
    exact Nat.mod_eq_of_lt (by omega)
  have hC : ((B >>> 4 + B) &&& 1085102592571150095#64).toNat ≤ 1085102592571150095 := by
    rw [e3]; exact Nat.and_le_right
  rw [e2] at e3
  generalize (B >>> 4 + B) &&& 1085102592571150095#64 = C at *
  rw [← e3]
  have e4 : (C + C >>> 8).toNat = C.toNat + C.toNat / 2 ^ 8 := by
    rw [BitVec.toNat_add, hs]; exact Nat.mod_eq_of_lt (by omega)
  have e5 : (C + C >>> 8 + (C + C >>> 8) >>> 16).toNat = C.toNat + C.toNat / 2 ^ 8 + (C.toNat + C.toNat / 2 ^ 8) / 2 ^ 16 := by
    rw [BitVec.toNat_add, hs, e4]; exact Nat.mod_eq_of_lt (by omega)
  rw [BitVec.toNat_add, hs, e5]
  rw [Nat.mod_mod_of_dvd _ (by decide)]
set_option maxHeartbeats 1000000 in
theorem ones_any (x : BitVec 64) (w : World) :
    Calls Tryd.prog 62 #[.int .u64 (tn x)] w fun e w' => e = .returned (.int .i64 (popW x : Int)) ∧ w = w' := by
  have d1 := fun y => tn_div y 1 2 rfl
  have d2 := fun y => tn_div y 2 4 rfl
  have d4 := fun y => tn_div y 4 16 rfl
  have d8 := fun y => tn_div y 8 256 rfl
  have d16 := fun y => tn_div y 16 65536 rfl
  have d32 := fun y => tn_div y 32 4294967296 rfl
  have m1 := fun y => bv_and_lit y 6148914691236517205 (by omega)
  have m2 := fun y => bv_and_lit y 3689348814741910323 (by omega)
  have m4 := fun y => bv_and_lit y 1085102592571150095 (by omega)
  simp only [Int.cast_ofNat_Int] at d1 d2 d4 d8 d16 d32 m1 m2 m4
  go_enter Tryd.func62, Tryd.ntmps62
  go_wp2
  go_ret
  refine ⟨?_, rfl⟩
  rw [← onesV_eq]
  refine congrArg (fun n => Ending.returned (.int .i64 n)) ?_
  exact (by rw [← wrap64_i64]; exact bv_i64_low (onesV x) : bits .and .i64 (wrap64 (tn (onesV x))) 127 = ((onesV x).toNat % 128 : Nat))
set_option maxHeartbeats 1000000 in
theorem len_any (s : BS) (w : World) :
    Calls Tryd.prog 24 #[.agg s.cells] w (Ret (.int .i64 (s.len : Int)) w) := by
  have h0 := popW_le s.w0
  have h1 := popW_le s.w1
  have h2 := popW_le s.w2
  have h3 := popW_le s.w3
  go_enter Tryd.func24, Tryd.ntmps24
  go_wp2_with fail
  refine wp_loop_rounds 5 ?_
  iterate 5 (rw [rounds_succ]; go_wp2_with (go_at_call 62; refine (ones_any _ _).mono ?_; rintro e w2 ⟨rfl, rfl⟩))
  go_ret
  refine ⟨?_, by (repeat' first | exact Below.refl _ _ | assumption | refine Below.alloc ?_ (by simp <;> omega) _ | refine Below.setCell ?_ (by simp <;> omega) _ | refine Below.drew ?_)⟩
  rw [BS.len_pop]
  rfl
theorem BS.len_zero {s : BS} (h : s.len = 0) : s = BS.zero := by
  apply BS.list_inj
  unfold BS.len at h
  rw [List.eq_nil_of_length_eq_zero h]
  decide +kernel
theorem BS.zero_len : BS.zero.len = 0 := by decide +kernel
theorem BS.bytes_length (s : BS) : s.bytes.length = s.len := by simp [BS.bytes, BS.len]
set_option maxHeartbeats 1000000 in
theorem refLen_any (s : BS) (w : World) :
    Calls Tryd.prog 25 #[.agg s.cells] w (Ret (.int .i64 (s.len : Int)) w) := by
  have hsz : (⟨s.bytes.toArray⟩ : ByteArray).size = s.len := by show s.bytes.toArray.size = _; simp [BS.bytes_length]
  go_enter Tryd.func25, Tryd.ntmps25
  go_wp2_with (go_at_call 27; refine (refList_any _ _).mono ?_; rintro e w2 ⟨rfl, hw2⟩; unfold strV)
  go_ret
  refine ⟨?_, Lies.below hw2 (by simp) (by (repeat' first | exact Below.refl _ _ | assumption | refine Below.alloc ?_ (by simp <;> omega) _ | refine Below.setCell ?_ (by simp <;> omega) _ | refine Below.drew ?_))⟩
  rw [← hsz]; rfl
theorem BS.minus_empty (s t : BS) : (s.minus t).len = 0 ↔ s.and t = s := by
  constructor
  · intro h
    have hz := BS.len_zero h
    refine BS.ext_has fun n hn => ?_
    have := BS.has_minus s t n
    rw [hz, BS.has_zero] at this
    rw [BS.has_and]
    cases h1 : s.has n <;> cases h2 : t.has n <;> simp_all
  · intro h
    have : s.minus t = BS.zero := BS.ext_has fun n hn => by
      have h1 := BS.has_and s t n
      rw [h] at h1
      rw [BS.has_minus, BS.has_zero]
      cases h1' : s.has n <;> cases h2 : t.has n <;> simp_all
    rw [this, BS.zero_len]
set_option maxHeartbeats 1000000 in
theorem refSubset_any (s t : BS) (w : World) :
    Calls Tryd.prog 43 #[.agg s.cells, .agg t.cells] w (Ret (.bool (decide (s.and t = s))) w) := by
  go_enter Tryd.func43, Tryd.ntmps43
  go_upto_region 1 with (fail)
  (refine wp_region_text_tail (C := Lies _) 6 (Lies.start _) ?_; simp only [List.take_succ_cons, List.take_zero, List.take_nil, List.drop_succ_cons, List.drop_zero, List.drop_nil]; (repeat (first | (refine quiet_skip rfl ?_; simp only [Act.put, List.setIfInBounds_toArray, List.set_cons_zero, List.set_cons_succ]) | (apply quiet_op _ rfl; (focus (intro w1 hw1; have hc1 := hw1.cells; go_simp; (try go_bits); (try (rw [if_pos (by omega)]; go_simp)); first | (go_at_call 41; with_reducible exact Calls.lies hw1 (refMinus_any _ _ _)) | (go_at_call 25; with_reducible exact Calls.lies hw1 (refLen_any _ _)) | (go_at_call 41; exact Calls.lies hw1 (refMinus_any _ _ _)) | (go_at_call 25; exact Calls.lies hw1 (refLen_any _ _)) | rfl)); simp only [Act.put, List.setIfInBounds_toArray, List.set_cons_zero, List.set_cons_succ]))); refine wpQuiet_nil ?_; intro w2 hw2)
  go_wp2
  go_ret
  refine ⟨?_, Lies.below hw2 (by simp <;> omega) (by (repeat' first | exact Below.refl _ _ | assumption | refine Below.alloc ?_ (by simp <;> omega) _ | refine Below.setCell ?_ (by simp <;> omega) _ | refine Below.drew ?_))⟩
  refine congrArg (fun b => Ending.returned (.bool b)) ?_
  rw [Bool.eq_iff_iff]
  have := BS.minus_empty s t
  simp only [decide_eq_true_eq, ← this]
  simp
set_option maxHeartbeats 1000000 in
theorem refMeets_any (s t : BS) (w : World) :
    Calls Tryd.prog 44 #[.agg s.cells, .agg t.cells] w (Ret (.bool (!decide (s.and t = BS.zero))) w) := by
  go_enter Tryd.func44, Tryd.ntmps44
  go_upto_region 1 with (fail)
  (refine wp_region_text_tail (C := Lies _) 6 (Lies.start _) ?_; simp only [List.take_succ_cons, List.take_zero, List.take_nil, List.drop_succ_cons, List.drop_zero, List.drop_nil]; (repeat (first | (refine quiet_skip rfl ?_; simp only [Act.put, List.setIfInBounds_toArray, List.set_cons_zero, List.set_cons_succ]) | (apply quiet_op _ rfl; (focus (intro w1 hw1; have hc1 := hw1.cells; go_simp; (try go_bits); (try (rw [if_pos (by omega)]; go_simp)); first | (go_at_call 40; with_reducible exact Calls.lies hw1 (refAnd_any _ _ _)) | (go_at_call 25; with_reducible exact Calls.lies hw1 (refLen_any _ _)) | (go_at_call 40; exact Calls.lies hw1 (refAnd_any _ _ _)) | (go_at_call 25; exact Calls.lies hw1 (refLen_any _ _)) | rfl)); simp only [Act.put, List.setIfInBounds_toArray, List.set_cons_zero, List.set_cons_succ]))); refine wpQuiet_nil ?_; intro w2 hw2)
  go_wp2
  go_ret
  refine ⟨?_, Lies.below hw2 (by simp <;> omega) (by (repeat' first | exact Below.refl _ _ | assumption | refine Below.alloc ?_ (by simp <;> omega) _ | refine Below.setCell ?_ (by simp <;> omega) _ | refine Below.drew ?_))⟩
  refine congrArg (fun b => Ending.returned (.bool b)) ?_
  rw [Bool.eq_iff_iff]
  by_cases h : s.and t = BS.zero
  · rw [h, BS.zero_len]; simp
  · have : (s.and t).len ≠ 0 := fun e => h (BS.len_zero e)
    simp [h]; omega
end Go.Proofs.YtakcckdnliiieaaDoor
