/- The walk's rules for sets of bytes (four words in cells): over any program. -/
import Derived.Test.YtakcckdnliiieaaDoorBS
import Derived.Test.YtakcckdnliiieaaDoorReg
import Derived.WalkKit
import Derived.WalkSpells
import Derived.WalkLawsBesides
namespace Go.Proofs.YtakcckdnliiieaaDoor
open Go Go.RowKit

/-- A word's number, closed to simp. -/
def tn (x : BitVec 64) : Int := (x.toNat : Int)
theorem tn_nonneg (x : BitVec 64) : 0 ≤ tn x := Int.natCast_nonneg _
theorem tn_lt (x : BitVec 64) : tn x < 18446744073709551616 := by have := x.isLt; unfold tn; omega
theorem tn_inj {x y : BitVec 64} (h : tn x = tn y) : x = y := BitVec.eq_of_toNat_eq (by unfold tn at h; omega)
theorem tn_ofNat (n : Nat) (h : n < 18446744073709551616) : tn (BitVec.ofNat 64 n) = (n : Int) := by
  unfold tn; rw [BitVec.toNat_ofNat]; omega

def BS.cells (s : BS) : Array Value := #[.int .u64 (tn s.w0), .int .u64 (tn s.w1), .int .u64 (tn s.w2), .int .u64 (tn s.w3)]

@[go_sem] theorem BS.cells_size (s : BS) : s.cells.size = 4 := rfl
@[go_sem] theorem BS.cells_0 (s : BS) : s.cells[0]? = some (.int .u64 (tn s.w0)) := rfl
@[go_sem] theorem BS.cells_1 (s : BS) : s.cells[1]? = some (.int .u64 (tn s.w1)) := rfl
@[go_sem] theorem BS.cells_2 (s : BS) : s.cells[2]? = some (.int .u64 (tn s.w2)) := rfl
@[go_sem] theorem BS.cells_3 (s : BS) : s.cells[3]? = some (.int .u64 (tn s.w3)) := rfl
@[go_sem] theorem BS.cells_at (s : BS) (i : Nat) (h : i < 4) : s.cells[i]? = some (.int .u64 (tn (s.word i))) :=
  BS.word_lt h (fun i => s.cells[i]? = some (.int .u64 (tn (s.word i)))) rfl rfl rfl rfl
@[go_sem] theorem BS.cells_toList (s : BS) : s.cells.toList = [.int .u64 (tn s.w0), .int .u64 (tn s.w1), .int .u64 (tn s.w2), .int .u64 (tn s.w3)] := rfl
@[go_sem] theorem BS.cells_fold (s : BS) : #[Value.int .u64 (tn s.w0), .int .u64 (tn s.w1), .int .u64 (tn s.w2), .int .u64 (tn s.w3)] = s.cells := rfl
@[go_sem] theorem BS.cells_zero : #[Value.int .u64 0, .int .u64 0, .int .u64 0, .int .u64 0] = BS.zero.cells := rfl
@[go_sem] theorem BS.cells_set (s : BS) (i : Nat) (x : BitVec 64) (h : i < 4) : s.cells.setIfInBounds i (.int .u64 (tn x)) = (s.setw i x).cells :=
  BS.word_lt h (fun i => s.cells.setIfInBounds i (.int .u64 (tn x)) = (s.setw i x).cells) rfl rfl rfl rfl
@[go_sem] theorem BS.setw_all (s : BS) (a b c d : BitVec 64) : (((s.setw 0 a).setw 1 b).setw 2 c).setw 3 d = ⟨a, b, c, d⟩ := rfl
@[go_sem] theorem BS.eta (s : BS) : (⟨s.w0, s.w1, s.w2, s.w3⟩ : BS) = s := rfl
@[go_sem] theorem BS.setw_00 (s : BS) (x : BitVec 64) : (s.setw 0 x).w0 = x := rfl
@[go_sem] theorem BS.setw_01 (s : BS) (x : BitVec 64) : (s.setw 0 x).w1 = s.w1 := rfl
@[go_sem] theorem BS.setw_02 (s : BS) (x : BitVec 64) : (s.setw 0 x).w2 = s.w2 := rfl
@[go_sem] theorem BS.setw_03 (s : BS) (x : BitVec 64) : (s.setw 0 x).w3 = s.w3 := rfl
@[go_sem] theorem BS.setw_10 (s : BS) (x : BitVec 64) : (s.setw 1 x).w0 = s.w0 := rfl
@[go_sem] theorem BS.setw_11 (s : BS) (x : BitVec 64) : (s.setw 1 x).w1 = x := rfl
@[go_sem] theorem BS.setw_12 (s : BS) (x : BitVec 64) : (s.setw 1 x).w2 = s.w2 := rfl
@[go_sem] theorem BS.setw_13 (s : BS) (x : BitVec 64) : (s.setw 1 x).w3 = s.w3 := rfl
@[go_sem] theorem BS.setw_20 (s : BS) (x : BitVec 64) : (s.setw 2 x).w0 = s.w0 := rfl
@[go_sem] theorem BS.setw_21 (s : BS) (x : BitVec 64) : (s.setw 2 x).w1 = s.w1 := rfl
@[go_sem] theorem BS.setw_22 (s : BS) (x : BitVec 64) : (s.setw 2 x).w2 = x := rfl
@[go_sem] theorem BS.setw_23 (s : BS) (x : BitVec 64) : (s.setw 2 x).w3 = s.w3 := rfl
@[go_sem] theorem BS.setw_30 (s : BS) (x : BitVec 64) : (s.setw 3 x).w0 = s.w0 := rfl
@[go_sem] theorem BS.setw_31 (s : BS) (x : BitVec 64) : (s.setw 3 x).w1 = s.w1 := rfl
@[go_sem] theorem BS.setw_32 (s : BS) (x : BitVec 64) : (s.setw 3 x).w2 = s.w2 := rfl
@[go_sem] theorem BS.setw_33 (s : BS) (x : BitVec 64) : (s.setw 3 x).w3 = x := rfl
@[go_sem] theorem BS.agg_cells (s : BS) : (Value.agg s.cells).cells = s.cells := rfl

theorem ofInt_tn (x : BitVec 64) : BitVec.ofInt 64 (tn x) = x := by
  unfold tn
  rw [BitVec.ofInt_natCast, BitVec.ofNat_toNat, BitVec.setWidth_eq]
theorem wrap_u64 (n : Int) : IntKind.u64.wrap n = n % 18446744073709551616 := by simp [IntKind.wrap, IntKind.bits, IntKind.signed]
theorem wrap_tn (x : BitVec 64) : IntKind.u64.wrap (tn x) = tn x := by
  have := tn_lt x
  have := tn_nonneg x
  rw [wrap_u64]; omega
@[go_sem] theorem bv_and (x y : BitVec 64) : bits .and .u64 (tn x) (tn y) = tn (x &&& y) := by
  show IntKind.u64.wrap (((BitVec.ofInt 64 (tn x)) &&& (BitVec.ofInt 64 (tn y))).toNat : Int) = _
  rw [ofInt_tn, ofInt_tn]; exact wrap_tn _
@[go_sem] theorem bv_or (x y : BitVec 64) : bits .or .u64 (tn x) (tn y) = tn (x ||| y) := by
  show IntKind.u64.wrap (((BitVec.ofInt 64 (tn x)) ||| (BitVec.ofInt 64 (tn y))).toNat : Int) = _
  rw [ofInt_tn, ofInt_tn]; exact wrap_tn _
@[go_sem] theorem bv_andNot (x y : BitVec 64) : bits .andNot .u64 (tn x) (tn y) = tn (x &&& ~~~y) := by
  show IntKind.u64.wrap (((BitVec.ofInt 64 (tn x)) &&& ~~~(BitVec.ofInt 64 (tn y))).toNat : Int) = _
  rw [ofInt_tn, ofInt_tn]; exact wrap_tn _
@[go_sem] theorem signed_u64 : IntKind.u64.signed = false := rfl
@[go_sem] theorem bv_not (x : BitVec 64) : bits .xor .u64 IntKind.u64.max (tn x) = tn (~~~x) := by
  show IntKind.u64.wrap (((BitVec.ofInt 64 IntKind.u64.max) ^^^ (BitVec.ofInt 64 (tn x))).toNat : Int) = _
  rw [ofInt_tn, show BitVec.ofInt 64 IntKind.u64.max = BitVec.allOnes 64 by decide, BitVec.allOnes_xor]; exact wrap_tn _
@[go_sem] theorem bv_shr (x : BitVec 64) (k : Nat) : tn x / 2 ^ k = tn (x >>> k) := by
  unfold tn
  rw [BitVec.toNat_ushiftRight, Nat.shiftRight_eq_div_pow, Int.natCast_ediv, Int.natCast_pow]
  rfl
@[go_sem] theorem bv_and_one (x : BitVec 64) : bits .and .u64 (tn x) 1 = tn (x &&& 1#64) := bv_and x 1#64
@[go_sem] theorem tn_beq_one (x : BitVec 64) : (tn x == 1) = (x == 1#64) := by
  rw [show (1 : Int) = tn 1#64 from rfl, Bool.eq_iff_iff]
  simp only [beq_iff_eq]
  exact ⟨tn_inj, fun h => by rw [h]⟩
theorem and_one_beq (x : BitVec 64) : (x &&& 1#64 == 1#64) = x.getLsbD 0 := by
  have h : x.getLsbD 0 = (x &&& 1#64).getLsbD 0 := by simp
  cases hx : x.getLsbD 0
  · rw [beq_eq_false_iff_ne]
    intro he
    rw [hx, he] at h
    simp at h
  · rw [beq_iff_eq]
    apply BitVec.eq_of_getLsbD_eq
    intro i hi
    rw [BitVec.getLsbD_and, BitVec.getLsbD_one]
    by_cases h0 : i = 0
    · subst h0; simp [hx]
    · have : ¬ (0 : Nat) = i := fun e => h0 e.symm
      simp [h0]
theorem shr_has (s : BS) (b : Nat) : ((s.word (b / 64) >>> (b % 64)) &&& 1#64 == 1#64) = s.has b := by
  rw [and_one_beq, BitVec.getLsbD_ushiftRight]; rfl
theorem tn_shl (k : Nat) (h : k < 64) : tn (1#64 <<< k) = 2 ^ k := by
  unfold tn
  rw [BitVec.toNat_shiftLeft]
  have : 2 ^ k < 2 ^ 64 := Nat.pow_lt_pow_right (by omega) h
  simp [Nat.shiftLeft_eq, Nat.mod_eq_of_lt this]
@[go_sem] theorem tn_shl_ne (k : Nat) (h : k < 64) : (tn (1#64 <<< k) = 0) = False := by
  rw [tn_shl k h, eq_iff_iff, iff_false]
  have : (0 : Int) < 2 ^ k := Int.pow_pos (by omega)
  omega
@[go_sem] theorem bv_div_pow (x : BitVec 64) (k : Nat) (h : k < 64) : IntKind.u64.wrap ((tn x).tdiv (tn (1#64 <<< k))) = tn (x >>> k) := by
  rw [Int.tdiv_eq_ediv_of_nonneg (tn_nonneg x), tn_shl k h, bv_shr, wrap_tn]
@[go_sem] theorem bv_mod_two (x : BitVec 64) : (tn x).tmod 2 = tn (x &&& 1#64) := by
  rw [Int.tmod_eq_emod_of_nonneg (tn_nonneg x)]
  unfold tn
  rw [BitVec.toNat_and, show (1#64).toNat = 1 from rfl, nat_mask1]
  omega
@[go_sem] theorem wrap_pow (k : Nat) (h : k < 64) : IntKind.u64.wrap (2 ^ k) = tn (1#64 <<< k) := by
  rw [← tn_shl k h, wrap_tn]
@[go_sem] theorem wrap_add (x y : BitVec 64) : IntKind.u64.wrap (tn x + tn y) = tn (x + y) := by
  rw [wrap_u64]
  unfold tn
  rw [BitVec.toNat_add]
  omega
theorem wrap_mul_two (x : BitVec 64) : IntKind.u64.wrap (tn x * 2) = tn (x <<< 1) := by
  rw [wrap_u64]
  unfold tn
  rw [BitVec.toNat_shiftLeft, Nat.shiftLeft_eq]
  omega
@[go_sem] theorem tn_beq (x y : BitVec 64) : (tn x == tn y) = (x == y) := by
  rw [Bool.eq_iff_iff]
  simp only [beq_iff_eq]
  exact ⟨tn_inj, fun h => by rw [h]⟩

section
variable {P : Program} (w : World)
/-- '==' of two sets. -/
theorem run_equalIn_BS (d : Nat) {t e : TypeId} {k : IntKind} {i : TypeInfo} (s r : BS) (ht : P.underlying t = some (.array 4 e)) (he : P.underlying e = some (.int k)) (hi : P.info? e = some i) (hs : i.size = 1) :
    (Op.equalIn (d + 2) t (.agg s.cells) (.agg r.cells)).run P w = .ok (decide (s = r)) w := by
  have hpart : ∀ (x : BS) (j : Nat) (v : Value), x.cells[j]? = some v → (part e x.cells j).run P w = .ok v w := by
    intro x j v h
    simp [part, isAgg, run_underlying he, h]
  have heq : ∀ a b : Int, (Op.equalIn (d + 1) e (.int .u64 a) (.int .u64 b)).run P w = .ok (a == b) w := fun a b => by simp [Op.equalIn, run_underlying he]
  have key : decide (s = r) = (s.w0 == r.w0 && (s.w1 == r.w1 && (s.w2 == r.w2 && s.w3 == r.w3))) := by
    have := BS.beq_iff s r
    unfold BS.beq at this
    rw [Bool.eq_iff_iff, this]
    simp
  rw [key]
  unfold Op.equalIn
  generalize Op.equalIn (d + 1) = E at heq
  simp only [Sem.run_bind, run_underlying ht, Result.andThen_ok, sizeOf, typeInfo, run_program, hi, hs, Sem.run_pure, Std.Legacy.Range.forIn_eq_forIn_range', Std.Legacy.Range.size]
  rw [show (List.range' 0 ((4 - 0 + 1 - 1) / 1) 1) = [0, 1, 2, 3] from rfl]
  have p0 := hpart s 0 _ s.cells_0
  have p1 := hpart s 1 _ s.cells_1
  have p2 := hpart s 2 _ s.cells_2
  have p3 := hpart s 3 _ s.cells_3
  have q0 := hpart r 0 _ r.cells_0
  have q1 := hpart r 1 _ r.cells_1
  have q2 := hpart r 2 _ r.cells_2
  have q3 := hpart r 3 _ r.cells_3
  by_cases h0 : s.w0 = r.w0
  · by_cases h1 : s.w1 = r.w1
    · by_cases h2 : s.w2 = r.w2
      · by_cases h3 : s.w3 = r.w3 <;> simp [Sem.run_bind, p0, p1, p2, p3, q0, q1, q2, q3, heq, tn_beq, h0, h1, h2, h3]
      · simp [Sem.run_bind, p0, p1, p2, q0, q1, q2, heq, tn_beq, h0, h1, h2]
    · simp [Sem.run_bind, p0, p1, q0, q1, heq, tn_beq, h0, h1]
  · simp [Sem.run_bind, p0, q0, heq, tn_beq, h0]

/-- Is this the type of a set: an array of four words of one cell each? -/
def isBS (P : Program) (t : TypeId) : Bool :=
  match P.underlying t with
  | some (.array 4 e) => (match P.underlying e, P.info? e with | some (.int _), some i => i.size == 1 | _, _ => false)
  | _ => false
theorem isBS_spec {t : TypeId} (h : isBS P t = true) : ∃ e k i, P.underlying t = some (.array 4 e) ∧ P.underlying e = some (.int k) ∧ P.info? e = some i ∧ i.size = 1 := by
  unfold isBS at h
  split at h
  · rename_i e he
    split at h
    · rename_i k i hk hi
      exact ⟨e, k, i, he, hk, hi, by simpa using h⟩
    · cases h
  · cases h
@[go_sem] theorem run_equalIn_sets (d : Nat) (t : TypeId) (s r : BS) (h : isBS P t = true) : (Op.equalIn (d + 2) t (.agg s.cells) (.agg r.cells)).run P w = .ok (decide (s = r)) w := by
  obtain ⟨e, k, i, h1, h2, h3, h4⟩ := isBS_spec h
  exact run_equalIn_BS w d s r h1 h2 h3 h4
@[go_sem] theorem run_index_set (t : TypeId) (s : BS) (k : IntKind) (i : Int) (h : isBS P t = true) (h0 : 0 ≤ i) (h1 : i < 4) :
    (Instr.index t (.agg s.cells) (.int k i)).run P w = .ok (.int .u64 (tn (s.word i.toNat))) w := by
  obtain ⟨e, k', i', h1', h2, h3, h4⟩ := isBS_spec h
  have hp : (part e s.cells (i.toNat * 1)).run P w = .ok (.int .u64 (tn (s.word i.toNat))) w := by
    simp [part, isAgg, run_underlying h2, BS.cells_at s i.toNat (by omega)]
  simp only [Instr.index, asIntOf, Sem.run_bind, Sem.run_pure, Result.andThen_ok, run_underlying h1']
  simp only [show (0 ≤ i ∧ i < ((4 : Nat) : Int)) from ⟨h0, h1⟩, and_self, if_true, sizeOf, typeInfo, Sem.run_bind, run_program, h3, h4, Result.andThen_ok, Sem.run_pure, hp]
@[go_sem] theorem BS.word_0 (s : BS) : s.word 0 = s.w0 := rfl
@[go_sem] theorem BS.word_1 (s : BS) : s.word 1 = s.w1 := rfl
@[go_sem] theorem BS.word_2 (s : BS) : s.word 2 = s.w2 := rfl
@[go_sem] theorem BS.word_3 (s : BS) : s.word 3 = s.w3 := rfl
theorem take_snoc (s : ByteArray) (k : Nat) (h : k < s.size) : s.data.toList.take (k + 1) = s.data.toList.take k ++ [s[k]] := by
  rw [List.take_succ_eq_append_getElem (by simpa using h)]; rfl
theorem take_all (s : ByteArray) : s.data.toList.take s.size = s.data.toList := List.take_of_length_le (by show s.data.toList.length ≤ s.data.size; rw [Array.length_toList]; exact Nat.le_refl _)
theorem BS.ins_cells {w : World} {g : Nat} {t : TypeId} {S : BS} (h : Blk w g t S.cells) (n : Nat) (hn : n < 256) :
    Blk (w.setCell ⟨g, n / 64, none⟩ (.int .u64 (tn (S.word (n / 64) ||| 1#64 <<< (n % 64))))) g t (S.ins n).cells := by
  have := h.set (n / 64) (.int .u64 (tn (S.word (n / 64) ||| 1#64 <<< (n % 64))))
  rwa [BS.cells_set _ _ _ (by omega)] at this
end
end Go.Proofs.YtakcckdnliiieaaDoor
