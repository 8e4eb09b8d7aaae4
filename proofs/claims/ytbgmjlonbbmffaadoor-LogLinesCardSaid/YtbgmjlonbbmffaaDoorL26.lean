/- log.Read: what it computes. -/
import Derived.Test.YtbgmjlonbbmffaaDoorL25
import Derived.Test.YtbgmjlonbbmffaaDoorL19
import Derived.Lib.CutLaws
import Derived.Lib.SplitLaws
namespace Go.Proofs.YtbgmjlonbbmffaaDoor
open Go Go.RowKit
/-- A word of a line, as a number: the first two are bytes. -/
def okW (i : Nat) (l : List UInt8) : Option Nat := if (decR l).2 = true ∧ ¬ (i < 2 ∧ 255 < (decR l).1) then some (decR l).1 else none
def numsG : Nat → List (List UInt8) → Option (List Nat)
  | _, [] => some []
  | i, w :: ws => match okW i w with
    | none => none
    | some n => (numsG (i + 1) ws).map (n :: ·)
def numI (ns : List Nat) : ItemD := ⟨false, ⟨ns.getD 0 0, ns.getD 1 0, (ns.getD 3 0 : Int), (ns.drop 4).map Int.ofNat, (ns.getD 2 0 : Int)⟩⟩
def readE (ns : List Nat) : ItemD × Nat := if mayB (numI ns) then (numI ns, 0) else (zeroI, 4)
def readN (ws : List (List UInt8)) : ItemD × Nat := match numsG 0 ws with
  | none => (zeroI, 4)
  | some ns => readE ns
def readC (P W A L : List UInt8) (b1 b2 b3 : Bool) : ItemD × Nat :=
  if b1 = true ∧ b2 = true ∧ b3 = true ∧ Lib.count L [47] ≤ 32 then readN (P :: W :: A :: Lib.split L [47]) else (zeroI, 4)
def cut1 (l : List UInt8) := Lib.cut l [46]
def cut2 (l : List UInt8) := Lib.cut (cut1 l).2.1 [32]
def cut3 (l : List UInt8) := Lib.cut (cut2 l).2.1 [32, 64]
/-- A line read: the item, the error. -/
def readP (l : List UInt8) : ItemD × Nat :=
  if l = [109, 97, 114, 107] then (⟨true, zeroS⟩, 0) else readC (cut1 l).1 (cut2 l).1 (cut3 l).2.1 (cut3 l).1 (cut1 l).2.2 (cut2 l).2.2 (cut3 l).2.2
theorem cut_len (s sep : List UInt8) : (Lib.cut s sep).1.length ≤ s.length ∧ (Lib.cut s sep).2.1.length ≤ s.length := by
  unfold Lib.cut
  split
  · exact ⟨by simp [List.length_take]; omega, by simp [List.length_drop]⟩
  · exact ⟨Nat.le_refl _, by simp⟩
theorem numsG_len : ∀ (i : Nat) (ws : List (List UInt8)) (ns : List Nat), numsG i ws = some ns → ns.length = ws.length
  | _, [], ns, h => by simp [numsG] at h; subst h; rfl
  | i, w :: ws, ns, h => by
    unfold numsG at h
    split at h
    · cases h
    · obtain ⟨ms, h1, rfl⟩ := Option.map_eq_some_iff.1 h
      simp [numsG_len (i + 1) ws ms h1]
theorem decR_le (l : List UInt8) (h : (decR l).2 = true) : (decR l).1 ≤ 2147483647 := by
  unfold decR at h ⊢
  split
  · exact Nat.zero_le _
  · rename_i hc
    rw [if_neg hc] at h
    split
    · exact Nat.zero_le _
    · rename_i n hn
      rw [hn] at h
      exact of_decide_eq_true h
theorem okW_le {i : Nat} {l : List UInt8} {n : Nat} (h : okW i l = some n) : n ≤ 2147483647 ∧ (i < 2 → n ≤ 255) := by
  unfold okW at h
  split at h
  · rename_i hc
    injection h with h
    subst h
    exact ⟨decR_le l hc.1, fun hi => by have := hc.2; omega⟩
  · cases h
theorem numsG_le : ∀ (i : Nat) (ws : List (List UInt8)) (ns : List Nat), numsG i ws = some ns → ∀ j y, ns[j]? = some y → y ≤ 2147483647 ∧ (i + j < 2 → y ≤ 255)
  | _, [], ns, h, j, y, hj => by simp [numsG] at h; subst h; simp at hj
  | i, w :: ws, ns, h, j, y, hj => by
    unfold numsG at h
    split at h
    · cases h
    · rename_i n hn
      obtain ⟨ms, h1, rfl⟩ := Option.map_eq_some_iff.1 h
      cases j with
      | zero => simp at hj; subst hj; exact okW_le hn
      | succ j =>
        have := numsG_le (i + 1) ws ms h1 j y (by simpa using hj)
        exact ⟨this.1, fun h => this.2 (by omega)⟩
theorem numsG_step {i : Nat} {w : List UInt8} {ws : List (List UInt8)} {n : Nat} (h : okW i w = some n) : numsG i (w :: ws) = (numsG (i + 1) ws).map (n :: ·) := by
  conv => lhs; unfold numsG
  rw [h]
theorem numsG_bad {i : Nat} {w : List UInt8} {ws : List (List UInt8)} (h : okW i w = none) : numsG i (w :: ws) = none := by
  conv => lhs; unfold numsG
  rw [h]
theorem splitB_size (sep : ByteArray) : ∀ (k : Nat) (s : ByteArray), ∀ x ∈ Lib.splitB sep 0 k s, x.size ≤ s.size
  | 0, s, x, hx => by simp [Lib.splitB] at hx; subst hx; exact Nat.le_refl _
  | k + 1, s, x, hx => by
    unfold Lib.splitB at hx
    split at hx
    · simp at hx; subst hx; exact Nat.le_refl _
    · rcases List.mem_cons.1 hx with rfl | hx
      · rw [ByteArray.size_extract]; omega
      · have := splitB_size sep k _ x hx
        rw [ByteArray.size_extract] at this
        omega
/-- What Read leaves. -/
def ReadRet (w : World) (r : ItemD × Nat) (x : Ending) (w' : World) : Prop :=
  ∃ pv, x = .returned (.tuple #[itemV r.1 pv, .int .i64 (r.2 : Int)]) ∧ IntsAt w' (fun b => w.heap.size ≤ b ∧ b < w'.heap.size) pv r.1.step.path ∧ Lies w w'
theorem readRet_zero {w w' : World} {x : Ending} (hx : x = .returned (.tuple #[.agg #[.bool false, .int .u8 0, .int .u8 0, .int .i64 0, .slice none 0 0, .int .i64 0], .int .i64 4])) (hg : Lies w w') : ReadRet w (zeroI, 4) x w' := ⟨_, hx, ints_nil _ _, hg⟩
/-- The library's limit, whatever it is. -/
def MaxL (w : World) : Prop := ∃ m, w.cell? ⟨0, 0, none⟩ = some (.int .i64 m)
theorem MaxL.lies {w w' : World} (h : MaxL w) (hl : Lies w w') : MaxL w' := by
  obtain ⟨m, h⟩ := h
  exact ⟨m, cell_stay h (grown_lies hl none) (by simp)⟩
theorem str_lt (l : List UInt8) : (ByteArray.mk l.toArray).data.toList = l := by simp
/-- strings.Cut, its parts as names. -/
theorem cut_str (s : ByteArray) (sep : List UInt8) {w : World} (hs : s.size ≤ 1000000) (h : MaxL w) :
    ∃ (P R : ByteArray) (b : Bool), P.data.toList = (Lib.cut s.data.toList sep).1 ∧ R.data.toList = (Lib.cut s.data.toList sep).2.1 ∧ b = (Lib.cut s.data.toList sep).2.2 ∧ P.size ≤ s.size ∧ R.size ≤ s.size ∧
      ∀ W, Lies w W → Calls Tryd.prog 34 #[.string s, .string ⟨sep.toArray⟩] W (Ret (.tuple #[.string P, .string R, .bool b]) W) := by
  have hl := cut_len s.data.toList sep
  have hz : s.data.toList.length = s.size := Array.length_toList
  refine ⟨⟨(Lib.cut s.data.toList sep).1.toArray⟩, ⟨(Lib.cut s.data.toList sep).2.1.toArray⟩, _, str_lt _, str_lt _, rfl, by rw [size_mk]; omega, by rw [size_mk]; omega, fun W hW => ?_⟩
  obtain ⟨m, hm⟩ := h.lies hW
  have := Tryd.strings_Cut s ⟨sep.toArray⟩ m W (by omega) hm
  rw [str_lt] at this
  refine this.mono ?_
  rintro e w' ⟨rfl, n, rfl⟩
  exact ⟨rfl, below_drewN W n⟩
end Go.Proofs.YtbgmjlonbbmffaaDoor
