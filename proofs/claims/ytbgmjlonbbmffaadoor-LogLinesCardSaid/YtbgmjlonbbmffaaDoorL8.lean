/- reader.item: what it computes. -/
import Derived.Test.YtbgmjlonbbmffaaDoorL7
namespace Go.Proofs.YtbgmjlonbbmffaaDoor
open Go Go.RowKit
attribute [local go_sem] Oper.quietAt Oper.quietUpon
theorem numG_ok {t : ByteArray} {lim : Nat} : ∀ (f n p : Nat), n ≤ lim → p ≤ t.size → (numG t lim f n p).1 ≤ lim ∧ (numG t lim f n p).2.2 ≤ t.size
  | 0, n, p, hn, hp => ⟨hn, hp⟩
  | f + 1, n, p, hn, hp => by
    by_cases hpt : p < t.size
    · rw [numG_step (byteAt_lt hpt)]
      split
      · exact ⟨Nat.zero_le _, hpt⟩
      · split
        · exact numG_ok f _ _ (by omega) hpt
        · exact ⟨by simp only; omega, hpt⟩
    · have : byteAt t p = none := byteAt_ge (by omega)
      unfold numG; rw [this]; exact ⟨Nat.zero_le _, hp⟩
theorem numP_ok {t : ByteArray} {lim p : Nat} (hp : p ≤ t.size) : (numP t lim p).1 ≤ lim ∧ (numP t lim p).2.2 ≤ t.size := numG_ok 5 0 p (Nat.zero_le _) hp
def zeroS : StepD := ⟨0, 0, 0, [], 0⟩
def zeroI : ItemD := ⟨false, zeroS⟩
/-- k numbers of a path. -/
def pathG (t : ByteArray) : Nat → List Int → Nat → List Int × Nat × Nat
  | 0, acc, p => (acc, 0, p)
  | k + 1, acc, p => if (numP t 2147483647 p).2.1 = 0 then pathG t k (acc ++ [((numP t 2147483647 p).1 : Int)]) (numP t 2147483647 p).2.2 else (acc, (numP t 2147483647 p).2.1, (numP t 2147483647 p).2.2)
/-- The end of an item: its path and place. -/
def itemE (t : ByteArray) (a b c : Nat) (e : List Int × Nat × Nat) : ItemD × Nat × Nat :=
  if e.2.1 = 0 then (if (numP t 2147483647 e.2.2).2.1 = 0 then (⟨false, ⟨a, b, c, e.1, (numP t 2147483647 e.2.2).1⟩⟩, 0, (numP t 2147483647 e.2.2).2.2) else (zeroI, (numP t 2147483647 e.2.2).2.1, (numP t 2147483647 e.2.2).2.2)) else (zeroI, e.2.1, e.2.2)
def itemD (t : ByteArray) (a b c : Nat) (r : Nat × Nat × Nat) : ItemD × Nat × Nat := if r.2.1 = 0 then itemE t a b c (pathG t r.1 [] r.2.2) else (zeroI, r.2.1, r.2.2)
def itemC (t : ByteArray) (a b : Nat) (r : Nat × Nat × Nat) : ItemD × Nat × Nat := if r.2.1 = 0 then itemD t a b r.1 (numP t 32 r.2.2) else (zeroI, r.2.1, r.2.2)
def itemB (t : ByteArray) (a : Nat) (r : Nat × Nat × Nat) : ItemD × Nat × Nat := if r.2.1 = 0 then itemC t a r.1 (numP t 2147483647 r.2.2) else (zeroI, r.2.1, r.2.2)
def itemA (t : ByteArray) (r : Nat × Nat × Nat) : ItemD × Nat × Nat := if r.2.1 = 0 then (if r.1 = 0 then (⟨true, zeroS⟩, 0, r.2.2) else itemB t r.1 (numP t 255 r.2.2)) else (zeroI, r.2.1, r.2.2)
/-- An item read at p: the item, the error, the place. -/
def itemP (t : ByteArray) (p : Nat) : ItemD × Nat × Nat := itemA t (numP t 255 p)
def itemV (x : ItemD) (pv : Value) : Value := .agg #[.bool x.mark, .int .u8 (x.step.pass : Int), .int .u8 (x.step.way : Int), .int .i64 x.step.rule, pv, .int .i64 x.step.place]
def NumRet (t : ByteArray) (g : Nat) (w : World) (r : Nat × Nat × Nat) (x : Ending) (w' : World) : Prop :=
  x = .returned (.tuple #[.int .i64 (r.1 : Int), .int .i64 (r.2.1 : Int)]) ∧ Blk w' g 70 (rdr t r.2.2) ∧ w.grownBy w' (some g)
theorem num_255 {t : ByteArray} {g : Nat} (ht : t.size ≤ 1000000000) (p : Nat) (hp : p ≤ t.size) (w : World) (hB : Blk w g 70 (rdr t p)) : Calls Tryd.prog 32 #[.pointer (some ⟨g, 0, none⟩), .int .i64 255] w (NumRet t g w (numP t 255 p)) := number_any (lim := 255) ht hp (by omega) hB
theorem num_max {t : ByteArray} {g : Nat} (ht : t.size ≤ 1000000000) (p : Nat) (hp : p ≤ t.size) (w : World) (hB : Blk w g 70 (rdr t p)) : Calls Tryd.prog 32 #[.pointer (some ⟨g, 0, none⟩), .int .i64 2147483647] w (NumRet t g w (numP t 2147483647 p)) := number_any (lim := 2147483647) ht hp (by omega) hB
theorem num_32 {t : ByteArray} {g : Nat} (ht : t.size ≤ 1000000000) (p : Nat) (hp : p ≤ t.size) (w : World) (hB : Blk w g 70 (rdr t p)) : Calls Tryd.prog 32 #[.pointer (some ⟨g, 0, none⟩), .int .i64 32] w (NumRet t g w (numP t 32 p)) := number_any (lim := 32) ht hp (by omega) hB
theorem ints_nil (w : World) (F : Nat → Prop) : IntsAt w F (.slice none 0 0) [] := ⟨none, 0, rfl, by simp [maxLen], fun h => absurd rfl h⟩
/-- What an item's reading leaves. -/
def ItemRet (t : ByteArray) (g : Nat) (w : World) (r : ItemD × Nat × Nat) (x : Ending) (w' : World) : Prop :=
  ∃ pv, x = .returned (.tuple #[itemV r.1 pv, .int .i64 (r.2.1 : Int)]) ∧ IntsAt w' (fun b => w.heap.size ≤ b ∧ b < w'.heap.size) pv r.1.step.path ∧ Blk w' g 70 (rdr t r.2.2) ∧ w.grownBy w' (some g)
theorem itemRet_zero {t : ByteArray} {g e q : Nat} {w w' : World} {x : Ending} (hx : x = .returned (.tuple #[.agg #[.bool false, .int .u8 0, .int .u8 0, .int .i64 0, .slice none 0 0, .int .i64 0], .int .i64 (e : Int)])) (hB : Blk w' g 70 (rdr t q)) (hg : w.grownBy w' (some g)) : ItemRet t g w (zeroI, e, q) x w' :=
  ⟨_, hx, ints_nil _ _, hB, hg⟩
end Go.Proofs.YtbgmjlonbbmffaaDoor
