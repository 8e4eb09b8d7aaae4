/- Builder.WriteString in plain words. -/
import Derived.Test.YtbgmjlonbbmffaaDoorL13
namespace Go.Proofs.YtbgmjlonbbmffaaDoor
open Go Go.RowKit
def BW (B b : Nat) (l : List UInt8) (w w' : World) : Prop := Lib.IsBuilderF 82 5 B b (Lib.byteCells l) w' ∧ Below B w w' ∧ Lib.OthersKept 5 (some b) w w'
theorem BW.trans {B b : Nat} {l m : List UInt8} {u v w : World} (h : BW B b l u v) (k : BW B b m v w) : BW B b m u w := ⟨k.1, h.2.1.trans k.2.1, h.2.2.trans k.2.2⟩
theorem ws_any {B b : Nat} {l : List UInt8} (m : List UInt8) {w : World} (h : Lib.IsBuilderF 82 5 B b (Lib.byteCells l) w) (hl : l.length + m.length ≤ 140737488355328) (hB : B ≤ w.heap.size) :
    Calls Tryd.prog 38 #[.pointer (some ⟨b, 0, none⟩), .string ⟨m.toArray⟩] w fun e w' => e = .returned (.tuple #[.int .i64 (m.length : Int), .nilIface]) ∧ BW B b (l ++ m) w w' := by
  refine (writeString_k B b _ ⟨m.toArray⟩ w h (by rw [Lib.byteCells_length]; exact hl) hB).mono ?_
  rintro e w' ⟨rfl, h1, h2, h3⟩
  exact ⟨rfl, .inr (by rw [Lib.byteCells_append]; exact h1), h2, h3⟩
end Go.Proofs.YtbgmjlonbbmffaaDoor
