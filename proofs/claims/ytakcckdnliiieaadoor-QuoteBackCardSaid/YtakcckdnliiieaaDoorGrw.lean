/- Regions whose order is open, in which one block is written: the class of worlds in which all but that block lies as it lay. Over any program. -/
import Derived.Test.YtakcckdnliiieaaDoorStp
import Derived.Test.YtakcckdnliiieaaDoorMem
namespace Go.Proofs.YtakcckdnliiieaaDoor
open Go Go.RowKit
variable {P : Program}
/-- All but block k lies as it lay. -/
def Grw (W : World) (k : Nat) (w : World) : Prop := W.grownBy w (some k)
theorem Grw.start (W : World) (k : Nat) : Grw W k W := World.grownBy.refl _ _
theorem Grw.drew {W w : World} {k : Nat} (h : Grw W k w) : Grw W k w.drew := grownBy_trans h ⟨rfl, rfl, rfl, Nat.le_refl _, fun _ _ _ => rfl⟩
theorem Grw.cells {W w : World} {k : Nat} (h : Grw W k w) (b o : Nat) (hb : b < W.heap.size) (hk : b ≠ k) : w.cell? ⟨b, o, none⟩ = W.cell? ⟨b, o, none⟩ := by
  exact World.cell?_of_block (w := W) (World.grownBy.block h b hb (by simpa using hk))
theorem Grw.size {W w : World} {k : Nat} (h : Grw W k w) : W.heap.size ≤ w.heap.size := World.grownBy.size h
theorem Grw.more {W w w' : World} {k : Nat} (h : Grw W k w) (hg : w.grownBy w' (some k)) : Grw W k w' := grownBy_trans h hg
theorem Grw.lies {W w w' : World} {k : Nat} (h : Grw W k w) (hg : Lies w w') : Grw W k w' := grownBy_trans h ⟨hg.os, hg.tape, hg.output, hg.size, fun k hk _ => hg.block k hk⟩
/-- .. and block k is these cells. -/
def GrwB (W : World) (k : Nat) (t : TypeId) (cs : Array Value) (w : World) : Prop := Grw W k w ∧ Blk w k t cs
theorem GrwB.cells {W w : World} {k : Nat} {t : TypeId} {cs : Array Value} (h : GrwB W k t cs w) (b o : Nat) (hb : b < W.heap.size) (hk : b ≠ k) : w.cell? ⟨b, o, none⟩ = W.cell? ⟨b, o, none⟩ := h.1.cells b o hb hk
theorem grwB_sub {W : World} {k : Nat} {t t' : TypeId} {cs cs' : Array Value} {x : World} (h : GrwB W k t cs x) : Grw W k x := h.1
theorem GrwB.start {W : World} {k : Nat} {t : TypeId} {cs : Array Value} (h : Blk W k t cs) : GrwB W k t cs W := ⟨Grw.start _ _, h⟩
theorem GrwB.drew {W w : World} {k : Nat} {t : TypeId} {cs : Array Value} (h : GrwB W k t cs w) : GrwB W k t cs w.drew := ⟨h.1.drew, h.2⟩
/-- .. and block k is some set. -/
def GrwE (W : World) (k : Nat) (t : TypeId) (w : World) : Prop := Grw W k w ∧ ∃ s : BS, Blk w k t s.cells
theorem GrwE.cells {W w : World} {k : Nat} {t : TypeId} (h : GrwE W k t w) (b o : Nat) (hb : b < W.heap.size) (hk : b ≠ k) : w.cell? ⟨b, o, none⟩ = W.cell? ⟨b, o, none⟩ := h.1.cells b o hb hk
theorem GrwE.start {W : World} {k : Nat} {t : TypeId} {s : BS} (h : Blk W k t s.cells) : GrwE W k t W := ⟨Grw.start _ _, _, h⟩
theorem GrwE.drew {W w : World} {k : Nat} {t : TypeId} (h : GrwE W k t w) : GrwE W k t w.drew := ⟨h.1.drew, h.2⟩
theorem GrwE.of {W x : World} {k : Nat} {t : TypeId} {s : BS} (h : GrwB W k t s.cells x) : GrwE W k t x := ⟨h.1, _, h.2⟩
/-- A whole set is stored into its block. -/
theorem loud_store_set {o : Oper} {a : Act} {w : World} {R : Value → World → Prop} (T : TypeId) (x y : Operand) (ho : o.op = .store T x y)
    (g : Nat) (hx : a.eval x = .pointer (some ⟨g, 0, none⟩)) (s : BS) (hy : a.eval y = .agg s.cells) (hsz : (P.info? T).map (·.size) = some 4)
    {t : TypeId} {r : BS} (hB : Blk w g t r.cells)
    (h : ∀ w', Blk w' g t s.cells → w.grownBy w' (some g) → w'.heap.size = w.heap.size → R undef w') : Oper.loudAt P o a w R := by
  cases hi : P.info? T with
  | none => rw [hi] at hsz; cases hsz
  | some d =>
    rw [hi] at hsz
    have hs : d.size = 4 := by simpa using hsz
    obtain ⟨w', hr, hB', hg, hz⟩ := run_storeCells_blk (P := P) g s.cells.toList w r.cells 0 0 (BS.cells_one s) hB (by simp [BS.cells_size])
    have hB2 : Blk w' g t s.cells := by rwa [Nat.add_zero, BS.writes_all _ rfl] at hB'
    unfold Oper.loudAt execOp
    simp only [ho, hx, hy, Instr.storeAt, Instr.sureAddr, storeVar, sizeOf, typeInfo, Sem.run_bind, Sem.run_pure, Result.andThen_ok, run_program, hi, hs, BS.agg_cells, BS.cells_size, ne_eq, not_true_eq_false, if_false, hr]
    exact h w' hB2 hg hz
end Go.Proofs.YtakcckdnliiieaaDoor
