/- Stores into a block that is known whole: the world behind them is a name, with what is known of it. Over any program. -/
import Derived.Test.YtbgmjlonbbmffaaDoorStp
import Derived.WalkKit
import Derived.WalkSpells
import Derived.WalkLawsBesides
import Derived.Lib.Hide
namespace Go.Proofs.YtbgmjlonbbmffaaDoor
open Go Go.RowKit

def writes : Array Value → Nat → List Value → Array Value
  | cs, _, [] => cs
  | cs, i, v :: vs => writes (cs.setIfInBounds i v) (i + 1) vs
theorem writes_size (vs : List Value) : ∀ (cs : Array Value) (i : Nat), (writes cs i vs).size = cs.size := by
  induction vs with
  | nil => intro cs i; rfl
  | cons v vs ih => intro cs i; unfold writes; rw [ih]; simp

theorem grownBy_setCell (w : World) (g i : Nat) (v : Value) : w.grownBy (w.setCell ⟨g, i, none⟩ v) (some g) :=
  ⟨rfl, rfl, rfl, by simp, fun k _ hne => Below.heap_setCell w ⟨g, i, none⟩ v k (fun e => hne (by rw [e]))⟩
theorem grownBy_trans {a b c : World} {row : Option Nat} (h : a.grownBy b row) (k : b.grownBy c row) : a.grownBy c row :=
  ⟨k.os.trans h.os, k.tape.trans h.tape, k.output.trans h.output, Nat.le_trans h.size k.size, fun i hi hne => (k.block i (Nat.lt_of_lt_of_le hi h.size) hne).trans (h.block i hi hne)⟩

section
variable {P : Program}
theorem run_storeCells_blk {t : TypeId} (g : Nat) (vs : List Value) : ∀ (w : World) (cs : Array Value) (o k : Nat), (∀ v ∈ vs, v.oneCell' = true) → Blk w g t cs → o + k + vs.length ≤ cs.size →
    ∃ w', (storeCells ⟨g, o, none⟩ vs k).run P w = .ok () w' ∧ Blk w' g t (writes cs (o + k) vs) ∧ w.grownBy w' (some g) ∧ w'.heap.size = w.heap.size := by
  induction vs with
  | nil => intro w cs o k _ hB _; exact ⟨w, rfl, hB, World.grownBy.refl _ _, rfl⟩
  | cons v vs ih =>
    intro w cs o k h1 hB hle
    have hadd : (⟨g, o, none⟩ : Addr).add k = ⟨g, o + k, none⟩ := by
      unfold Addr.add; split
      · rename_i h0; subst h0; rfl
      · rfl
    have hc : w.cell? ⟨g, o + k, none⟩ = some (cs[o + k]'(by simp at hle; omega)) := by
      rw [hB.cell]; exact Array.getElem?_eq_getElem (by simp at hle; omega)
    have hst : (store ⟨g, o + k, none⟩ v).run P w = .ok () (w.setCell ⟨g, o + k, none⟩ v) := by
      have := run_store P w ⟨g, o + k, none⟩ v .plain (h1 v (by simp))
      rw [this]
      simp [stored, hc, hB.free]
    obtain ⟨w', hr, hB', hg, hz⟩ := ih (w.setCell ⟨g, o + k, none⟩ v) _ o (k + 1) (fun u hu => h1 u (by simp [hu])) (hB.set (o + k) v) (by simp at hle ⊢; omega)
    refine ⟨w', ?_, ?_, grownBy_trans (grownBy_setCell w g (o + k) v) hg, by rw [hz]; simp⟩
    · simp only [storeCells, Sem.run_bind, hadd, hst, Result.andThen_ok]
      exact hr
    · unfold writes
      rw [show o + k + 1 = o + (k + 1) by omega]
      exact hB'

theorem wp_store_blk {o : Oper} {a : Act} {w : World} {K : Act → World → Prop} {Q : Exit → Act → World → Prop} (T : TypeId) (x y : Operand) (ho : o.op = .store T x y)
    (g i : Nat) (hx : a.eval x = .pointer (some ⟨g, i, none⟩)) (u : Value) (hy : a.eval y = u) (hsz : (P.info? T).map (·.size) = some u.cells.size) (h1 : ∀ v ∈ u.cells.toList, v.oneCell' = true)
    {t : TypeId} {cs : Array Value} (hB : Blk w g t cs) (hin : i + u.cells.size ≤ cs.size)
    (h : ∀ w', Blk w' g t (writes cs i u.cells.toList) → w.grownBy w' (some g) → w'.heap.size = w.heap.size → K (a.put o.dst undef) w') : o.wp P a w K Q := by
  obtain ⟨w', hr, hB', hg, hz⟩ := run_storeCells_blk (P := P) g u.cells.toList w cs i 0 h1 hB (by simpa using hin)
  obtain ⟨inf, hi, hs⟩ : ∃ inf, P.info? T = some inf ∧ inf.size = u.cells.size := by
    cases hh : P.info? T with
    | none => rw [hh] at hsz; cases hsz
    | some inf => rw [hh] at hsz; exact ⟨inf, rfl, by simpa using hsz⟩
  unfold Oper.wp execOp
  simp only [ho, hx, hy, Instr.storeAt, Instr.sureAddr, storeVar, sizeOf, typeInfo, Sem.run_bind, Sem.run_pure, Result.andThen_ok, run_program, hi, hs, ne_eq, not_true_eq_false, if_false, hr]
  exact h w' (by simpa using hB') hg hz

theorem wpList_store_blk {ops : Array Oper} {rest : List Oper} {o : Oper} {a : Act} {w : World} {Q : Exit → Act → World → Prop} (hgd : o.guard = none) (T : TypeId) (x y : Operand) (ho : o.op = .store T x y)
    (g i : Nat) (hx : a.eval x = .pointer (some ⟨g, i, none⟩)) (u : Value) (hy : a.eval y = u) (hsz : (P.info? T).map (·.size) = some u.cells.size) (h1 : ∀ v ∈ u.cells.toList, v.oneCell' = true)
    {t : TypeId} {cs : Array Value} (hB : Blk w g t cs) (hin : i + u.cells.size ≤ cs.size)
    (h : ∀ w', Blk w' g t (writes cs i u.cells.toList) → w.grownBy w' (some g) → w'.heap.size = w.heap.size → wpList P ops Q rest (a.put o.dst undef) w') : wpList P ops Q (o :: rest) a w :=
  wpList_plain hgd fun _ hK => wp_store_blk T x y ho g i hx u hy hsz h1 hB hin fun w' h2 h3 h4 => hK _ _ (h w' h2 h3 h4)

theorem below_grown {B : Nat} {a w w' : World} {g : Nat} (h : Below B a w) (hg : w.grownBy w' (some g)) (hB : B ≤ g) (hz : B ≤ w.heap.size) : Below B a w' :=
  h.grown hg hz (fun k e => by cases e; exact hB)
end
end Go.Proofs.YtbgmjlonbbmffaaDoor
