/- Passing over an operation whose guard says no: by the guard's own value. -/
import Derived.Test.YtbgmjlonbbmffaaDoorLay
namespace Go.Proofs.YtbgmjlonbbmffaaDoor
open Go Go.RowKit
section
variable {P : Program} {ops : Array Oper} {C : World → Prop}
theorem wanted_no {o : Oper} {y : Nat → Option Bool} {j : Nat} {want b : Bool} (hg : o.guard = some (j, want)) (hy : y j = some b) (hne : (!b) = want) : Region.wanted o y = false := by
  unfold Region.wanted
  rw [hg]
  simp only [hy]
  subst hne
  cases b <;> rfl
theorem quiet_pass {Q : Act → Prop} {a : Act} {o : Oper} {rest : List Oper} {j : Nat} {want b : Bool} (hg : o.guard = some (j, want)) (hy : yielded ops a.tmps j = some b) (hne : (!b) = want)
    (hK : wpQuiet P ops C Q rest (a.put o.dst undef)) : wpQuiet P ops C Q (o :: rest) a := quiet_skip (wanted_no hg hy hne) hK
theorem lay_pass {Q : Act → World → Prop} {a : Act} {o : Oper} {bb : Bool} {r : List (Bool × Oper)} {j : Nat} {want b : Bool} (hg : o.guard = some (j, want)) (hy : yielded ops a.tmps j = some b) (hne : (!b) = want)
    (hK : wpM P ops Q r (a.put o.dst undef) C) : wpM P ops Q ((bb, o) :: r) a C := lay_skip (wanted_no hg hy hne) hK
end
end Go.Proofs.YtbgmjlonbbmffaaDoor
