/- A row with an item by value: it is opened, and it reads behind the call as before. -/
import Derived.Test.YtbgmjlonbbmffaaDoorArg2
namespace Go.Proofs.YtbgmjlonbbmffaaDoor
open Go Go.RowKit Go.ChangeShapes Go.WideShapes Go.ChangeAt
set_option maxRecDepth 100000 in
theorem open_itemV {H : Type} {enc : TypeId × Value → H} {w : World} {base : Nat} {spare : Nat → Bool} {held : Bool} {r : Reach} {b0 : Nat} {v : Value} {d : DataW H} {ps : List MemPlace} (hval : Value.okWide Tryd.prog w r b0 37 v) (hd : DataW.Trod enc Tryd.prog w base spare held 37 v d ps) :
    ∃ (x : ItemD) (pv : Value), v = .agg #[.bool x.mark, .int .u8 (x.step.pass : Int), .int .u8 (x.step.way : Int), .int .i64 x.step.rule, pv, .int .i64 x.step.place] ∧ x.step.ok ∧ IntsAt w (Old w) pv x.step.path := by
  obtain ⟨cs, rfl, _⟩ := okWide_struct Tryd.underlying37 hval
  obtain ⟨fuel, hf⟩ := hd
  obtain ⟨s, pv, hcs, hok, hp⟩ := open_item hf
  refine ⟨s, pv, ?_, hok, hp⟩
  have hcs' : cs.toList = itemCells s pv := hcs
  exact congrArg Value.agg (Array.toList_inj.1 hcs')
theorem shut_item {H : Type} {enc : TypeId × Value → H} {base : Nat} {W W' : World} {sp' : Nat → Bool} {v : Value} {d : DataW H} {ps : List MemPlace} (h : DataW.Trod enc Tryd.prog W base (fun _ => true) true 37 v d ps) (hb : Below W.heap.size W W') (hlt : ∀ p ∈ ps, p.block < W.heap.size) (hs : ∀ p ∈ ps, sp' p.block = true) :
    DataW.Trod enc Tryd.prog W' base sp' true 37 v d ps :=
  Go.WideElems.Trod_stays (by kernel_rfl) (by kernel_rfl) (of_decide_eq_true (by kernel_rfl)) h (fun p hp => hb.same (hlt p hp)) hs
end Go.Proofs.YtbgmjlonbbmffaaDoor
