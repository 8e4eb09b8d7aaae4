/- What LogLines' walk needs beside the contracts: readings under writes elsewhere; a row of one item; a line's length. -/
import Derived.Test.YtbgmjlonbbmffaaDoorL24
import Derived.Test.YtbgmjlonbbmffaaDoorL36
import Derived.Test.YtbgmjlonbbmffaaDoorP4
namespace Go.Proofs.YtbgmjlonbbmffaaDoor
open Go Go.RowKit
/-- A cell below stays. -/
theorem cell_low {w w' : World} {base b i : Nat} {v : Value} (h : w.cell? ⟨b, i, none⟩ = some v) (hl : Below base w w') (hb : b < base) : w'.cell? ⟨b, i, none⟩ = some v :=
  (World.cell?_of_block (w := w) (hl.block b hb)).trans h
theorem IntsAt.low {w w' : World} {base : Nat} {F : Nat → Prop} {v : Value} {l : List Int} (h : IntsAt w F v l) (hl : Below base w w') (hF : ∀ b, F b → b < base) : IntsAt w' F v l := by
  obtain ⟨oa, cap, hv, hm, h⟩ := h
  refine ⟨oa, cap, hv, hm, fun hne => ?_⟩
  obtain ⟨b, off, h1, h2, h3⟩ := h hne
  exact ⟨b, off, h1, h2, fun i x hi => cell_low (h3 i x hi) hl (hF b h2)⟩
theorem StepsAt.low {w w' : World} {base : Nat} {F : Nat → Prop} {v : Value} {l : List StepD} (h : StepsAt w F v l) (hl : Below base w w') (hF : ∀ b, F b → b < base) : StepsAt w' F v l := by
  obtain ⟨oa, cap, hv, hm, h⟩ := h
  refine ⟨oa, cap, hv, hm, fun hne => ?_⟩
  obtain ⟨b, off, h1, h2, h3⟩ := h hne
  refine ⟨b, off, h1, h2, fun i x hi => ?_⟩
  obtain ⟨pv, h4, h5⟩ := h3 i x hi
  exact ⟨pv, h4.low hl hF, fun j y hj => cell_low (h5 j y hj) hl (hF b h2)⟩
theorem ItemsAt.low {w w' : World} {base : Nat} {F : Nat → Prop} {v : Value} {l : List ItemD} (h : ItemsAt w F v l) (hl : Below base w w') (hF : ∀ b, F b → b < base) : ItemsAt w' F v l := by
  obtain ⟨oa, cap, hv, hm, hok, h⟩ := h
  refine ⟨oa, cap, hv, hm, hok, fun hne => ?_⟩
  obtain ⟨b, off, h1, h2, h3⟩ := h hne
  refine ⟨b, off, h1, h2, fun i x hi => ?_⟩
  obtain ⟨pv, h4, h5⟩ := h3 i x hi
  exact ⟨pv, h4.low hl hF, fun j y hj => cell_low (h5 j y hj) hl (hF b h2)⟩
theorem SegsAt.low {w w' : World} {base : Nat} {F : Nat → Prop} {v : Value} {gs : List (List StepD)} (h : SegsAt w F v gs) (hl : Below base w w') (hF : ∀ b, F b → b < base) : SegsAt w' F v gs := by
  obtain ⟨oa, cap, hv, hm, h⟩ := h
  refine ⟨oa, cap, hv, hm, fun hne => ?_⟩
  obtain ⟨b, h1, h2, h3⟩ := h hne
  refine ⟨b, h1, h2, fun i g hi => ?_⟩
  obtain ⟨sv, h4, h5, h6⟩ := h3 i g hi
  exact ⟨sv, h4.low hl hF, cell_low h5 hl (hF b h2), h6⟩
/-- A row of one item. -/
theorem items_single {W : World} {F : Nat → Prop} {x : ItemD} {pv : Value} {A c : Nat} {t : TypeId} (hB : Blk W A t #[.bool x.mark, .int .u8 (x.step.pass : Int), .int .u8 (x.step.way : Int), .int .i64 x.step.rule, pv, .int .i64 x.step.place]) (hok : x.step.ok) (hp : IntsAt W F pv x.step.path) (hF : F A) : ItemsAt W F (.slice (some ⟨A, 0, none⟩) 1 c) [x] := by
  refine ⟨_, _, rfl, by simp [maxLen], fun y hy => by obtain rfl := List.mem_singleton.1 hy; exact hok, fun _ => ⟨A, 0, rfl, hF, fun i y hi => ?_⟩⟩
  cases i with
  | zero =>
    simp at hi
    subst hi
    refine ⟨pv, hp, fun j u hj => ?_⟩
    rw [show 0 + 0 * 6 + j = j by omega, hB.cell]
    simpa [itemCells, stepCells] using hj
  | succ i => simp at hi
theorem shown_len {x : ItemD} (hok : x.step.ok) : (showP x).length ≤ 1000 := by
  unfold showP
  split
  · rename_i hm
    unfold showB
    split
    · simp
    · rename_i hmk
      obtain ⟨_, h1, h2, h3, h4⟩ := mayB_spec hm (by simpa using hmk)
      have a1 := itoa_len (n := (x.step.pass : Int)) (by omega) (by have := hok.1; omega)
      have a2 := itoa_len (n := (x.step.way : Int)) (by omega) (by have := hok.2; omega)
      have a3 := itoa_len h1.1 h1.2
      have a4 := itoa_len h2.1 h2.2
      have a5 := pathS_len h4
      simp only [List.length_append, List.length_cons, List.length_nil]
      omega
  · simp
/-- A step of a slice of steps, its bytes. -/
theorem readP_okS (s : List UInt8) : (readP s).1.step.ok := (readP_ok s).2
theorem Sp.below {base : Nat} {w w' : World} (h : Sp base w w') : Below base w w' := h.low
end Go.Proofs.YtbgmjlonbbmffaaDoor
