/- A log's items as they lie in memory: what is read, and that it stays. Over any program. -/
import Derived.Test.YtbgmjlonbbmffaaDoorOwn
namespace Go.Proofs.YtbgmjlonbbmffaaDoor
open Go Go.RowKit
structure StepD where
  pass : Nat
  way : Nat
  rule : Int
  path : List Int
  place : Int
deriving DecidableEq
structure ItemD where
  mark : Bool
  step : StepD
deriving DecidableEq
theorem cell_lt {w : World} {b i : Nat} {v : Value} (h : w.cell? ⟨b, i, none⟩ = some v) : b < w.heap.size := World.block_lt_of_cell? w _ h
/-- A block's content stays. -/
theorem cell_stay {w w' : World} {b i : Nat} {v : Value} {row : Option Nat} (h : w.cell? ⟨b, i, none⟩ = some v) (hg : w.grownBy w' row) (hne : some b ≠ row) : w'.cell? ⟨b, i, none⟩ = some v :=
  (World.cell?_of_block (w := w) (hg.block b (cell_lt h) hne)).trans h
/-- A slice of integers, read; F: the blocks that it lies in. -/
def IntsAt (w : World) (F : Nat → Prop) (v : Value) (l : List Int) : Prop :=
  ∃ oa cap, v = .slice oa l.length cap ∧ l.length ≤ maxLen ∧ (l ≠ [] → ∃ b off, oa = some ⟨b, off, none⟩ ∧ F b ∧ ∀ i x, l[i]? = some x → w.cell? ⟨b, off + i, none⟩ = some (.int .i64 x))
theorem IntsAt.kept {w w' : World} {F : Nat → Prop} {v : Value} {l : List Int} {row : Option Nat} (h : IntsAt w F v l) (hg : w.grownBy w' row) (hF : ∀ r, row = some r → ¬ F r) : IntsAt w' F v l := by
  obtain ⟨oa, cap, hv, hm, h⟩ := h
  refine ⟨oa, cap, hv, hm, fun hne => ?_⟩
  obtain ⟨b, off, h1, h2, h3⟩ := h hne
  exact ⟨b, off, h1, h2, fun i x hi => cell_stay (h3 i x hi) hg (fun e => hF b e.symm h2)⟩
theorem IntsAt.mono {w : World} {F G : Nat → Prop} {v : Value} {l : List Int} (h : IntsAt w F v l) (hFG : ∀ b, F b → G b) : IntsAt w G v l := by
  obtain ⟨oa, cap, hv, hm, h⟩ := h
  refine ⟨oa, cap, hv, hm, fun hne => ?_⟩
  obtain ⟨b, off, h1, h2, h3⟩ := h hne
  exact ⟨b, off, h1, hFG b h2, h3⟩
theorem IntsAt.lies {w w' : World} {F : Nat → Prop} {v : Value} {l : List Int} (h : IntsAt w F v l) (hw : Lies w w') : IntsAt w' F v l :=
  h.kept (row := none) ⟨hw.os, hw.tape, hw.output, hw.size, fun k hk _ => hw.block k hk⟩ (fun _ e => by cases e)
theorem IntsAt.alloc {w : World} {F : Nat → Prop} {v : Value} {l : List Int} (h : IntsAt w F v l) (o : Obj) : IntsAt (w.alloc o) F v l :=
  h.lies ((Lies.start w).alloc (Nat.le_refl _) o)
theorem IntsAt.slice {w : World} {F : Nat → Prop} {v : Value} {l : List Int} (h : IntsAt w F v l) : ∃ oa cap, v = .slice oa l.length cap := by
  obtain ⟨oa, cap, hv, _⟩ := h; exact ⟨oa, cap, hv⟩
theorem IntsAt.cell {w : World} {F : Nat → Prop} {v : Value} {l : List Int} (h : IntsAt w F v l) {i : Nat} (hi : i < l.length) : ∃ b off cap, v = .slice (some ⟨b, off, none⟩) l.length cap ∧ F b ∧ w.cell? ⟨b, off + i, none⟩ = some (.int .i64 l[i]) ∧ b < w.heap.size := by
  obtain ⟨oa, cap, hv, _, h⟩ := h
  obtain ⟨b, off, h1, h2, h3⟩ := h (fun e => by subst e; simp at hi)
  have := h3 i _ (List.getElem?_eq_getElem hi)
  exact ⟨b, off, cap, by rw [hv, h1], h2, this, cell_lt this⟩
/-- A step's five cells. -/
def stepCells (s : StepD) (pv : Value) : List Value := [.int .u8 (s.pass : Int), .int .u8 (s.way : Int), .int .i64 s.rule, pv, .int .i64 s.place]
def itemCells (x : ItemD) (pv : Value) : List Value := .bool x.mark :: stepCells x.step pv
def StepD.ok (s : StepD) : Prop := s.pass < 256 ∧ s.way < 256
/-- A slice of items, read. -/
def ItemsAt (w : World) (F : Nat → Prop) (v : Value) (l : List ItemD) : Prop :=
  ∃ oa cap, v = .slice oa l.length cap ∧ l.length ≤ maxLen ∧ (∀ x ∈ l, x.step.ok) ∧ (l ≠ [] → ∃ b off, oa = some ⟨b, off, none⟩ ∧ F b ∧
    ∀ i x, l[i]? = some x → ∃ pv, IntsAt w F pv x.step.path ∧ ∀ j y, (itemCells x pv)[j]? = some y → w.cell? ⟨b, off + i * 6 + j, none⟩ = some y)
theorem ItemsAt.kept {w w' : World} {F : Nat → Prop} {v : Value} {l : List ItemD} {row : Option Nat} (h : ItemsAt w F v l) (hg : w.grownBy w' row) (hF : ∀ r, row = some r → ¬ F r) : ItemsAt w' F v l := by
  obtain ⟨oa, cap, hv, hm, hok, h⟩ := h
  refine ⟨oa, cap, hv, hm, hok, fun hne => ?_⟩
  obtain ⟨b, off, h1, h2, h3⟩ := h hne
  refine ⟨b, off, h1, h2, fun i x hi => ?_⟩
  obtain ⟨pv, h4, h5⟩ := h3 i x hi
  exact ⟨pv, h4.kept hg hF, fun j y hj => cell_stay (h5 j y hj) hg (fun e => hF b e.symm h2)⟩
theorem ItemsAt.lies {w w' : World} {F : Nat → Prop} {v : Value} {l : List ItemD} (h : ItemsAt w F v l) (hw : Lies w w') : ItemsAt w' F v l :=
  h.kept (row := none) ⟨hw.os, hw.tape, hw.output, hw.size, fun k hk _ => hw.block k hk⟩ (fun _ e => by cases e)
theorem ItemsAt.alloc {w : World} {F : Nat → Prop} {v : Value} {l : List ItemD} (h : ItemsAt w F v l) (o : Obj) : ItemsAt (w.alloc o) F v l :=
  h.lies ((Lies.start w).alloc (Nat.le_refl _) o)
theorem ItemsAt.slice {w : World} {F : Nat → Prop} {v : Value} {l : List ItemD} (h : ItemsAt w F v l) : ∃ oa cap, v = .slice oa l.length cap := by
  obtain ⟨oa, cap, hv, _⟩ := h; exact ⟨oa, cap, hv⟩
/-- An item of a slice: its cells, one by one. -/
theorem ItemsAt.cell {w : World} {F : Nat → Prop} {v : Value} {l : List ItemD} (h : ItemsAt w F v l) {i : Nat} (hi : i < l.length) :
    ∃ b off cap pv, v = .slice (some ⟨b, off, none⟩) l.length cap ∧ F b ∧ b < w.heap.size ∧ IntsAt w F pv l[i].step.path ∧ l[i].step.ok ∧ w.cell? ⟨b, off + i * 6, none⟩ = some (.bool l[i].mark) ∧ w.cell? ⟨b, off + i * 6 + 1, none⟩ = some (.int .u8 (l[i].step.pass : Int)) ∧
      w.cell? ⟨b, off + i * 6 + 2, none⟩ = some (.int .u8 (l[i].step.way : Int)) ∧ w.cell? ⟨b, off + i * 6 + 3, none⟩ = some (.int .i64 l[i].step.rule) ∧ w.cell? ⟨b, off + i * 6 + 4, none⟩ = some pv ∧ w.cell? ⟨b, off + i * 6 + 5, none⟩ = some (.int .i64 l[i].step.place) := by
  obtain ⟨oa, cap, hv, _, hok, h⟩ := h
  obtain ⟨b, off, h1, h2, h3⟩ := h (fun e => by subst e; simp at hi)
  obtain ⟨pv, h4, h5⟩ := h3 i _ (List.getElem?_eq_getElem hi)
  have h0 := h5 0 _ rfl
  exact ⟨b, off, cap, pv, by rw [hv, h1], h2, cell_lt h0, h4, hok _ (List.getElem_mem hi), h0, h5 1 _ rfl, h5 2 _ rfl, h5 3 _ rfl, h5 4 _ rfl, h5 5 _ rfl⟩
/-- A slice of steps, read. -/
def StepsAt (w : World) (F : Nat → Prop) (v : Value) (l : List StepD) : Prop :=
  ∃ oa cap, v = .slice oa l.length cap ∧ l.length ≤ maxLen ∧ (l ≠ [] → ∃ b off, oa = some ⟨b, off, none⟩ ∧ F b ∧
    ∀ i x, l[i]? = some x → ∃ pv, IntsAt w F pv x.path ∧ ∀ j y, (stepCells x pv)[j]? = some y → w.cell? ⟨b, off + i * 5 + j, none⟩ = some y)
theorem StepsAt.kept {w w' : World} {F : Nat → Prop} {v : Value} {l : List StepD} {row : Option Nat} (h : StepsAt w F v l) (hg : w.grownBy w' row) (hF : ∀ r, row = some r → ¬ F r) : StepsAt w' F v l := by
  obtain ⟨oa, cap, hv, hm, h⟩ := h
  refine ⟨oa, cap, hv, hm, fun hne => ?_⟩
  obtain ⟨b, off, h1, h2, h3⟩ := h hne
  refine ⟨b, off, h1, h2, fun i x hi => ?_⟩
  obtain ⟨pv, h4, h5⟩ := h3 i x hi
  exact ⟨pv, h4.kept hg hF, fun j y hj => cell_stay (h5 j y hj) hg (fun e => hF b e.symm h2)⟩
theorem StepsAt.lies {w w' : World} {F : Nat → Prop} {v : Value} {l : List StepD} (h : StepsAt w F v l) (hw : Lies w w') : StepsAt w' F v l :=
  h.kept (row := none) ⟨hw.os, hw.tape, hw.output, hw.size, fun k hk _ => hw.block k hk⟩ (fun _ e => by cases e)
theorem StepsAt.alloc {w : World} {F : Nat → Prop} {v : Value} {l : List StepD} (h : StepsAt w F v l) (o : Obj) : StepsAt (w.alloc o) F v l :=
  h.lies ((Lies.start w).alloc (Nat.le_refl _) o)
theorem StepsAt.slice {w : World} {F : Nat → Prop} {v : Value} {l : List StepD} (h : StepsAt w F v l) : ∃ oa cap, v = .slice oa l.length cap := by
  obtain ⟨oa, cap, hv, _⟩ := h; exact ⟨oa, cap, hv⟩
theorem StepsAt.cell {w : World} {F : Nat → Prop} {v : Value} {l : List StepD} (h : StepsAt w F v l) {i : Nat} (hi : i < l.length) :
    ∃ b off cap pv, v = .slice (some ⟨b, off, none⟩) l.length cap ∧ F b ∧ b < w.heap.size ∧ IntsAt w F pv l[i].path ∧ w.cell? ⟨b, off + i * 5, none⟩ = some (.int .u8 (l[i].pass : Int)) ∧
      w.cell? ⟨b, off + i * 5 + 1, none⟩ = some (.int .u8 (l[i].way : Int)) ∧ w.cell? ⟨b, off + i * 5 + 2, none⟩ = some (.int .i64 l[i].rule) ∧ w.cell? ⟨b, off + i * 5 + 3, none⟩ = some pv ∧ w.cell? ⟨b, off + i * 5 + 4, none⟩ = some (.int .i64 l[i].place) := by
  obtain ⟨oa, cap, hv, _, h⟩ := h
  obtain ⟨b, off, h1, h2, h3⟩ := h (fun e => by subst e; simp at hi)
  obtain ⟨pv, h4, h5⟩ := h3 i _ (List.getElem?_eq_getElem hi)
  have h0 := h5 0 _ rfl
  exact ⟨b, off, cap, pv, by rw [hv, h1], h2, cell_lt h0, h4, h0, h5 1 _ rfl, h5 2 _ rfl, h5 3 _ rfl, h5 4 _ rfl⟩
theorem IntsAt.len {w : World} {F : Nat → Prop} {v : Value} {l : List Int} (h : IntsAt w F v l) : l.length ≤ 9223372036854775807 := by obtain ⟨_, _, _, h, _⟩ := h; unfold maxLen at h; omega
theorem ItemsAt.len {w : World} {F : Nat → Prop} {v : Value} {l : List ItemD} (h : ItemsAt w F v l) : l.length ≤ 9223372036854775807 := by obtain ⟨_, _, _, h, _⟩ := h; unfold maxLen at h; omega
theorem StepsAt.len {w : World} {F : Nat → Prop} {v : Value} {l : List StepD} (h : StepsAt w F v l) : l.length ≤ 9223372036854775807 := by obtain ⟨_, _, _, h, _⟩ := h; unfold maxLen at h; omega
end Go.Proofs.YtbgmjlonbbmffaaDoor
