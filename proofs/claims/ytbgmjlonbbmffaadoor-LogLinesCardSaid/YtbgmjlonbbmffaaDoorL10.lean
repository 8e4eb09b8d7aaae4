/- Decode: what it computes; a row of items. -/
import Derived.Test.YtbgmjlonbbmffaaDoorL9
namespace Go.Proofs.YtbgmjlonbbmffaaDoor
open Go Go.RowKit
theorem itemP_ok {t : ByteArray} {p : Nat} (hp : p ≤ t.size) : (itemP t p).1.step.ok ∧ (itemP t p).2.2 ≤ t.size := by
  have hz : zeroS.ok := ⟨by decide, by decide⟩
  have hpath : ∀ (k : Nat) (acc : List Int) (q : Nat), q ≤ t.size → (pathG t k acc q).2.2 ≤ t.size := by
    intro k
    induction k with
    | zero => intro acc q hq; exact hq
    | succ k ih =>
      intro acc q hq
      unfold pathG
      have := (@numP_ok t 2147483647 q hq).2
      split
      · exact ih _ _ this
      · exact this
  unfold itemP itemA
  have h1 := @numP_ok t 255 p hp
  generalize numP t 255 p = r1 at h1 ⊢
  split
  · split
    · exact ⟨hz, h1.2⟩
    · unfold itemB
      have h2 := @numP_ok t 255 r1.2.2 h1.2
      generalize numP t 255 r1.2.2 = r2 at h2 ⊢
      split
      · unfold itemC
        have h3 := @numP_ok t 2147483647 r2.2.2 h2.2
        generalize numP t 2147483647 r2.2.2 = r3 at h3 ⊢
        split
        · unfold itemD
          have h4 := @numP_ok t 32 r3.2.2 h3.2
          generalize numP t 32 r3.2.2 = r4 at h4 ⊢
          split
          · unfold itemE
            have h5 := hpath r4.1 [] r4.2.2 h4.2
            generalize pathG t r4.1 [] r4.2.2 = r5 at h5 ⊢
            have h6 := @numP_ok t 2147483647 r5.2.2 h5
            split
            · split
              · exact ⟨⟨by simp only; omega, by simp only; omega⟩, h6.2⟩
              · exact ⟨hz, h6.2⟩
            · exact ⟨hz, h5⟩
          · exact ⟨hz, h4.2⟩
        · exact ⟨hz, h3.2⟩
      · exact ⟨hz, h2.2⟩
  · exact ⟨hz, h1.2⟩
/-- k items read. -/
def itemsG (t : ByteArray) : Nat → List ItemD → Nat → List ItemD × Nat × Nat
  | 0, acc, p => (acc, 0, p)
  | k + 1, acc, p => if (itemP t p).2.1 = 0 then itemsG t k (acc ++ [(itemP t p).1]) (itemP t p).2.2 else ([], (itemP t p).2.1, (itemP t p).2.2)
def decE (t : ByteArray) (r : List ItemD × Nat × Nat) : List ItemD × Nat := if r.2.1 = 0 then (if r.2.2 < t.size then ([], 10) else (r.1, 0)) else ([], r.2.1)
def decA (t : ByteArray) (r : Nat × Nat × Nat) : List ItemD × Nat := if r.2.1 = 0 then (if 4096 < r.1 then ([], 40) else decE t (itemsG t r.1 [] r.2.2)) else ([], r.2.1)
/-- A text read as a log: the items, the error. -/
def decP (t : ByteArray) : List ItemD × Nat := decA t (numP t 2147483647 0)
def cellsOf (ps : List (ItemD × Value)) : List Value := ps.flatMap fun p => itemCells p.1 p.2
theorem cellsOf_length (ps : List (ItemD × Value)) : (cellsOf ps).length = 6 * ps.length := by
  induction ps with
  | nil => rfl
  | cons p ps ih =>
    have : cellsOf (p :: ps) = itemCells p.1 p.2 ++ cellsOf ps := rfl
    rw [this, List.length_append, ih]
    simp [itemCells, stepCells]; omega
theorem cellsOf_get : ∀ (ps : List (ItemD × Value)) (i j : Nat) (p : ItemD × Value) (y : Value), ps[i]? = some p → (itemCells p.1 p.2)[j]? = some y → (cellsOf ps)[i * 6 + j]? = some y
  | [], i, j, p, y, h, _ => by simp at h
  | q :: ps, i, j, p, y, h, hj => by
    have e : cellsOf (q :: ps) = itemCells q.1 q.2 ++ cellsOf ps := rfl
    have hl : (itemCells q.1 q.2).length = 6 := rfl
    cases i with
    | zero =>
      simp only [List.getElem?_cons_zero, Option.some.injEq] at h
      subst h
      rw [e, List.getElem?_append_left (by have := (List.getElem?_eq_some_iff.1 hj).1; rw [hl] at this ⊢; omega)]
      simpa using hj
    | succ i =>
      simp only [List.getElem?_cons_succ] at h
      rw [e, List.getElem?_append_right (by rw [hl]; omega), hl]
      have := cellsOf_get ps i j p y h hj
      rwa [show (i + 1) * 6 + j - 6 = i * 6 + j by omega]
/-- A row that holds items is a slice of items. -/
theorem items_of_row {W : World} {F : Nat → Prop} {base : Nat} {u : Value} {n : Nat} {ps : List (ItemD × Value)} (h : W.ownsRow base 37 6 u n (cellsOf ps)) (hn : n = ps.length) (hl : n ≤ 5000) (hok : ∀ p ∈ ps, p.1.step.ok) (hp : ∀ p ∈ ps, IntsAt W F p.2 p.1.step.path) (hF : ∀ b, base ≤ b → b < W.heap.size → F b) :
    ItemsAt W F u (ps.map (·.1)) := by
  subst hn
  have hc := fun g hg => h.cells (g := g) hg
  have ht := h.lt
  rcases h.2 with ⟨rfl, hnil⟩ | ⟨g, cap, cur, rfl, _⟩
  · have : ps = [] := by
      have := cellsOf_length ps
      rw [hnil] at this
      exact List.eq_nil_of_length_eq_zero (by simp at this; omega)
    subst this
    exact ⟨none, 0, rfl, by simp [maxLen], by simp, fun h => absurd rfl h⟩
  · refine ⟨_, _, by rw [List.length_map], by unfold maxLen; rw [List.length_map]; omega, ?_, fun _ => ⟨g, 0, rfl, hF g (ht g rfl).1 (ht g rfl).2, fun i x hi => ?_⟩⟩
    · intro x hx
      obtain ⟨p, hp1, rfl⟩ := List.mem_map.1 hx
      exact hok p hp1
    · rw [List.getElem?_map] at hi
      obtain ⟨p, hp1, rfl⟩ := Option.map_eq_some_iff.1 hi
      refine ⟨p.2, hp p (List.mem_of_getElem? hp1), fun j y hj => ?_⟩
      have h2 := hc g rfl (i * 6 + j) y (cellsOf_get ps i j p y hp1 hj)
      have hadd : (⟨g, 0, none⟩ : Addr).add (i * 6 + j) = ⟨g, i * 6 + j, none⟩ := by unfold Addr.add; split <;> simp_all
      rw [hadd] at h2
      simpa using h2
end Go.Proofs.YtbgmjlonbbmffaaDoor
