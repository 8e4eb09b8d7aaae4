/- SetRuns: the plain law. -/
import Derived.Test.YtakcckdnliiieaaDoorSet11
namespace Go.Proofs.YtakcckdnliiieaaDoor
open Go Go.RowKit
/-- Runs that stand apart, in order. -/
structure Apart (rs : List (Nat × Nat)) : Prop where
  each : ∀ i (h : i < rs.length), rs[i].1 ≤ rs[i].2 ∧ rs[i].2 < 256
  gap : ∀ i (h : i + 1 < rs.length), rs[i].2 + 2 ≤ rs[i + 1].1
def inRuns (rs : List (Nat × Nat)) (m : Nat) : Bool := rs.any fun r => decide (r.1 ≤ m) && decide (m ≤ r.2)
def sumRuns (rs : List (Nat × Nat)) : Nat := (rs.map fun r => r.2 + 1 - r.1).sum
theorem inRuns_append (a b : List (Nat × Nat)) (m : Nat) : inRuns (a ++ b) m = (inRuns a m || inRuns b m) := by simp [inRuns]
theorem sumRuns_append (a b : List (Nat × Nat)) : sumRuns (a ++ b) = sumRuns a + sumRuns b := by simp [sumRuns]
theorem Apart.nil : Apart [] := ⟨by simp, by simp⟩
theorem Apart.snoc {q : List (Nat × Nat)} {r : Nat × Nat} (h : Apart q) (h1 : r.1 ≤ r.2 ∧ r.2 < 256) (h2 : ∀ p, q.getLast? = some p → p.2 + 2 ≤ r.1) : Apart (q ++ [r]) := by
  constructor
  · intro i hi
    rcases Nat.lt_or_ge i q.length with hlt | hge
    · rw [List.getElem_append_left hlt]; exact h.each i hlt
    · have : i = q.length := by simp at hi; omega
      subst this
      simpa using h1
  · intro i hi
    rcases Nat.lt_or_ge (i + 1) q.length with hlt | hge
    · rw [List.getElem_append_left hlt, List.getElem_append_left (by omega)]; exact h.gap i hlt
    · have hq : i + 1 = q.length := by simp at hi; omega
      rw [List.getElem_append_left (by omega), List.getElem_append_right (by omega)]
      simp only [hq, Nat.sub_self, List.getElem_cons_zero]
      refine h2 _ ?_
      rw [List.getLast?_eq_getElem?, show q.length - 1 = i by omega]
      exact List.getElem?_eq_getElem (by omega)
theorem Apart.head {q : List (Nat × Nat)} {r : Nat × Nat} (h : Apart (q ++ [r])) : Apart q ∧ (r.1 ≤ r.2 ∧ r.2 < 256) ∧ ∀ p, q.getLast? = some p → p.2 + 2 ≤ r.1 := by
  refine ⟨⟨fun i hi => ?_, fun i hi => ?_⟩, ?_, fun p hp => ?_⟩
  · have := h.each i (by simp; omega)
    rwa [List.getElem_append_left hi] at this
  · have := h.gap i (by simp; omega)
    rwa [List.getElem_append_left hi, List.getElem_append_left (by omega)] at this
  · have := h.each q.length (by simp)
    simpa using this
  · rw [List.getLast?_eq_getElem?] at hp
    obtain ⟨hlt, he⟩ := List.getElem?_eq_some_iff.1 hp
    have := h.gap (q.length - 1) (by simp; omega)
    rw [List.getElem_append_left hlt, List.getElem_append_right (by omega)] at this
    rw [he] at this
    simpa [show q.length - 1 + 1 - q.length = 0 by omega] using this
theorem runs_good (s : BS) : ∀ n, n ≤ 256 → Apart (runsL (s.upTo n)) ∧ (∀ m, inRuns (runsL (s.upTo n)) m = (decide (m < n) && s.has m)) ∧ sumRuns (runsL (s.upTo n)) = (s.upTo n).length
  | 0, _ => ⟨Apart.nil, fun m => by simp [BS.upTo, runsL, inRuns], by simp [BS.upTo, runsL, sumRuns]⟩
  | n + 1, hn => by
    obtain ⟨h1, h2, h3⟩ := runs_good s n (by omega)
    rw [BS.upTo_succ]
    cases hh : s.has n
    · simp only [Bool.false_eq_true, if_false, List.append_nil]
      refine ⟨h1, fun m => ?_, h3⟩
      rw [h2 m]
      by_cases e : m = n
      · subst e; simp [hh]
      · have : (m < n) ↔ (m < n + 1) := by omega
        simp [this]
    · simp only [if_true, runsL_snoc, List.length_append, List.length_singleton]
      have hone : ∀ m, (decide (m < n + 1) && s.has m) = ((decide (m < n) && s.has m) || decide (m = n)) := by
        intro m
        by_cases e : m = n
        · subst e; simp [hh]
        · have : (m < n + 1) ↔ (m < n) := by omega
          simp [this, e]
      rcases runs_cases (runsL (s.upTo n)) with e | ⟨q, a, z, e⟩
      · rw [e] at h1 h2 h3 ⊢
        rw [addRun_nil]
        refine ⟨(Apart.snoc (q := []) h1 ⟨Nat.le_refl _, by omega⟩ (by simp)), fun m => ?_, by rw [← h3]; simp [sumRuns]⟩
        rw [hone, ← h2 m]
        simp only [inRuns, List.any_nil, Bool.false_or, List.any_cons, Bool.or_false]
        by_cases e' : m = n
        · subst e'; simp
        · have : ¬ (n ≤ m ∧ m ≤ n) := by omega
          simp only [e', decide_false]
          rw [← Bool.decide_and, decide_eq_false this]
      · have hz := (BS.mem_upTo s n z).1 (runsL_last _ e)
        rw [e] at h1 h2 h3 ⊢
        obtain ⟨g1, g2, g3⟩ := h1.head
        by_cases e1 : z + 1 = n
        · rw [addRun_ext _ _ _ _ e1]
          refine ⟨Apart.snoc g1 ⟨by simp at g2 ⊢; omega, by omega⟩ g3, fun m => ?_, ?_⟩
          · rw [hone, ← h2 m, inRuns_append, inRuns_append, Bool.or_assoc]
            congr 1
            simp only [inRuns, List.any_cons, List.any_nil, Bool.or_false]
            rw [Bool.eq_iff_iff]
            simp at g2 ⊢
            omega
          · rw [← h3, sumRuns_append, sumRuns_append]
            simp [sumRuns] at g2 ⊢
            omega
        · rw [addRun_new _ _ _ _ e1]
          refine ⟨Apart.snoc h1 ⟨Nat.le_refl _, by omega⟩ (fun p hp => by simp at hp; subst hp; simp; omega), fun m => ?_, ?_⟩
          · rw [hone, ← h2 m, inRuns_append (q ++ [(a, z)])]
            congr 1
            simp only [inRuns, List.any_cons, List.any_nil, Bool.or_false]
            rw [Bool.eq_iff_iff]
            simp
            omega
          · rw [sumRuns_append, h3]
            simp [sumRuns]
end Go.Proofs.YtakcckdnliiieaaDoor
