/- The runs of a set with a range more: they cost no more than both. No program here. -/
import Derived.Test.YtakcckdnliiieaaDoorQ26
import Derived.Test.YtakcckdnliiieaaDoorQ18
namespace Go.Proofs.YtakcckdnliiieaaDoor
open Go Go.RowKit
/-- Runs that stand apart, in order, from a number on. -/
def Sep : Nat → List (Nat × Nat) → Prop
  | _, [] => True
  | lo, r :: l => lo ≤ r.1 ∧ r.1 ≤ r.2 ∧ r.2 < 256 ∧ Sep (r.2 + 2) l
theorem Sep.mono : ∀ {lo lo' : Nat} {l : List (Nat × Nat)}, Sep lo l → lo' ≤ lo → Sep lo' l
  | _, _, [], _, _ => trivial
  | _, _, _ :: _, h, hl => ⟨Nat.le_trans hl h.1, h.2⟩
theorem Sep.of_apart : ∀ (l : List (Nat × Nat)) (lo : Nat), Apart l → (∀ r, l.head? = some r → lo ≤ r.1) → Sep lo l
  | [], _, _, _ => trivial
  | r :: l, lo, h, h0 => by
    have he := h.each 0 (by simp)
    refine ⟨h0 r rfl, he.1, he.2, Sep.of_apart l _ ⟨fun i hi => by have := h.each (i + 1) (by simp; omega); simpa using this, fun i hi => by have := h.gap (i + 1) (by simp; omega); simpa using this⟩ ?_⟩
    intro q hq
    cases l with
    | nil => simp at hq
    | cons p l => have := h.gap 0 (by simp); simp at hq; subst hq; simpa using this
theorem inRuns_cons (r : Nat × Nat) (l : List (Nat × Nat)) (n : Nat) : inRuns (r :: l) n = ((decide (r.1 ≤ n) && decide (n ≤ r.2)) || inRuns l n) := by simp [inRuns]
theorem Sep.from : ∀ {lo : Nat} {l : List (Nat × Nat)} {n : Nat}, Sep lo l → inRuns l n = true → lo ≤ n
  | _, [], _, _, h => by simp [inRuns] at h
  | lo, r :: l, n, hs, h => by
    rw [inRuns_cons, Bool.or_eq_true] at h
    rcases h with h | h
    · simp at h; have := hs.1; omega
    · have := Sep.from hs.2.2.2 h; have := hs.1; have := hs.2.1; omega
theorem Sep.unique : ∀ {lo : Nat} {l m : List (Nat × Nat)}, Sep lo l → Sep lo m → (∀ n, inRuns l n = inRuns m n) → l = m
  | _, [], [], _, _, _ => rfl
  | _, [], r :: m, _, hm, h => by
    have := h r.1
    rw [inRuns_cons] at this
    have h2 := hm.2.1
    simp [inRuns, h2] at this
  | _, r :: l, [], hl, _, h => by
    have := h r.1
    rw [inRuns_cons] at this
    have h2 := hl.2.1
    simp [inRuns, h2] at this
  | lo, r :: l, q :: m, hl, hm, h => by
    have bl := hl.2.1
    have bm := hm.2.1
    have nol : ∀ n, n < r.2 + 2 → inRuns l n = false := fun n hn => by
      cases hh : inRuns l n
      · rfl
      · have := Sep.from hl.2.2.2 hh; omega
    have nom : ∀ n, n < q.2 + 2 → inRuns m n = false := fun n hn => by
      cases hh : inRuns m n
      · rfl
      · have := Sep.from hm.2.2.2 hh; omega
    have e1 : r.1 = q.1 := by
      rcases Nat.lt_trichotomy r.1 q.1 with h1 | h1 | h1
      · have := h r.1
        rw [inRuns_cons, inRuns_cons, nom r.1 (by omega)] at this
        simp [bl] at this; omega
      · exact h1
      · have := h q.1
        rw [inRuns_cons, inRuns_cons, nol q.1 (by omega)] at this
        simp [bm] at this; omega
    have e2 : r.2 = q.2 := by
      rcases Nat.lt_trichotomy r.2 q.2 with h1 | h1 | h1
      · have := h (r.2 + 1)
        rw [inRuns_cons, inRuns_cons, nol _ (by omega), show decide (r.2 + 1 ≤ r.2) = false from decide_eq_false (by omega), show decide (q.1 ≤ r.2 + 1) = true from decide_eq_true (by omega), show decide (r.2 + 1 ≤ q.2) = true from decide_eq_true (by omega)] at this
        simp at this
      · exact h1
      · have := h (q.2 + 1)
        rw [inRuns_cons, inRuns_cons, nom _ (by omega), show decide (q.2 + 1 ≤ q.2) = false from decide_eq_false (by omega), show decide (r.1 ≤ q.2 + 1) = true from decide_eq_true (by omega), show decide (q.2 + 1 ≤ r.2) = true from decide_eq_true (by omega)] at this
        simp at this
    have e3 : r = q := Prod.ext e1 e2
    subst e3
    have : l = m := Sep.unique hl.2.2.2 hm.2.2.2 fun n => by
      by_cases hn : n < r.2 + 2
      · rw [nol n hn, nom n hn]
      · have := h n
        rw [inRuns_cons, inRuns_cons] at this
        rw [show decide (n ≤ r.2) = false from decide_eq_false (by omega)] at this
        simpa using this
    rw [this]
/-- A range more. -/
def insR (a b : Nat) : List (Nat × Nat) → List (Nat × Nat)
  | [] => [(a, b)]
  | r :: l => if b + 1 < r.1 then (a, b) :: r :: l else if r.2 + 1 < a then r :: insR a b l else insR (min a r.1) (max b r.2) l
theorem Sep.ins : ∀ (l : List (Nat × Nat)) (lo a b : Nat), Sep lo l → lo ≤ a → a ≤ b → b < 256 → Sep lo (insR a b l)
  | [], _, _, _, _, h1, h2, h3 => ⟨h1, h2, h3, trivial⟩
  | r :: l, lo, a, b, h, h1, h2, h3 => by
    unfold insR
    split
    · exact ⟨h1, h2, h3, by omega, h.2⟩
    · split
      · exact ⟨h.1, h.2.1, h.2.2.1, Sep.ins l _ a b h.2.2.2 (by omega) h2 h3⟩
      · have := h.1; have := h.2.1; have := h.2.2.1
        exact Sep.ins l lo _ _ (h.2.2.2.mono (by omega)) (by omega) (by omega) (by omega)
theorem inRuns_ins : ∀ (l : List (Nat × Nat)) (lo a b n : Nat), Sep lo l → a ≤ b → inRuns (insR a b l) n = ((decide (a ≤ n) && decide (n ≤ b)) || inRuns l n)
  | [], _, _, _, _, _, _ => by simp [insR, inRuns]
  | r :: l, lo, a, b, n, h, h2 => by
    unfold insR
    split
    · simp [inRuns]
    · split
      · rw [inRuns_cons, inRuns_cons, inRuns_ins l _ a b n h.2.2.2 h2, Bool.or_left_comm]
      · have h3 := h.2.1
        rw [inRuns_cons, inRuns_ins l _ _ _ n h.2.2.2 (by omega), ← Bool.or_assoc]
        congr 1
        rw [Bool.eq_iff_iff]
        simp
        omega
theorem runT_length (L : List UInt8) (r : Nat × Nat) : (runT L r).length = (sgn L r.1).length + (if r.1 + 1 < r.2 then 1 else 0) + (if r.1 < r.2 then (sgn L r.2).length else 0) := by
  unfold runT
  split <;> split <;> simp <;> omega
theorem runsT_cons (L : List UInt8) (r : Nat × Nat) (l : List (Nat × Nat)) : runsT L (r :: l) = runT L r ++ runsT L l := by simp [runsT]
theorem merge_cost (L : List UInt8) (a b c d : Nat) (h1 : a ≤ b) (h2 : c ≤ d) (h3 : ¬ b + 1 < c) (h4 : ¬ d + 1 < a) : (runT L (min a c, max b d)).length ≤ (runT L (a, b)).length + (runT L (c, d)).length := by
  rw [runT_length, runT_length, runT_length]
  have pa := sgn_pos L a
  have pb := sgn_pos L b
  have pc := sgn_pos L c
  have pd := sgn_pos L d
  simp only
  rcases Nat.le_total a c with hac | hac
  · rw [Nat.min_eq_left hac]
    rcases Nat.le_total b d with hbd | hbd
    · rw [Nat.max_eq_right hbd]
      by_cases hcd : c = d
      · subst hcd
        repeat' split
        all_goals omega
      · repeat' split
        all_goals omega
    · rw [Nat.max_eq_left hbd]
      repeat' split
      all_goals omega
  · rw [Nat.min_eq_right hac]
    rcases Nat.le_total b d with hbd | hbd
    · rw [Nat.max_eq_right hbd]
      repeat' split
      all_goals omega
    · rw [Nat.max_eq_left hbd]
      by_cases hab : a = b
      · subst hab
        repeat' split
        all_goals omega
      · repeat' split
        all_goals omega
theorem ins_cost (L : List UInt8) : ∀ (l : List (Nat × Nat)) (lo a b : Nat), Sep lo l → a ≤ b → (runsT L (insR a b l)).length ≤ (runT L (a, b)).length + (runsT L l).length
  | [], _, a, b, _, _ => by simp [insR, runsT]
  | r :: l, lo, a, b, h, h2 => by
    unfold insR
    split
    · rw [runsT_cons, List.length_append]; omega
    · split
      · have := ins_cost L l _ a b h.2.2.2 h2
        rw [runsT_cons, List.length_append, runsT_cons, List.length_append]; omega
      · rename_i h3 h4
        have h5 := h.2.1
        have := ins_cost L l _ (min a r.1) (max b r.2) h.2.2.2 (by omega)
        have hm : _ ≤ _ + (runT L r).length := merge_cost L a b r.1 r.2 h2 h5 h3 h4
        rw [runsT_cons, List.length_append]
        omega
theorem sep_runs (s : BS) : Sep 0 s.runs := Sep.of_apart _ _ (apart_runs s) (fun _ _ => Nat.zero_le _)
theorem inRuns_runs (s : BS) (n : Nat) : inRuns s.runs n = (decide (n < 256) && s.has n) := by
  rw [BS.runs_eq, BS.list_eq]; exact (runs_good s 256 (Nat.le_refl _)).2.1 n
theorem runs_ins (s : BS) (a b : Nat) (h : a ≤ b) (hb : b < 256) : (s.or (BS.range a b)).runs = insR a b s.runs :=
  Sep.unique (sep_runs _) (Sep.ins _ _ _ _ (sep_runs s) (Nat.zero_le _) h hb) fun n => by
    rw [inRuns_ins _ _ _ _ _ (sep_runs s) h, inRuns_runs, inRuns_runs]
    by_cases hn : n < 256
    · rw [BS.has_or, BS.has_range _ _ _ hn, decide_eq_true hn]
      simp [Bool.or_comm]
    · rw [decide_eq_false hn, show decide (n ≤ b) = false from decide_eq_false (by omega)]
      simp
def costS (s : BS) : Nat := (runsT clsL s.runs).length
theorem cost_or (s : BS) (a b : Nat) (h : a ≤ b) (hb : b < 256) : costS (s.or (BS.range a b)) ≤ costS s + (runT clsL (a, b)).length := by
  unfold costS
  rw [runs_ins s a b h hb]
  have := ins_cost clsL s.runs 0 a b (sep_runs s) h
  omega
theorem classB_cost (s : BS) : (classB s).length ≤ 2 + costS s := by
  unfold classB costS
  split
  · simp; omega
  · simp; omega
theorem cost_zero : costS BS.zero = 0 := by decide +kernel
end Go.Proofs.YtakcckdnliiieaaDoor
