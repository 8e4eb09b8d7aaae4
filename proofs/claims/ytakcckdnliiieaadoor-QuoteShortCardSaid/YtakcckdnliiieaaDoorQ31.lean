/- What bytes a literal, and a class, have; and where a quote, or a ], stands within. No program here. -/
import Derived.Test.YtakcckdnliiieaaDoorQ28
namespace Go.Proofs.YtakcckdnliiieaaDoor
open Go Go.RowKit
/-- A byte stands behind a backslash alone. -/
def Behind (z : UInt8) (l : List UInt8) : Prop := ∀ k, l[k]? = some z → ∃ j, k = j + 1 ∧ l[j]? = some 92
def Seen (l : List UInt8) : Prop := ∀ x ∈ l, 32 ≤ x.toNat ∧ x.toNat ≤ 126
theorem Behind.nil {z : UInt8} : Behind z [] := fun k h => by simp at h
theorem Behind.append {z : UInt8} {l m : List UInt8} (h1 : Behind z l) (h2 : Behind z m) : Behind z (l ++ m) := fun k hk => by
  rcases Nat.lt_or_ge k l.length with h | h
  · rw [List.getElem?_append_left h] at hk
    obtain ⟨j, rfl, hj⟩ := h1 k hk
    exact ⟨j, rfl, by rw [List.getElem?_append_left (by omega)]; exact hj⟩
  · rw [List.getElem?_append_right h] at hk
    obtain ⟨j, hj0, hj⟩ := h2 _ hk
    exact ⟨j + l.length, by omega, by rw [List.getElem?_append_right (by omega), Nat.add_sub_cancel]; exact hj⟩
theorem Seen.append {l m : List UInt8} (h1 : Seen l) (h2 : Seen m) : Seen (l ++ m) := fun x hx => by
  rcases List.mem_append.1 hx with h | h
  · exact h1 x h
  · exact h2 x h
theorem lit_signs : ∀ b, b < 256 → (∀ k, k < 4 → (sgn [34] b)[k]? = some 34 → 1 ≤ k ∧ (sgn [34] b)[k - 1]? = some 92) ∧ ∀ x ∈ sgn [34] b, 32 ≤ x.toNat ∧ x.toNat ≤ 126 := by decide +kernel
theorem cls_signs : ∀ b, b < 256 → (∀ k, k < 4 → (sgn clsL b)[k]? = some 93 → 1 ≤ k ∧ (sgn clsL b)[k - 1]? = some 92) ∧ ∀ x ∈ sgn clsL b, 32 ≤ x.toNat ∧ x.toNat ≤ 126 := by decide +kernel
theorem behind_of {L : List UInt8} {z : UInt8} {b : Nat} (h : ∀ k, k < 4 → (sgn L b)[k]? = some z → 1 ≤ k ∧ (sgn L b)[k - 1]? = some 92) : Behind z (sgn L b) := fun k hk => by
  have h1 := sgn_len L b
  have h2 : k < (sgn L b).length := (List.getElem?_eq_some_iff.1 hk).1
  have := h k (by omega) hk
  exact ⟨k - 1, by omega, this.2⟩
theorem behind_sgns : ∀ l : List UInt8, Behind 34 (sgns [34] l) ∧ Seen (sgns [34] l)
  | [] => ⟨Behind.nil, fun x h => by simp [sgns] at h⟩
  | x :: l => by
    have hsg : sgns [34] (x :: l) = sgn [34] x.toNat ++ sgns [34] l := by simp [sgns]
    have ih := behind_sgns l
    have h := lit_signs x.toNat x.toNat_lt
    rw [hsg]
    exact ⟨(behind_of h.1).append ih.1, Seen.append h.2 ih.2⟩
theorem behind_runs : ∀ (rs : List (Nat × Nat)) (lo : Nat), Sep lo rs → Behind 93 (runsT clsL rs) ∧ Seen (runsT clsL rs)
  | [], _, _ => ⟨Behind.nil, fun x h => by simp [runsT] at h⟩
  | r :: l, lo, h => by
    have ih := behind_runs l _ h.2.2.2
    have h1 := h.2.1
    have h2 := h.2.2.1
    have ha := cls_signs r.1 (by omega)
    have hb := cls_signs r.2 h2
    have h45 : Behind 93 [45] := fun k hk => by cases k with | zero => simp at hk | succ k => simp at hk
    have s45 : Seen [45] := fun x hx => by obtain rfl := List.mem_singleton.1 hx; decide
    have snil : Seen [] := fun x hx => by simp at hx
    rw [runsT_cons]
    unfold runT
    refine ⟨Behind.append (Behind.append (Behind.append (behind_of ha.1) ?_) ?_) ih.1, Seen.append (Seen.append (Seen.append ha.2 ?_) ?_) ih.2⟩
    · split
      · exact h45
      · exact Behind.nil
    · split
      · exact behind_of hb.1
      · exact Behind.nil
    · split
      · exact s45
      · exact snil
    · split
      · exact hb.2
      · exact snil
/-- Within brackets q, r: what is seen at a place. -/
theorem within_at {q r z : UInt8} {B : List UInt8} (h : Behind z B) (k : Nat) (h0 : 0 < k) (h1 : k + 1 < (([q] ++ B ++ [r] : List UInt8)).length) (hz : ([q] ++ B ++ [r])[k]? = some z) : ([q] ++ B ++ [r])[k - 1]? = some 92 := by
  have hl : (([q] ++ B ++ [r] : List UInt8)).length = B.length + 2 := by simp
  obtain ⟨k, rfl⟩ : ∃ j, k = j + 1 := ⟨k - 1, by omega⟩
  have e : ([q] ++ B ++ [r])[k + 1]? = B[k]? := by
    rw [List.append_assoc]; simp only [List.cons_append, List.nil_append, List.getElem?_cons_succ]
    rw [List.getElem?_append_left (by omega)]
  rw [e] at hz
  obtain ⟨j, rfl, hj⟩ := h k hz
  rw [show j + 1 + 1 - 1 = j + 1 by omega, List.append_assoc]
  simp only [List.cons_append, List.nil_append, List.getElem?_cons_succ]
  rw [List.getElem?_append_left (by omega)]
  exact hj
theorem litB_plain (l : List UInt8) : 2 ≤ (litB l).length ∧ (litB l)[0]? = some 34 ∧ Seen (litB l) ∧ ∀ k, 0 < k → k + 1 < (litB l).length → (litB l)[k]? = some 34 → (litB l)[k - 1]? = some 92 := by
  have h := behind_sgns l
  have s1 : Seen [34] := fun x hx => by obtain rfl := List.mem_singleton.1 hx; decide
  unfold litB
  exact ⟨by simp, by simp, Seen.append (Seen.append s1 h.2) s1, fun k h0 h1 hz => within_at h.1 k h0 h1 hz⟩
theorem classB_plain {x : BS} (hx : x ≠ BS.full) : 2 ≤ (classB x).length ∧ (classB x)[0]? = some 91 ∧ Seen (classB x) ∧ ∀ k, 0 < k → k + 1 < (classB x).length → (classB x)[k]? = some 93 → (classB x)[k - 1]? = some 92 := by
  have h := behind_runs x.runs 0 (sep_runs x)
  have s1 : Seen [91] := fun x hx => by obtain rfl := List.mem_singleton.1 hx; decide
  have s2 : Seen [93] := fun x hx => by obtain rfl := List.mem_singleton.1 hx; decide
  unfold classB
  rw [if_neg hx]
  exact ⟨by simp, by simp, Seen.append (Seen.append s1 h.2) s2, fun k h0 h1 hz => within_at h.1 k h0 h1 hz⟩
theorem classB_full : classB BS.full = [46] := by unfold classB; rw [if_pos rfl]
end Go.Proofs.YtakcckdnliiieaaDoor
