/- Literals: what was written is read as it was; what is read is not shorter than what is written of it; where a quote stands within. No program here. -/
import Derived.Test.YtakcckdnliiieaaDoorQ26
namespace Go.Proofs.YtakcckdnliiieaaDoor
open Go Go.RowKit
theorem pl_not34 {x : Nat} (h : x = 92 ∨ pl [34] x = true) : x ≠ 34 := by
  rintro rfl
  rcases h with h | h
  · omega
  · revert h; decide
theorem sigs_lit {t : ByteArray} : ∀ (l : List UInt8) (f i : Nat), atL t i (sgns [34] l ++ [34]) → l.length < f → sigs t [34] 34 f i 0 = (l, i + (sgns [34] l).length, 0)
  | [], f + 1, i, h, _ => by
    have h0 : byteAt t i = some 34 := h.head
    have hs : seesB t i 34 = true := by unfold seesB; rw [h0]; rfl
    unfold sigs endAt
    rw [if_neg (by omega), if_pos hs]
    rfl
  | x :: l, f + 1, i, h, hf => by
    have hsg : sgns [34] (x :: l) = sgn [34] x.toNat ++ sgns [34] l := by simp [sgns]
    rw [hsg, List.append_assoc] at h
    have h1 := signP_sgn (t := t) (i := i) x.toNat_lt lit_okL h.left
    have h2 := h.right
    have hs : seesB t i 34 = false := by
      obtain ⟨y, m, hy, hp⟩ := @sgn_first [34] x.toNat x.toNat_lt
      have h3 := h.left
      rw [hy] at h3
      have h4 := h3.head
      unfold seesB
      rw [h4]
      have := pl_not34 hp
      simpa using this
    have ih := sigs_lit l f _ h2 (by simp at hf; omega)
    unfold sigs endAt
    rw [if_neg (by omega), hs, if_neg (by simp), h1, if_pos rfl]
    simp only [ih]
    rw [hsg, List.length_append]
    simp [Nat.add_assoc]
theorem signP_out {t : ByteArray} {L : List UInt8} {p : Nat} (h : t.size ≤ p) : signP t L p = (0, t.size, 8) := by unfold signP; rw [byteAt_ge h]
theorem sgns_ge (L l : List UInt8) : l.length ≤ (sgns L l).length := by
  induction l with
  | nil => simp
  | cons x l ih =>
    have hsg : sgns L (x :: l) = sgn L x.toNat ++ sgns L l := by simp [sgns]
    have := sgn_pos L x.toNat
    rw [hsg]; simp; omega
theorem unlit_lit {t : ByteArray} {l : List UInt8} (h : atL t 0 (litB l)) : unlitP t = if 255 < l.length then ([], 0, 40) else (l, (litB l).length, 0) := by
  have hsz := h.size (Nat.zero_le _)
  unfold litB at h hsz
  rw [List.append_assoc] at h
  have h0 : byteAt t 0 = some 34 := h.left.head
  have h1 : atL t 1 (sgns [34] l ++ [34]) := by have := h.right; simpa using this
  have hb : beginP t 34 = (1, 0) := by unfold beginP; rw [h0]; simp
  have hge := sgns_ge [34] l
  have hs := sigs_lit l (t.size + 1) 1 h1 (by simp at hsz; omega)
  unfold unlitP
  rw [hb]
  simp only [hs]
  rw [if_neg (by simp)]
  have : (litB l).length = (sgns [34] l).length + 2 := by unfold litB; simp
  rw [this]
  simp only [Nat.add_comm 1, Nat.add_assoc]
theorem sigs_short {t : ByteArray} : ∀ (f i e j : Nat) (l : List UInt8), sigs t [34] 34 f i e = (l, j, 0) → e = 0 ∧ i + (sgns [34] l).length ≤ j
  | 0, i, e, j, l, h => by
    unfold sigs at h
    simp only [Prod.mk.injEq] at h
    obtain ⟨rfl, rfl, rfl⟩ := h
    simp [sgns]
  | f + 1, i, e, j, l, h => by
    unfold sigs at h
    cases hend : endAt t [34] 34 i e with
    | some r =>
      rw [hend] at h
      simp only [Prod.mk.injEq] at h
      obtain ⟨rfl, h2⟩ := h
      unfold endAt at hend
      split at hend
      · injection hend with hend; rename_i he; rw [h2] at hend; simp at hend; omega
      · rename_i he
        have he' : e = 0 := by omega
        split at hend
        · injection hend with hend; rw [h2] at hend; simp at hend; simp [sgns]; omega
        · split at hend
          · cases hend
          · injection hend with hend; rename_i h3; rw [h2] at hend; rw [hend] at h3; simp at h3
    | none =>
      rw [hend] at h
      simp only [Prod.mk.injEq] at h
      obtain ⟨rfl, h2⟩ := h
      have he : e = 0 ∧ (signP t [34] i).2.2 = 0 := by
        unfold endAt at hend
        split at hend
        · cases hend
        · rename_i he
          split at hend
          · cases hend
          · split at hend
            · rename_i h3; exact ⟨by omega, h3⟩
            · cases hend
      have hsp : signP t [34] i = ((signP t [34] i).1, (signP t [34] i).2.1, 0) := Prod.ext rfl (Prod.ext rfl he.2)
      have hl := signP_len hsp
      obtain ⟨l', j', e', hr⟩ : ∃ l' j' e', sigs t [34] 34 f (signP t [34] i).2.1 0 = (l', j', e') := ⟨_, _, _, rfl⟩
      rw [hr] at h2 ⊢
      simp only [Prod.mk.injEq] at h2
      obtain ⟨rfl, rfl⟩ := h2
      have ih := sigs_short f _ _ _ _ hr
      have hlt : (signP t [34] i).1 < 256 := by
        rcases Nat.lt_or_ge t.size i with h9 | h9
        · have := signP_out (L := [34]) (Nat.le_of_lt h9); rw [this]; show 0 < 256; omega
        · exact (signP_le h9).2.1
      have hsg : sgns [34] (UInt8.ofNat (signP t [34] i).1 :: l') = sgn [34] (signP t [34] i).1 ++ sgns [34] l' := by simp only [sgns, List.flatMap_cons, ofNat_toNat hlt]
      refine ⟨he.1, ?_⟩
      simp only
      rw [hsg, List.length_append]
      omega
theorem unlit_short {t : ByteArray} {s : List UInt8} {n : Nat} (h : unlitP t = (s, n, 0)) : (litB s).length ≤ n ∧ s.length ≤ 255 := by
  unfold unlitP at h
  simp only at h
  split at h
  · rename_i h1; simp only [Prod.mk.injEq] at h; exact absurd h.2.2 h1
  · rename_i h1
    split at h
    · simp at h
    · rename_i h2
      simp only [Prod.mk.injEq] at h
      obtain ⟨h3, h4, _⟩ := h
      obtain ⟨l, j, e, hr⟩ : ∃ l j e, sigs t [34] 34 (t.size + 1) (beginP t 34).1 (beginP t 34).2 = (l, j, e) := ⟨_, _, _, rfl⟩
      rw [hr] at h1 h2 h3 h4
      simp only at h1 h2 h3 h4
      have h1' : e = 0 := by omega
      subst h1' h3
      have hsh := sigs_short _ _ _ _ _ hr
      have hb : (beginP t 34).1 = 1 := by
        have := hsh.1
        unfold beginP at this ⊢
        split at this
        · simp at this
        · split at this
          · rename_i h9; simp [h9]
          · simp at this
      have : (litB l).length = (sgns [34] l).length + 2 := by unfold litB; simp
      omega
end Go.Proofs.YtakcckdnliiieaaDoor
