/- What is decoded, encoded, is the bytes. -/
import Derived.Test.YtbgmjlonbbmffaaDoorP1
namespace Go.Proofs.YtbgmjlonbbmffaaDoor
open Go Go.RowKit
theorem pathG_inv {t : ByteArray} : ∀ (k : Nat) (acc a : List Int) (p q : Nat), pathG t k acc p = (a, 0, q) → ∃ l, a = acc ++ l ∧ l.length = k ∧ (∀ x ∈ l, 0 ≤ x ∧ x ≤ 2147483647) ∧ (bytesOf t).drop p = vbs l ++ (bytesOf t).drop q
  | 0, acc, a, p, q, h => by
    simp only [pathG, Prod.mk.injEq, true_and] at h
    obtain ⟨rfl, rfl⟩ := h
    exact ⟨[], by simp, rfl, by simp, by simp [vbs]⟩
  | k + 1, acc, a, p, q, h => by
    unfold pathG at h
    generalize h1 : numP t 2147483647 p = r1 at h
    obtain ⟨n1, e1, p1⟩ := r1
    simp only at h
    split at h
    · rename_i he
      subst he
      obtain ⟨i1, i2⟩ := numP_inv h1
      obtain ⟨l, rfl, j2, j3, j4⟩ := pathG_inv k _ _ _ _ h
      refine ⟨(n1 : Int) :: l, by simp, by simp [j2], fun x hx => ?_, by rw [vbs_cons, i2, j4]; simp⟩
      rcases List.mem_cons.1 hx with rfl | hx
      · omega
      · exact j3 x hx
    · rename_i he
      simp only [Prod.mk.injEq] at h
      exact absurd h.2.1 he
theorem itemP_inv {t : ByteArray} {p q : Nat} {x : ItemD} (h : itemP t p = (x, 0, q)) : mayB x = true ∧ (bytesOf t).drop p = encB x ++ (bytesOf t).drop q := by
  unfold itemP itemA at h
  generalize h1 : numP t 255 p = r1 at h
  obtain ⟨n1, e1, p1⟩ := r1
  simp only at h
  split at h
  case isFalse he => simp only [Prod.mk.injEq] at h; exact absurd h.2.1 he
  rename_i he
  subst he
  obtain ⟨a1, b1⟩ := numP_inv h1
  split at h
  · rename_i hn
    subst hn
    simp only [Prod.mk.injEq, true_and] at h
    obtain ⟨rfl, rfl⟩ := h
    refine ⟨by decide, ?_⟩
    rw [b1, vb_small (by omega)]; rfl
  rename_i hn
  unfold itemB at h
  generalize h2 : numP t 255 p1 = r2 at h
  obtain ⟨n2, e2, p2⟩ := r2
  simp only at h
  split at h
  case isFalse he => simp only [Prod.mk.injEq] at h; exact absurd h.2.1 he
  rename_i he
  subst he
  obtain ⟨a2, b2⟩ := numP_inv h2
  unfold itemC at h
  generalize h3 : numP t 2147483647 p2 = r3 at h
  obtain ⟨n3, e3, p3⟩ := r3
  simp only at h
  split at h
  case isFalse he => simp only [Prod.mk.injEq] at h; exact absurd h.2.1 he
  rename_i he
  subst he
  obtain ⟨a3, b3⟩ := numP_inv h3
  unfold itemD at h
  generalize h4 : numP t 32 p3 = r4 at h
  obtain ⟨n4, e4, p4⟩ := r4
  simp only at h
  split at h
  case isFalse he => simp only [Prod.mk.injEq] at h; exact absurd h.2.1 he
  rename_i he
  subst he
  obtain ⟨a4, b4⟩ := numP_inv h4
  unfold itemE at h
  generalize h5 : pathG t n4 [] p4 = r5 at h
  obtain ⟨l5, e5, p5⟩ := r5
  simp only at h
  split at h
  case isFalse he => simp only [Prod.mk.injEq] at h; exact absurd h.2.1 he
  rename_i he
  subst he
  obtain ⟨l, hl, a5, c5, b5⟩ := pathG_inv _ _ _ _ _ h5
  rw [List.nil_append] at hl
  subst hl
  generalize h6 : numP t 2147483647 p5 = r6 at h
  obtain ⟨n6, e6, p6⟩ := r6
  simp only at h
  split at h
  case isFalse he => simp only [Prod.mk.injEq] at h; exact absurd h.2.1 he
  rename_i he
  subst he
  obtain ⟨a6, b6⟩ := numP_inv h6
  simp only [Prod.mk.injEq, true_and] at h
  obtain ⟨rfl, rfl⟩ := h
  refine ⟨?_, ?_⟩
  · simp only [mayB, Bool.false_eq_true, if_false, Bool.and_eq_true, decide_eq_true_eq, fitsB, List.all_eq_true, ne_eq]
    refine ⟨⟨⟨⟨hn, ?_⟩, ?_⟩, ?_⟩, ?_⟩
    · omega
    · omega
    · omega
    · exact c5
  · rw [b1, b2, b3, b4, b5, b6, ← a5]
    simp [encB, vbs]
theorem itemsG_inv {t : ByteArray} : ∀ (k : Nat) (acc a : List ItemD) (p q : Nat), itemsG t k acc p = (a, 0, q) → ∃ l, a = acc ++ l ∧ l.length = k ∧ l.all mayB = true ∧ (bytesOf t).drop p = l.flatMap encB ++ (bytesOf t).drop q
  | 0, acc, a, p, q, h => by
    simp only [itemsG, Prod.mk.injEq, true_and] at h
    obtain ⟨rfl, rfl⟩ := h
    exact ⟨[], by simp, rfl, by simp, by simp⟩
  | k + 1, acc, a, p, q, h => by
    unfold itemsG at h
    generalize h1 : itemP t p = r1 at h
    obtain ⟨x1, e1, p1⟩ := r1
    simp only at h
    split at h
    · rename_i he
      subst he
      obtain ⟨i1, i2⟩ := itemP_inv h1
      obtain ⟨l, rfl, j2, j3, j4⟩ := itemsG_inv k _ _ _ _ h
      exact ⟨x1 :: l, by simp, by simp [j2], by rw [List.all_cons, i1, j3]; rfl, by rw [i2, j4]; simp⟩
    · rename_i he
      simp only [Prod.mk.injEq] at h
      exact absurd h.2.1 he
theorem decP_inv {t : ByteArray} {m : List ItemD} (h : decP t = (m, 0)) : m.length ≤ 4096 ∧ m.all mayB = true ∧ bytesOf t = encL m := by
  unfold decP decA at h
  generalize h1 : numP t 2147483647 0 = r1 at h
  obtain ⟨n1, e1, p1⟩ := r1
  simp only at h
  split at h
  case isFalse he => simp only [Prod.mk.injEq] at h; exact absurd h.2 he
  rename_i he
  subst he
  obtain ⟨a1, b1⟩ := numP_inv h1
  split at h
  · simp only [Prod.mk.injEq] at h; omega
  rename_i hn
  unfold decE at h
  generalize h2 : itemsG t n1 [] p1 = r2 at h
  obtain ⟨l2, e2, p2⟩ := r2
  simp only at h
  split at h
  case isFalse he => simp only [Prod.mk.injEq] at h; exact absurd h.2 he
  rename_i he
  subst he
  split at h
  · simp only [Prod.mk.injEq] at h; omega
  rename_i hq
  simp only [Prod.mk.injEq, and_true] at h
  subst h
  obtain ⟨l, hl, i1, i2, i3⟩ := itemsG_inv _ _ _ _ _ h2
  rw [List.nil_append] at hl
  subst hl
  refine ⟨by omega, i2, ?_⟩
  have e0 : (bytesOf t).drop p2 = [] := List.drop_of_length_le (by rw [bytesOf_len]; omega)
  rw [List.drop_zero, i3, e0, List.append_nil] at b1
  rw [b1, ← i1]; rfl
theorem encP_inv {t : ByteArray} {m : List ItemD} (h : decP t = (m, 0)) : encP m = (bytesOf t, 0) := by
  obtain ⟨h1, h2, h3⟩ := decP_inv h
  unfold encP
  rw [if_neg (by omega), if_pos h2, h3]
end Go.Proofs.YtbgmjlonbbmffaaDoor
