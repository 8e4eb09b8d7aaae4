/- Logs' bytes in plain words: what was written is read as it was; what is cut short; what is read, written, is the bytes. -/
import Derived.Test.YtbgmjlonbbmffaaDoorL10
namespace Go.Proofs.YtbgmjlonbbmffaaDoor
open Go Go.RowKit
/-- A text's bytes as numbers. -/
def bytesOf (t : ByteArray) : List Nat := t.data.toList.map UInt8.toNat
theorem byteAt_of (t : ByteArray) (p : Nat) : byteAt t p = (bytesOf t)[p]? := by unfold byteAt bytesOf; rw [List.getElem?_map]
theorem bytesOf_len (t : ByteArray) : (bytesOf t).length = t.size := by unfold bytesOf; rw [List.length_map]; exact Array.length_toList
theorem bytesOf_lt (t : ByteArray) : ∀ b ∈ bytesOf t, b < 256 := by
  intro b hb
  unfold bytesOf at hb
  obtain ⟨c, _, rfl⟩ := List.mem_map.1 hb
  exact UInt8.toNat_lt c
theorem drop_cons {L : List Nat} {p b : Nat} {R : List Nat} (h : L.drop p = b :: R) : L[p]? = some b ∧ L.drop (p + 1) = R := by
  have h1 : p < L.length := by
    rcases Nat.lt_or_ge p L.length with h2 | h2
    · exact h2
    · rw [List.drop_of_length_le h2] at h; cases h
  rw [List.drop_eq_getElem_cons h1] at h
  injection h with h2 h3
  exact ⟨by rw [List.getElem?_eq_getElem h1, h2], h3⟩
theorem cons_drop {L : List Nat} {p b : Nat} (h : L[p]? = some b) : L.drop p = b :: L.drop (p + 1) := by
  obtain ⟨h1, h2⟩ := List.getElem?_eq_some_iff.1 h
  rw [List.drop_eq_getElem_cons h1, h2]
theorem fac_pos (f : Nat) : 1 ≤ 2 ^ (7 * (4 - f)) := Nat.pos_of_ne_zero (by simp)
theorem fac_step {f : Nat} (h : f + 1 ≤ 4) : 2 ^ (7 * (4 - f)) = 128 * 2 ^ (7 * (4 - (f + 1))) := by
  rw [show 7 * (4 - f) = 7 + 7 * (4 - (f + 1)) by omega, Nat.pow_add]
theorem mul_split (m F : Nat) : m % 128 * F + m / 128 * (128 * F) = m * F := by
  have h : m % 128 + 128 * (m / 128) = m := Nat.mod_add_div m 128
  calc m % 128 * F + m / 128 * (128 * F) = (m % 128 + 128 * (m / 128)) * F := by rw [Nat.add_mul, Nat.mul_comm 128 (m / 128), Nat.mul_assoc]
    _ = m * F := by rw [h]
/-- A number that was written is read. -/
theorem numG_vb {t : ByteArray} {lim : Nat} : ∀ (f n m p : Nat) (R : List Nat), f ≤ 4 → (bytesOf t).drop p = vb m ++ R → n + m * 2 ^ (7 * (4 - f)) ≤ lim → m < 128 ^ (f + 1) → (f < 4 → 0 < m) →
    numG t lim (f + 1) n p = (n + m * 2 ^ (7 * (4 - f)), 0, p + (vb m).length) := by
  intro f
  induction f with
  | zero =>
    intro n m p R _ hd hle hm h0
    have hm1 : m < 128 := by simpa using hm
    rw [vb_small hm1] at hd ⊢
    obtain ⟨hb, _⟩ := drop_cons hd
    rw [numG_step (b := m) (by rw [byteAt_of, hb]), Nat.mod_eq_of_lt hm1, if_neg, if_neg (by omega)]
    · rfl
    · rintro (h | ⟨h, _⟩ | ⟨h, _⟩)
      · omega
      · omega
      · have := h0 (by omega); omega
  | succ f ih =>
    intro n m p R hf hd hle hm h0
    by_cases hs : m < 128
    · rw [vb_small hs] at hd ⊢
      obtain ⟨hb, _⟩ := drop_cons hd
      rw [numG_step (b := m) (by rw [byteAt_of, hb]), Nat.mod_eq_of_lt hs, if_neg, if_neg (by omega)]
      · rfl
      · rintro (h | ⟨h, _⟩ | ⟨h, h1⟩)
        · omega
        · omega
        · have := h0 h1; omega
    · rw [vb_great hs] at hd ⊢
      obtain ⟨hb, hd2⟩ := drop_cons hd
      have hsp := mul_split m (2 ^ (7 * (4 - (f + 1))))
      have hfs := fac_step (f := f) (by omega)
      rw [← hfs] at hsp
      have hrec := ih (n + m % 128 * 2 ^ (7 * (4 - (f + 1)))) (m / 128) (p + 1) R (by omega) hd2 (by omega) (by rw [Nat.pow_succ] at hm; omega) (by omega)
      rw [numG_step (b := m % 128 + 128) (by rw [byteAt_of, hb]), show (m % 128 + 128) % 128 = m % 128 by omega, if_neg, if_pos (by omega), hrec]
      · simp only [List.length_cons, Prod.mk.injEq, true_and]; omega
      · rintro (h | ⟨_, h⟩ | ⟨h, _⟩) <;> omega
theorem numP_vb {t : ByteArray} {lim m p : Nat} {R : List Nat} (hd : (bytesOf t).drop p = vb m ++ R) (hle : m ≤ lim) (hlim : lim ≤ 2147483647) : numP t lim p = (m, 0, p + (vb m).length) := by
  have := numG_vb (lim := lim) 4 0 m p R (Nat.le_refl _) hd (by simpa using hle) (by omega) (by omega)
  unfold numP
  simpa using this
/-- A number that is cut short. -/
theorem numG_cut {t : ByteArray} {lim : Nat} : ∀ (f n m p j : Nat), f ≤ 4 → (bytesOf t).drop p = (vb m).take j → j < (vb m).length → n + m * 2 ^ (7 * (4 - f)) ≤ lim → m < 128 ^ (f + 1) →
    ∃ q, numG t lim (f + 1) n p = (0, 8, q) := by
  intro f
  induction f with
  | zero =>
    intro n m p j _ hd hj hle hm
    have hm1 : m < 128 := by simpa using hm
    rw [vb_small hm1] at hd hj
    obtain rfl : j = 0 := by simpa using hj
    have : byteAt t p = none := by
      rw [byteAt_of, List.getElem?_eq_none_iff]
      simpa using hd
    exact ⟨p, by unfold numG; rw [this]⟩
  | succ f ih =>
    intro n m p j hf hd hj hle hm
    cases j with
    | zero =>
      have : byteAt t p = none := by
        rw [byteAt_of, List.getElem?_eq_none_iff]
        simpa using hd
      exact ⟨p, by unfold numG; rw [this]⟩
    | succ j =>
      by_cases hs : m < 128
      · rw [vb_small hs] at hj
        simp at hj
      · rw [vb_great hs] at hd hj
        rw [List.take_succ_cons] at hd
        obtain ⟨hb, hd2⟩ := drop_cons hd
        have hsp := mul_split m (2 ^ (7 * (4 - (f + 1))))
        have hfs := fac_step (f := f) (by omega)
        rw [← hfs] at hsp
        obtain ⟨q, hq⟩ := ih (n + m % 128 * 2 ^ (7 * (4 - (f + 1)))) (m / 128) (p + 1) j (by omega) hd2 (by simpa using hj) (by omega) (by rw [Nat.pow_succ] at hm; omega)
        refine ⟨q, ?_⟩
        rw [numG_step (b := m % 128 + 128) (by rw [byteAt_of, hb]), show (m % 128 + 128) % 128 = m % 128 by omega, if_neg, if_pos (by omega), hq]
        rintro (h | ⟨_, h⟩ | ⟨h, _⟩) <;> omega
theorem numP_cut {t : ByteArray} {lim m p j : Nat} (hd : (bytesOf t).drop p = (vb m).take j) (hj : j < (vb m).length) (hle : m ≤ lim) (hlim : lim ≤ 2147483647) : ∃ q, numP t lim p = (0, 8, q) :=
  numG_cut (lim := lim) 4 0 m p j (Nat.le_refl _) hd hj (by simpa using hle) (by omega)
/-- What is read as a number is what is written of it. -/
theorem numG_inv {t : ByteArray} {lim : Nat} : ∀ (f n p r q : Nat), f ≤ 4 → numG t lim (f + 1) n p = (r, 0, q) →
    ∃ m, r = n + m * 2 ^ (7 * (4 - f)) ∧ r ≤ lim ∧ (bytesOf t).drop p = vb m ++ (bytesOf t).drop q ∧ (f < 4 → 0 < m) := by
  intro f
  induction f with
  | zero =>
    intro n p r q _ h
    cases hb : byteAt t p with
    | none => unfold numG at h; rw [hb] at h; simp at h
    | some b =>
      rw [numG_step hb] at h
      have hd := cons_drop (by rw [← byteAt_of]; exact hb)
      split at h
      · simp at h
      · rename_i hn
        rw [if_neg (by omega)] at h
        simp only [Prod.mk.injEq, true_and] at h
        obtain ⟨rfl, rfl⟩ := h
        have hb1 : b < 128 := by omega
        rw [Nat.mod_eq_of_lt hb1] at hn ⊢
        exact ⟨b, rfl, by omega, by rw [vb_small hb1, hd]; rfl, by omega⟩
  | succ f ih =>
    intro n p r q hf h
    cases hb : byteAt t p with
    | none => unfold numG at h; rw [hb] at h; simp at h
    | some b =>
      rw [numG_step hb] at h
      have hd := cons_drop (by rw [← byteAt_of]; exact hb)
      have hb256 : b < 256 := bytesOf_lt t b (List.mem_of_getElem? (by rw [← byteAt_of]; exact hb))
      split at h
      · simp at h
      · rename_i hn
        split at h
        · rename_i hb1
          obtain ⟨m, h1, h2, h3, h4⟩ := ih _ _ _ _ (by omega) h
          have h4 := h4 (by omega)
          refine ⟨b % 128 + 128 * m, ?_, h2, ?_, by omega⟩
          · have hfs := fac_step (f := f) (by omega)
            rw [hfs] at h1
            rw [h1, Nat.add_mul]
            have : m * (128 * 2 ^ (7 * (4 - (f + 1)))) = 128 * m * 2 ^ (7 * (4 - (f + 1))) := by rw [← Nat.mul_assoc, Nat.mul_comm m 128]
            omega
          · rw [hd, h3, vb_great (n := b % 128 + 128 * m) (by omega), show (b % 128 + 128 * m) % 128 + 128 = b by omega, show (b % 128 + 128 * m) / 128 = m by omega]
            rfl
        · rename_i hb1
          simp only [Prod.mk.injEq, true_and] at h
          obtain ⟨rfl, rfl⟩ := h
          have hb1 : b < 128 := by omega
          rw [Nat.mod_eq_of_lt hb1] at hn ⊢
          exact ⟨b, rfl, by omega, by rw [vb_small hb1, hd]; rfl, by omega⟩
theorem numP_inv {t : ByteArray} {lim p r q : Nat} (h : numP t lim p = (r, 0, q)) : r ≤ lim ∧ (bytesOf t).drop p = vb r ++ (bytesOf t).drop q := by
  obtain ⟨m, h1, h2, h3, _⟩ := numG_inv 4 0 p r q (Nat.le_refl _) h
  simp at h1
  subst h1
  exact ⟨h2, h3⟩
theorem app_drop {t : ByteArray} {p : Nat} {A R : List Nat} (h : (bytesOf t).drop p = A ++ R) : (bytesOf t).drop (p + A.length) = R := by
  rw [← List.drop_drop, h, List.drop_left]
theorem vbs_cons (x : Int) (l : List Int) : vbs (x :: l) = vb x.toNat ++ vbs l := by simp [vbs]
theorem pathG_vbs {t : ByteArray} : ∀ (l acc : List Int) (p : Nat) (R : List Nat), (bytesOf t).drop p = vbs l ++ R → (∀ x ∈ l, 0 ≤ x ∧ x ≤ 2147483647) → pathG t l.length acc p = (acc ++ l, 0, p + (vbs l).length)
  | [], acc, p, R, _, _ => by simp [pathG, vbs]
  | x :: l, acc, p, R, hd, hx => by
    rw [vbs_cons, List.append_assoc] at hd
    have hx0 := hx x (by simp)
    have h1 := numP_vb (lim := 2147483647) hd (by omega) (by omega)
    have h2 := pathG_vbs l (acc ++ [x]) (p + (vb x.toNat).length) R (app_drop hd) (fun y hy => hx y (by simp [hy]))
    rw [List.length_cons]
    unfold pathG
    rw [h1]
    simp only [if_true]
    rw [show ((x.toNat : Nat) : Int) = x by omega, h2, vbs_cons]
    simp [Nat.add_assoc]
theorem mark_zero {x : ItemD} (h : mayB x = true) (hm : x.mark = true) : x = ⟨true, zeroS⟩ := by
  obtain ⟨m, ⟨a, b, c, d, e⟩⟩ := x
  simp only at hm
  subst hm
  simp [mayB] at h
  obtain ⟨⟨⟨⟨h1, h2⟩, h3⟩, h4⟩, h5⟩ := h
  subst h1 h2 h3 h4 h5
  rfl
/-- An item that was written is read. -/
theorem itemP_enc {t : ByteArray} {p : Nat} {x : ItemD} {R : List Nat} (hm : mayB x = true) (hok : x.step.ok) (hd : (bytesOf t).drop p = encB x ++ R) : itemP t p = (x, 0, p + (encB x).length) := by
  cases hmk : x.mark
  · obtain ⟨h0, h1, h2, h3, h4⟩ := mayB_spec hm hmk
    obtain ⟨m, ⟨a, b, c, l, e⟩⟩ := x
    simp only at hmk h0 h1 h2 h3 h4
    subst hmk
    unfold StepD.ok at hok
    simp only at hok
    have he : encB ⟨false, ⟨a, b, c, l, e⟩⟩ = vb a ++ (vb b ++ (vb c.toNat ++ (vb l.length ++ (vbs l ++ vb e.toNat)))) := by simp [encB, vbs]
    rw [he] at hd ⊢
    simp only [List.append_assoc] at hd
    have k1 := numP_vb (lim := 255) hd (by omega) (by omega)
    have d1 := app_drop hd
    have k2 := numP_vb (lim := 255) d1 (by omega) (by omega)
    have d2 := app_drop d1
    have k3 := numP_vb (lim := 2147483647) d2 (by omega) (by omega)
    have d3 := app_drop d2
    have k4 := numP_vb (lim := 32) d3 (by omega) (by omega)
    have d4 := app_drop d3
    have k5 := pathG_vbs l [] _ _ d4 h4
    have d5 := app_drop d4
    have k6 := numP_vb (lim := 2147483647) d5 (by omega) (by omega)
    unfold itemP itemA
    rw [k1]
    simp only [if_true, h0, if_false]
    unfold itemB
    rw [k2]
    simp only [if_true]
    unfold itemC
    rw [k3]
    simp only [if_true]
    unfold itemD
    rw [k4]
    simp only [if_true]
    unfold itemE
    rw [k5]
    simp only [if_true]
    rw [k6]
    simp only [if_true, List.nil_append, List.length_append]
    rw [show ((c.toNat : Nat) : Int) = c by omega, show ((e.toNat : Nat) : Int) = e by omega]
    simp only [Nat.add_assoc]
  · have := mark_zero hm hmk
    subst this
    have he : encB ⟨true, zeroS⟩ = vb 0 := by rw [vb_small (by omega)]; rfl
    rw [he] at hd ⊢
    have k1 := numP_vb (lim := 255) hd (by omega) (by omega)
    unfold itemP itemA
    rw [k1]
    simp
theorem itemsG_enc {t : ByteArray} : ∀ (l acc : List ItemD) (p : Nat) (R : List Nat), l.all mayB = true → (∀ x ∈ l, x.step.ok) → (bytesOf t).drop p = l.flatMap encB ++ R → itemsG t l.length acc p = (acc ++ l, 0, p + (l.flatMap encB).length)
  | [], acc, p, R, _, _, _ => by simp [itemsG]
  | x :: l, acc, p, R, hm, hok, hd => by
    rw [List.all_cons, Bool.and_eq_true] at hm
    rw [List.flatMap_cons, List.append_assoc] at hd
    have h1 := itemP_enc hm.1 (hok x (by simp)) hd
    have h2 := itemsG_enc l (acc ++ [x]) _ R hm.2 (fun y hy => hok y (by simp [hy])) (app_drop hd)
    rw [List.length_cons]
    unfold itemsG
    rw [h1]
    simp only [if_true]
    rw [h2, List.flatMap_cons]
    simp [Nat.add_assoc]
/-- What was encoded is decoded as it was; what goes on is too long. -/
theorem decP_enc {t : ByteArray} {l : List ItemD} {R : List Nat} (hl : l.length ≤ 4096) (hm : l.all mayB = true) (hok : ∀ x ∈ l, x.step.ok) (hd : bytesOf t = encL l ++ R) : decP t = if R = [] then (l, 0) else ([], 10) := by
  unfold encL at hd
  rw [List.append_assoc] at hd
  have k1 := numP_vb (t := t) (lim := 2147483647) (p := 0) (by rw [List.drop_zero]; exact hd) (by omega) (by omega)
  have d1 := app_drop (t := t) (p := 0) (by rw [List.drop_zero]; exact hd)
  have k2 := itemsG_enc l [] _ R hm hok d1
  have hsz := bytesOf_len t
  rw [hd] at hsz
  simp only [List.length_append] at hsz
  unfold decP decA
  rw [k1]
  simp only [if_true]
  rw [if_neg (by omega), k2]
  unfold decE
  simp only [if_true, List.nil_append]
  cases R with
  | nil => rw [if_neg (by simp only [List.length_nil] at hsz; omega), if_pos rfl]
  | cons r R => rw [if_pos (by simp only [List.length_cons] at hsz; omega), if_neg (by simp)]
theorem take_append_cases {A B : List Nat} {j : Nat} (h : j < (A ++ B).length) : (j < A.length ∧ (A ++ B).take j = A.take j) ∨ (A.length ≤ j ∧ (A ++ B).take j = A ++ B.take (j - A.length) ∧ j - A.length < B.length) := by
  rw [List.length_append] at h
  rcases Nat.lt_or_ge j A.length with h1 | h1
  · exact .inl ⟨h1, List.take_append_of_le_length (by omega)⟩
  · exact .inr ⟨h1, by rw [List.take_append, List.take_of_length_le h1], by omega⟩
theorem pathG_cut {t : ByteArray} : ∀ (l acc : List Int) (p j : Nat), (bytesOf t).drop p = (vbs l).take j → j < (vbs l).length → (∀ x ∈ l, 0 ≤ x ∧ x ≤ 2147483647) → ∃ a q, pathG t l.length acc p = (a, 8, q)
  | [], acc, p, j, _, hj, _ => by simp [vbs] at hj
  | x :: l, acc, p, j, hd, hj, hx => by
    have hx0 := hx x (by simp)
    rw [vbs_cons] at hd hj
    rw [List.length_cons]
    unfold pathG
    rcases take_append_cases hj with ⟨h1, h2⟩ | ⟨h1, h2, h3⟩
    · rw [h2] at hd
      obtain ⟨q, hq⟩ := numP_cut (lim := 2147483647) hd h1 (by omega) (by omega)
      rw [hq]
      exact ⟨_, q, rfl⟩
    · rw [h2] at hd
      have k := numP_vb (lim := 2147483647) hd (by omega) (by omega)
      rw [k]
      simp only [if_true]
      exact pathG_cut l _ _ _ (app_drop hd) h3 (fun y hy => hx y (by simp [hy]))
theorem itemP_cut {t : ByteArray} {p j : Nat} {x : ItemD} (hm : mayB x = true) (hok : x.step.ok) (hd : (bytesOf t).drop p = (encB x).take j) (hj : j < (encB x).length) : ∃ a q, itemP t p = (a, 8, q) := by
  cases hmk : x.mark
  · obtain ⟨h0, h1, h2, h3, h4⟩ := mayB_spec hm hmk
    obtain ⟨m, ⟨a, b, c, l, e⟩⟩ := x
    simp only at hmk h0 h1 h2 h3 h4
    subst hmk
    unfold StepD.ok at hok
    simp only at hok
    have he : encB ⟨false, ⟨a, b, c, l, e⟩⟩ = vb a ++ (vb b ++ (vb c.toNat ++ (vb l.length ++ (vbs l ++ vb e.toNat)))) := by simp [encB, vbs]
    rw [he] at hd hj
    unfold itemP itemA
    rcases take_append_cases hj with ⟨i1, i2⟩ | ⟨i1, i2, i3⟩
    · rw [i2] at hd
      obtain ⟨q, hq⟩ := numP_cut (lim := 255) hd i1 (by omega) (by omega)
      rw [hq]; exact ⟨_, q, rfl⟩
    rw [i2] at hd
    rw [numP_vb (lim := 255) hd (by omega) (by omega)]
    simp only [if_true, h0, if_false]
    have d1 := app_drop hd
    unfold itemB
    clear hd hj i1 i2
    rcases take_append_cases i3 with ⟨i1, i2⟩ | ⟨i1, i2, i4⟩
    · rw [i2] at d1
      obtain ⟨q, hq⟩ := numP_cut (lim := 255) d1 i1 (by omega) (by omega)
      rw [hq]; exact ⟨_, q, rfl⟩
    rw [i2] at d1
    rw [numP_vb (lim := 255) d1 (by omega) (by omega)]
    simp only [if_true]
    have d2 := app_drop d1
    unfold itemC
    clear d1 i1 i2 i3
    rcases take_append_cases i4 with ⟨i1, i2⟩ | ⟨i1, i2, i5⟩
    · rw [i2] at d2
      obtain ⟨q, hq⟩ := numP_cut (lim := 2147483647) d2 i1 (by omega) (by omega)
      rw [hq]; exact ⟨_, q, rfl⟩
    rw [i2] at d2
    rw [numP_vb (lim := 2147483647) d2 (by omega) (by omega)]
    simp only [if_true]
    have d3 := app_drop d2
    unfold itemD
    clear d2 i1 i2 i4
    rcases take_append_cases i5 with ⟨i1, i2⟩ | ⟨i1, i2, i6⟩
    · rw [i2] at d3
      obtain ⟨q, hq⟩ := numP_cut (lim := 32) d3 i1 (by omega) (by omega)
      rw [hq]; exact ⟨_, q, rfl⟩
    rw [i2] at d3
    rw [numP_vb (lim := 32) d3 (by omega) (by omega)]
    simp only [if_true]
    have d4 := app_drop d3
    unfold itemE
    clear d3 i1 i2 i5
    rcases take_append_cases i6 with ⟨i1, i2⟩ | ⟨i1, i2, i7⟩
    · rw [i2] at d4
      obtain ⟨a, q, hq⟩ := pathG_cut l [] _ _ d4 i1 h4
      rw [hq]; exact ⟨_, q, rfl⟩
    rw [i2] at d4
    rw [pathG_vbs l [] _ _ d4 h4]
    simp only [if_true]
    have d5 := app_drop d4
    obtain ⟨q, hq⟩ := numP_cut (lim := 2147483647) d5 i7 (by omega) (by omega)
    rw [hq]; exact ⟨_, q, rfl⟩
  · have := mark_zero hm hmk
    subst this
    have he : encB ⟨true, zeroS⟩ = vb 0 := by rw [vb_small (by omega)]; rfl
    rw [he] at hd hj
    unfold itemP itemA
    obtain ⟨q, hq⟩ := numP_cut (lim := 255) hd hj (by omega) (by omega)
    rw [hq]; exact ⟨_, q, rfl⟩
theorem itemsG_cut {t : ByteArray} : ∀ (l acc : List ItemD) (p j : Nat), l.all mayB = true → (∀ x ∈ l, x.step.ok) → (bytesOf t).drop p = (l.flatMap encB).take j → j < (l.flatMap encB).length → ∃ q, itemsG t l.length acc p = ([], 8, q)
  | [], acc, p, j, _, _, _, hj => by simp at hj
  | x :: l, acc, p, j, hm, hok, hd, hj => by
    rw [List.all_cons, Bool.and_eq_true] at hm
    rw [List.flatMap_cons] at hd hj
    rw [List.length_cons]
    unfold itemsG
    rcases take_append_cases hj with ⟨h1, h2⟩ | ⟨h1, h2, h3⟩
    · rw [h2] at hd
      obtain ⟨a, q, hq⟩ := itemP_cut hm.1 (hok x (by simp)) hd h1
      rw [hq]
      exact ⟨q, rfl⟩
    · rw [h2] at hd
      rw [itemP_enc hm.1 (hok x (by simp)) hd]
      simp only [if_true]
      exact itemsG_cut l _ _ _ hm.2 (fun y hy => hok y (by simp [hy])) (app_drop hd) h3
/-- Each beginning that is not all of it is too short. -/
theorem decP_cut {t : ByteArray} {l : List ItemD} {j : Nat} (hl : l.length ≤ 4096) (hm : l.all mayB = true) (hok : ∀ x ∈ l, x.step.ok) (hd : bytesOf t = (encL l).take j) (hj : j < (encL l).length) : decP t = ([], 8) := by
  unfold encL at hd hj
  have hd0 : (bytesOf t).drop 0 = (vb l.length ++ l.flatMap encB).take j := by rw [List.drop_zero]; exact hd
  unfold decP decA
  rcases take_append_cases hj with ⟨h1, h2⟩ | ⟨h1, h2, h3⟩
  · rw [h2] at hd0
    obtain ⟨q, hq⟩ := numP_cut (lim := 2147483647) hd0 h1 (by omega) (by omega)
    rw [hq]; rfl
  · rw [h2] at hd0
    rw [numP_vb (lim := 2147483647) hd0 (by omega) (by omega)]
    simp only [if_true]
    rw [if_neg (by omega)]
    obtain ⟨q, hq⟩ := itemsG_cut l [] _ _ hm hok (app_drop hd0) h3
    rw [hq]; rfl
/-- No log's bytes are the beginning of another one's. -/
theorem enc_free {l m : List ItemD} {R : List Nat} (hl : l.length ≤ 4096) (hm : m.length ≤ 4096) (hla : l.all mayB = true) (hma : m.all mayB = true) (hlo : ∀ x ∈ l, x.step.ok) (hmo : ∀ x ∈ m, x.step.ok) (h : encL m = encL l ++ R) (hb : ∀ b ∈ encL m, b < 256) : l = m := by
  have hby : bytesOf ⟨((encL m).map UInt8.ofNat).toArray⟩ = encL m := by
    unfold bytesOf
    simp only [List.map_map]
    conv => rhs; rw [← List.map_id (encL m)]
    refine List.map_congr_left fun b hbm => ?_
    have := hb b hbm
    simp [UInt8.toNat_ofNat', Nat.mod_eq_of_lt this]
  have h1 := decP_enc (t := ⟨((encL m).map UInt8.ofNat).toArray⟩) (R := []) hm hma hmo (by rw [hby]; simp)
  have h2 := decP_enc (t := ⟨((encL m).map UInt8.ofNat).toArray⟩) (R := R) hl hla hlo (by rw [hby, h])
  rw [h1, if_pos rfl] at h2
  split at h2
  · injection h2 with h3 _; exact h3.symm
  · injection h2 with _ h3; cases h3
end Go.Proofs.YtbgmjlonbbmffaaDoor
