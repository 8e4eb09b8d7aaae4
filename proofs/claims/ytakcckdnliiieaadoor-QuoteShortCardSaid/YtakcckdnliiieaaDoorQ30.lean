/- Classes: what is read is not shorter than what is written of it; a class with a ^ more, or less. No program here. -/
import Derived.Test.YtakcckdnliiieaaDoorQ29
namespace Go.Proofs.YtakcckdnliiieaaDoor
open Go Go.RowKit
theorem endAt_none {t : ByteArray} {L : List UInt8} {en i e : Nat} (h : endAt t L en i e = none) : e = 0 ∧ (signP t L i).2.2 = 0 ∧ seesB t i en = false ∧ i < t.size := by
  unfold endAt at h
  split at h
  · cases h
  · rename_i he
    split at h
    · cases h
    · rename_i hs
      split at h
      · rename_i h3
        refine ⟨by omega, h3, by simpa using hs, ?_⟩
        rcases Nat.lt_or_ge i t.size with h9 | h9
        · exact h9
        · have : signP t L i = (0, t.size, 8) := by unfold signP; rw [byteAt_ge h9]
          rw [this] at h3; simp at h3
      · cases h
theorem endAt_ok {t : ByteArray} {L : List UInt8} {en i e j : Nat} (h : endAt t L en i e = some (j, 0)) : e = 0 ∧ j = i ∧ seesB t i en = true := by
  unfold endAt at h
  split at h
  · injection h with h; rename_i he; simp at h; omega
  · rename_i he
    split at h
    · rename_i hs; injection h with h; simp at h; exact ⟨by omega, h.symm, hs⟩
    · split at h
      · cases h
      · injection h with h; rename_i h3; rw [h] at h3; simp at h3
theorem highP_cost {t : ByteArray} {a i b j : Nat} (h : highP t clsL a i = (b, j, 0)) (hab : a ≤ b) : (runT clsL (a, b)).length + i ≤ (sgn clsL a).length + j := by
  unfold highP at h
  rw [runT_length]
  simp only
  cases hs : seesB t i 45
  · rw [hs] at h
    simp only [Bool.false_eq_true, if_false, Prod.mk.injEq] at h
    obtain ⟨rfl, rfl, _⟩ := h
    rw [if_neg (by omega), if_neg (by omega)]; omega
  · rw [hs, if_pos rfl] at h
    have := signP_len h
    split <;> split <;> omega
theorem clss_short {t : ByteArray} : ∀ (f i e j : Nat) (s x : BS), i ≤ t.size → t.size < f + i → clss t f s i e = (x, j, 0) → e = 0 ∧ costS x + i ≤ costS s + j ∧ seesB t j 93 = true ∧ i ≤ j
  | 0, i, e, j, s, x, hi, hf, h => by omega
  | f + 1, i, e, j, s, x, hi, hf, h => by
    unfold clss at h
    cases hend : endAt t clsL 93 i e with
    | some r =>
      rw [hend] at h
      simp only [Prod.mk.injEq] at h
      obtain ⟨rfl, h2⟩ := h
      rw [h2] at hend
      obtain ⟨h3, rfl, h5⟩ := endAt_ok hend
      exact ⟨h3, by omega, h5, Nat.le_refl _⟩
    | none =>
      rw [hend] at h
      simp only at h
      obtain ⟨he, h3, h4, hlt⟩ := endAt_none hend
      have hsp : signP t clsL i = ((signP t clsL i).1, (signP t clsL i).2.1, 0) := Prod.ext rfl (Prod.ext rfl h3)
      have hl := signP_len hsp
      have hle := @signP_le t clsL i hi
      obtain ⟨a, k, hak⟩ : ∃ a k, signP t clsL i = (a, k, 0) := ⟨_, _, hsp⟩
      rw [hak] at h hl hle
      simp only at h hl hle
      have hhl := @highP_le t clsL a k hle.1 hle.2.1
      have hk := hle.2.2 trivial
      split at h
      · rename_i hne; simp only [Prod.mk.injEq] at h; rw [h.2] at hne; simp at hne
      · rename_i hz
        split at h
        · simp only [Prod.mk.injEq] at h; omega
        · rename_i hge
          have hh : highP t clsL a k = ((highP t clsL a k).1, (highP t clsL a k).2.1, 0) := Prod.ext rfl (Prod.ext rfl (by simpa using hz))
          have hc := highP_cost hh (by omega)
          have ih := clss_short f _ 0 j _ x hhl.1 (by omega) h
          have hco := cost_or s a (highP t clsL a k).1 (by omega) hhl.2.1
          exact ⟨he, by omega, ih.2.2.1, by omega⟩
/-- With fuel enough it does not matter how much there is. -/
theorem clss_fuel {t : ByteArray} : ∀ (f g i e : Nat) (s : BS), i ≤ t.size → t.size < f + i → t.size < g + i → clss t f s i e = clss t g s i e
  | 0, g, i, e, s, hi, hf, hg => by omega
  | f + 1, 0, i, e, s, hi, hf, hg => by omega
  | f + 1, g + 1, i, e, s, hi, hf, hg => by
    unfold clss
    cases hend : endAt t clsL 93 i e with
    | some r => rfl
    | none =>
      simp only
      obtain ⟨he, h3, h4, hlt⟩ := endAt_none hend
      have hle := @signP_le t clsL i hi
      have hhl := @highP_le t clsL (signP t clsL i).1 (signP t clsL i).2.1 hle.1 hle.2.1
      have hk := hle.2.2 h3
      split
      · rfl
      · split
        · rfl
        · exact clss_fuel f g _ 0 _ hhl.1 (by omega) (by omega)
/-- One text is another one with a byte more ahead. -/
structure More (o t : ByteArray) : Prop where
  size : t.size = o.size + 1
  at_ : ∀ k, 1 ≤ k → byteAt t (k + 1) = byteAt o k
def up (x : Nat × Nat × Nat) : Nat × Nat × Nat := (x.1, x.2.1 + 1, x.2.2)
theorem More.hex {o t : ByteArray} (h : More o t) {i : Nat} (hi : 1 ≤ i) : hexP t (i + 1) = up (hexP o i) := by
  unfold hexP
  rw [h.at_ i hi, show i + 1 + 1 = (i + 1) + 1 from rfl, h.at_ (i + 1) (by omega), h.size]
  cases byteAt o i with
  | none => rfl
  | some b =>
    simp only
    cases hexv b with
    | none => rfl
    | some d =>
      simp only
      cases byteAt o (i + 1) with
      | none => rfl
      | some b2 =>
        simp only
        cases hexv b2 with
        | none => rfl
        | some d2 => rfl
theorem More.sign {o t : ByteArray} (h : More o t) {L : List UInt8} {i : Nat} (hi : 1 ≤ i) : signP t L (i + 1) = up (signP o L i) := by
  unfold signP
  rw [h.at_ i hi, h.at_ (i + 1) (by omega), h.size]
  cases byteAt o i with
  | none => rfl
  | some b =>
    simp only
    split
    · cases byteAt o (i + 1) with
      | none => rfl
      | some c =>
        simp only
        cases meant L c with
        | some m => rfl
        | none =>
          simp only
          split
          · rw [show i + 1 + 2 = (i + 2) + 1 from rfl]; exact h.hex (by omega)
          · rfl
    · split <;> rfl
theorem More.sees {o t : ByteArray} (h : More o t) {i b : Nat} (hi : 1 ≤ i) : seesB t (i + 1) b = seesB o i b := by unfold seesB; rw [h.at_ i hi]
theorem More.high {o t : ByteArray} (h : More o t) {L : List UInt8} {a i : Nat} (hi : 1 ≤ i) : highP t L a (i + 1) = up (highP o L a i) := by
  unfold highP
  rw [h.sees hi]
  split
  · exact h.sign (by omega)
  · rfl
theorem More.endAt {o t : ByteArray} (h : More o t) {L : List UInt8} {en i e : Nat} (hi : 1 ≤ i) : endAt t L en (i + 1) e = (endAt o L en i e).map fun r => (r.1 + 1, r.2) := by
  unfold YtakcckdnliiieaaDoor.endAt
  rw [h.sees hi, h.sign hi]
  split
  · rfl
  · split
    · rfl
    · show (if (signP o L i).2.2 = 0 then none else some (up (signP o L i)).2) = _
      split <;> rfl
theorem More.clss {o t : ByteArray} (h : More o t) : ∀ (f i e : Nat) (s : BS), 1 ≤ i → i ≤ o.size → clss t f s (i + 1) e = ((clss o f s i e).1, (clss o f s i e).2.1 + 1, (clss o f s i e).2.2)
  | 0, _, _, _, _, _ => rfl
  | f + 1, i, e, s, hi, hio => by
    conv => lhs; unfold YtakcckdnliiieaaDoor.clss
    conv => rhs; unfold YtakcckdnliiieaaDoor.clss
    rw [h.endAt hi]
    cases hend : YtakcckdnliiieaaDoor.endAt o clsL 93 i e with
    | some r => rfl
    | none =>
      simp only [Option.map_none]
      have hge := @signP_from o clsL i hio
      have hle := @signP_le o clsL i hio
      rw [h.sign hi]
      have e1 : (up (signP o clsL i)).1 = (signP o clsL i).1 := rfl
      have e2 : (up (signP o clsL i)).2.1 = (signP o clsL i).2.1 + 1 := rfl
      rw [e1, e2, h.high (by omega)]
      have hhl := @highP_le o clsL (signP o clsL i).1 (signP o clsL i).2.1 hle.1 hle.2.1
      have e3 : ∀ x, (up x).1 = x.1 := fun _ => rfl
      have e4 : ∀ x, (up x).2.2 = x.2.2 := fun _ => rfl
      have e5 : ∀ x, (up x).2.1 = x.2.1 + 1 := fun _ => rfl
      simp only [e3, e4, e5]
      split
      · rfl
      · split
        · rfl
        · exact h.clss f _ 0 _ (by omega) hhl.1
theorem clss_bound {t : ByteArray} : ∀ (f i e : Nat) (s : BS), i ≤ t.size → (clss t f s i e).2.1 ≤ t.size
  | 0, i, e, s, hi => hi
  | f + 1, i, e, s, hi => by
    unfold clss
    cases hend : endAt t clsL 93 i e with
    | some r => obtain ⟨j, e'⟩ := r; exact endAt_le hend hi
    | none =>
      simp only
      have hle := @signP_le t clsL i hi
      have hhl := @highP_le t clsL (signP t clsL i).1 (signP t clsL i).2.1 hle.1 hle.2.1
      split
      · exact hhl.1
      · split
        · exact hi
        · exact clss_bound f _ 0 _ hhl.1
theorem beginP_le (t : ByteArray) (c : Nat) : (beginP t c).1 ≤ t.size ∧ ((beginP t c).2 = 0 → (beginP t c).1 = 1 ∧ byteAt t 0 = some c) := by
  unfold beginP
  cases h : byteAt t 0 with
  | none => simp
  | some b =>
    have := (byteAt_256 h).2
    simp only
    split
    · rename_i hb; simp [hb]; omega
    · simp
theorem uncls_start (t : ByteArray) : (if ((beginP t 91).2 == 0 && seesB t (beginP t 91).1 94) = true then (beginP t 91).1 + 1 else (beginP t 91).1) ≤ t.size := by
  have := (beginP_le t 91).1
  split
  · rename_i h
    rw [Bool.and_eq_true] at h
    have h2 := h.2
    unfold seesB at h2
    rw [beq_iff_eq] at h2
    exact (byteAt_256 h2).2
  · exact this
theorem uncls_bad {t : ByteArray} {x : BS} {m e : Nat} (h : unclsP t = (x, m, e)) (he : e ≠ 0) : x = BS.zero ∧ m ≤ t.size := by
  have hb := clss_bound (t.size + 1) _ (beginP t 91).2 BS.zero (uncls_start t)
  obtain ⟨y, j, e', hr⟩ : ∃ y j e, clss t (t.size + 1) BS.zero (if ((beginP t 91).2 == 0 && seesB t (beginP t 91).1 94) = true then (beginP t 91).1 + 1 else (beginP t 91).1) (beginP t 91).2 = (y, j, e) := ⟨_, _, _, rfl⟩
  rw [unclsP_of rfl rfl rfl hr] at h
  rw [hr] at hb
  by_cases h1 : e' = 0
  · rw [if_neg (by omega)] at h; simp only [Prod.mk.injEq] at h; omega
  · rw [if_pos h1] at h; simp only [Prod.mk.injEq] at h
    obtain ⟨rfl, rfl, _⟩ := h
    exact ⟨rfl, hb⟩
theorem uncls_ok {t : ByteArray} {x : BS} {m : Nat} (h : unclsP t = (x, m, 0)) : byteAt t 0 = some 91 ∧ (beginP t 91) = (1, 0) ∧ 1 ≤ t.size ∧
    ∃ y j, m = j + 1 ∧ 1 ≤ j ∧ seesB t j 93 = true ∧
      ((seesB t 1 94 = false ∧ clss t (t.size + 1) BS.zero 1 0 = (y, j, 0) ∧ x = y) ∨ (seesB t 1 94 = true ∧ 2 ≤ j ∧ clss t (t.size + 1) BS.zero 2 0 = (y, j, 0) ∧ x = y.not)) := by
  have hst := uncls_start t
  obtain ⟨y, j, e', hr⟩ : ∃ y j e, clss t (t.size + 1) BS.zero (if ((beginP t 91).2 == 0 && seesB t (beginP t 91).1 94) = true then (beginP t 91).1 + 1 else (beginP t 91).1) (beginP t 91).2 = (y, j, e) := ⟨_, _, _, rfl⟩
  rw [unclsP_of rfl rfl rfl hr] at h
  by_cases h1 : e' = 0
  case neg => rw [if_pos h1] at h; simp only [Prod.mk.injEq] at h; exact absurd h.2.2 h1
  · subst h1
    rw [if_neg (by omega)] at h
    simp only [Prod.mk.injEq] at h
    obtain ⟨h3, h4, _⟩ := h
    have hsh := clss_short _ _ _ _ _ _ hst (by omega) hr
    have hb := (beginP_le t 91).2 hsh.1
    have hbp : beginP t 91 = (1, 0) := Prod.ext hb.1 hsh.1
    have h01 : 1 ≤ t.size := by have := (beginP_le t 91).1; omega
    rw [hbp] at h3 hr hsh
    simp only [BEq.rfl, Bool.true_and] at h3 hr hsh
    refine ⟨hb.2, hbp, h01, y, j, h4.symm, ?_, hsh.2.2.1, ?_⟩
    · have := hsh.2.2.2; split at this <;> omega
    · cases hs : seesB t 1 94
      · rw [hs] at h3 hr
        exact .inl ⟨rfl, hr, h3.symm⟩
      · rw [hs] at h3 hr hsh
        have := hsh.2.2.2
        exact .inr ⟨rfl, this, hr, h3.symm⟩
theorem uncls_short {t : ByteArray} {x : BS} {m : Nat} (h : unclsP t = (x, m, 0)) (h1 : seesB t 1 94 = false) : (classB x).length ≤ m := by
  obtain ⟨_, _, hz, y, j, rfl, _, _, hc | hc⟩ := uncls_ok h
  · obtain ⟨_, hc, rfl⟩ := hc
    have := (clss_short _ _ _ _ _ _ hz (by omega) hc).2.1
    have h2 := classB_cost x
    rw [cost_zero] at this
    omega
  · rw [hc.1] at h1; cases h1
theorem BS.not_not (s : BS) : s.not.not = s := BS.ext_has fun n _ => by rw [BS.has_not, BS.has_not]; simp
theorem uncls_add {t o : ByteArray} {x : BS} {m : Nat} (h : unclsP t = (x, m, 0)) (h1 : seesB t 1 94 = false) (ho0 : byteAt o 0 = some 91) (ho1 : byteAt o 1 = some 94) (hm : More t o) : unclsP o = (x.not, m + 1, 0) := by
  obtain ⟨_, _, hz, y, j, rfl, _, _, hc | hc⟩ := uncls_ok h
  · obtain ⟨_, hc, rfl⟩ := hc
    have hb : beginP o 91 = (1, 0) := by unfold beginP; rw [ho0]; simp
    have hs : seesB o 1 94 = true := by unfold seesB; rw [ho1]; rfl
    have hsz := hm.size
    have hcl := hm.clss (o.size + 1) 1 0 BS.zero (Nat.le_refl _) hz
    rw [clss_fuel (o.size + 1) (t.size + 1) 1 0 BS.zero hz (by omega) (by omega), hc] at hcl
    simp only at hcl
    rw [unclsP_of (t := o) (bt := true) (i0 := 2) (e0 := 0) (by rw [hb]; simp [hs]) (by rw [hb]; rfl) (by rw [hb]) hcl, if_neg (by omega), if_pos rfl]
  · rw [hc.1] at h1; cases h1
theorem uncls_cut {t o : ByteArray} {x : BS} {m : Nat} (h : unclsP t = (x, m, 0)) (h1 : seesB t 1 94 = true) (ho0 : byteAt o 0 = some 91) (hm : More o t) : ∃ k, m = k + 1 ∧ unclsP o = (x.not, k, 0) := by
  obtain ⟨_, _, hz, y, j, rfl, _, hj93, hc | hc⟩ := uncls_ok h
  · rw [hc.1] at h1; cases h1
  · obtain ⟨_, hj, hc, rfl⟩ := hc
    have hb : beginP o 91 = (1, 0) := by unfold beginP; rw [ho0]; simp
    have hsz := hm.size
    have hz1 : 1 ≤ o.size := (byteAt_256 ho0).2
    have hs : seesB o 1 94 = false := by
      rw [← hm.sees (Nat.le_refl _)]
      cases hs : seesB t (1 + 1) 94
      · rfl
      · exfalso
        unfold seesB at hs
        rw [beq_iff_eq] at hs
        have hsp : signP t clsL 2 = (0, 2, 4) := by unfold signP; rw [hs]; rfl
        have hse : seesB t 2 93 = false := by unfold seesB; rw [show (2 : Nat) = 1 + 1 from rfl, hs]; rfl
        unfold clss endAt at hc
        rw [if_neg (by omega), hse, if_neg (by simp), hsp, if_neg (by simp)] at hc
        simp at hc
    have hcl := hm.clss (t.size + 1) 1 0 BS.zero (Nat.le_refl _) hz1
    rw [show 1 + 1 = 2 from rfl, hc, clss_fuel (t.size + 1) (o.size + 1) 1 0 BS.zero hz1 (by omega) (by omega)] at hcl
    obtain ⟨y', j', e', hr⟩ : ∃ y' j' e', clss o (o.size + 1) BS.zero 1 0 = (y', j', e') := ⟨_, _, _, rfl⟩
    rw [hr] at hcl
    simp only [Prod.mk.injEq] at hcl
    obtain ⟨rfl, rfl, rfl⟩ := hcl
    refine ⟨j' + 1, rfl, ?_⟩
    rw [unclsP_of (t := o) (bt := false) (i0 := 1) (e0 := 0) (by rw [hb]; simp [hs]) (by rw [hb]; rfl) (by rw [hb]) hr, if_neg (by omega), if_neg (by simp), BS.not_not]
end Go.Proofs.YtakcckdnliiieaaDoor
