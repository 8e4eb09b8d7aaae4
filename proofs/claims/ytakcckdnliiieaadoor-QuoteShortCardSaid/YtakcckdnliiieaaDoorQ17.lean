/- quote.Unclass: the plain law. -/
import Derived.Test.YtakcckdnliiieaaDoorQ13
import Derived.Test.YtakcckdnliiieaaDoorQ6
namespace Go.Proofs.YtakcckdnliiieaaDoor
open Go Go.RowKit
theorem hexP_ge {t : ByteArray} {i : Nat} (hi : i ≤ t.size) : i ≤ (hexP t i).2.1 := by
  unfold hexP
  cases h1 : byteAt t i with
  | none => exact hi
  | some b =>
    have := (byteAt_256 h1).2
    cases h2 : hexv b with
    | none => simp only [h2]; exact Nat.le_refl _
    | some d =>
      cases h3 : byteAt t (i + 1) with
      | none => simp only [h2]; omega
      | some b2 =>
        have := (byteAt_256 h3).2
        cases h4 : hexv b2 with
        | none => simp only [h2, h4]; omega
        | some d2 => simp only [h2, h4]; omega
theorem signP_from {t : ByteArray} {L : List UInt8} {i : Nat} (hi : i ≤ t.size) : i ≤ (signP t L i).2.1 := by
  unfold signP
  cases h1 : byteAt t i with
  | none => exact hi
  | some b =>
    have hb := (byteAt_256 h1).2
    simp only
    by_cases h2 : b = 92
    · rw [if_pos h2]
      cases h3 : byteAt t (i + 1) with
      | none => simp only; omega
      | some c =>
        have hc := (byteAt_256 h3).2
        simp only
        cases h4 : meant L c with
        | some m => simp only; omega
        | none =>
          simp only
          by_cases h5 : c = 120
          · rw [if_pos h5]; have := @hexP_ge t (i + 2) (by omega); omega
          · rw [if_neg h5]; simp only; omega
    · rw [if_neg h2]
      split <;> simp only <;> omega
theorem highP_le {t : ByteArray} {L : List UInt8} {low i : Nat} (hi : i ≤ t.size) (hl : low < 256) : (highP t L low i).2.1 ≤ t.size ∧ (highP t L low i).1 < 256 ∧ i ≤ (highP t L low i).2.1 := by
  unfold highP
  cases h : seesB t i 45
  · exact ⟨hi, hl, Nat.le_refl _⟩
  · have hlt : i < t.size := by unfold seesB at h; rw [beq_iff_eq] at h; exact (byteAt_256 h).2
    have h1 := @signP_le t L (i + 1) (by omega)
    have h2 := @signP_from t L (i + 1) (by omega)
    simp only [if_true]
    exact ⟨h1.1, h1.2.1, by omega⟩
/-- The set of what is read, and how the reader stands then. -/
def clss (t : ByteArray) : Nat → BS → Nat → Nat → BS × Nat × Nat
  | 0, s, i, e => (s, i, e)
  | f + 1, s, i, e => match endAt t clsL 93 i e with
    | some r => (s, r)
    | none =>
      let a := (signP t clsL i).1
      let h := highP t clsL a (signP t clsL i).2.1
      if h.2.2 ≠ 0 then (s, h.2) else if h.1 < a then (s, i, 4) else clss t f (s.or (BS.range a h.1)) h.2.1 0
/-- What a class's text is read as: the set, the length, the error. -/
def unclsP (t : ByteArray) : BS × Nat × Nat :=
  let b := beginP t 91
  let but := b.2 == 0 && seesB t b.1 94
  let r := clss t (t.size + 1) BS.zero (if but then b.1 + 1 else b.1) b.2
  if r.2.2 ≠ 0 then (BS.zero, r.2.1, r.2.2) else (if but then r.1.not else r.1, r.2.1 + 1, 0)
/-- Where the reader stands behind a range. -/
def nxC (t : ByteArray) (x : Nat × Nat) : Nat := (highP t clsL x.1 x.2).2.1
def setC (t : ByteArray) (pre : List (Nat × Nat)) : BS := pre.foldl (fun s x => s.or (BS.range x.1 (highP t clsL x.1 x.2).1)) BS.zero
/-- What has been taken so far are ranges, one behind the other. -/
def ChC (t : ByteArray) (i0 e0 : Nat) (pre : List (Nat × Nat)) : Prop :=
  Chn t clsL 93 (nxC t) i0 e0 pre ∧ ∀ x ∈ pre, (highP t clsL x.1 x.2).2.2 = 0 ∧ ¬ (highP t clsL x.1 x.2).1 < x.1
theorem setC_snoc (t : ByteArray) (pre : List (Nat × Nat)) (x : Nat × Nat) : setC t (pre ++ [x]) = (setC t pre).or (BS.range x.1 (highP t clsL x.1 x.2).1) := by simp [setC]
theorem clss_chn {t : ByteArray} : ∀ (pre : List (Nat × Nat)) (f : Nat) (s : BS) (i0 e0 : Nat), ChC t i0 e0 pre → pre.length < f →
    clss t f s i0 e0 = clss t (f - pre.length) (pre.foldl (fun s x => s.or (BS.range x.1 (highP t clsL x.1 x.2).1)) s) (headAt (nxC t) i0 pre) (headE e0 pre)
  | [], f, s, i0, e0, _, _ => rfl
  | x :: q, f + 1, s, i0, e0, hc, hf => by
    have h0 := hc.1 0 (by simp)
    have h1 : endAt t clsL 93 i0 e0 = none := h0.1
    have h2 : signP t clsL i0 = (x.1, x.2, 0) := h0.2
    have h3 := hc.2 x (by simp)
    have ih := clss_chn q f (s.or (BS.range x.1 (highP t clsL x.1 x.2).1)) (nxC t x) 0 ⟨hc.1.tail, fun y hy => hc.2 y (by simp [hy])⟩ (by simp at hf; omega)
    rw [headAt_cons, headE_cons, List.length_cons, Nat.add_sub_add_right, List.foldl_cons, ← ih]
    conv => lhs; unfold clss
    rw [h1]
    simp only [h2]
    rw [if_neg (by simp [h3.1]), if_neg h3.2]
    rfl
end Go.Proofs.YtakcckdnliiieaaDoor
