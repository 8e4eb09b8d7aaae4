/- Classes: what was written is read as it was; what is read is not shorter than what is written of it; a class with a ^ more, or less. No program here. -/
import Derived.Test.YtakcckdnliiieaaDoorQ28
namespace Go.Proofs.YtakcckdnliiieaaDoor
open Go Go.RowKit
theorem cls_okL : okL clsL = true := by decide
/-- A text of runs, and what ends a class, begin by no -, and no ^; and a sign by no ] either. -/
theorem sgn_head {b : Nat} (hb : b < 256) : ∃ x m, sgn clsL b = x :: m ∧ x.toNat ≠ 93 ∧ x.toNat ≠ 45 ∧ x.toNat ≠ 94 := by
  obtain ⟨x, m, h, hp⟩ := @sgn_first clsL b hb
  refine ⟨x, m, h, ?_⟩
  rcases hp with hp | hp
  · omega
  · refine ⟨fun e => ?_, fun e => ?_, fun e => ?_⟩ <;> rw [e] at hp <;> revert hp <;> decide
theorem head_runs {lo : Nat} : ∀ (rs : List (Nat × Nat)), Sep lo rs → ∃ x m, runsT clsL rs ++ [93] = x :: m ∧ x.toNat ≠ 45 ∧ x.toNat ≠ 94
  | [], _ => ⟨93, [], rfl, by decide, by decide⟩
  | r :: l, h => by
    have h1 := h.2.1
    have h2 := h.2.2.1
    obtain ⟨x, m, hx, _, p2, p3⟩ := @sgn_head r.1 (by omega)
    rw [runsT_cons]
    unfold runT
    rw [hx]
    exact ⟨x, _, rfl, p2, p3⟩
theorem sees_first {t : ByteArray} {i c : Nat} {x : UInt8} {m : List UInt8} (h : atL t i (x :: m)) (hc : x.toNat ≠ c) : seesB t i c = false := by
  unfold seesB; rw [h.head]; simpa using hc
/-- One step of reading. -/
theorem clss_step {t : ByteArray} {f i a j b k : Nat} {s : BS} (h1 : seesB t i 93 = false) (h2 : signP t clsL i = (a, j, 0)) (h3 : highP t clsL a j = (b, k, 0)) (h4 : a ≤ b) :
    clss t (f + 1) s i 0 = clss t f (s.or (BS.range a b)) k 0 := by
  conv => lhs; unfold clss endAt
  rw [if_neg (by omega), h1, if_neg (by simp), h2, if_pos rfl]
  simp only [h3]
  rw [if_neg (by omega), if_neg (by omega)]
theorem range_two (s : BS) (a : Nat) : (s.or (BS.range a a)).or (BS.range (a + 1) (a + 1)) = s.or (BS.range a (a + 1)) := BS.ext_has fun n hn => by
  rw [BS.has_or, BS.has_or, BS.has_or, BS.has_range _ _ _ hn, BS.has_range _ _ _ hn, BS.has_range _ _ _ hn, Bool.or_assoc]
  congr 1
  rw [Bool.eq_iff_iff]
  simp
  omega
theorem clss_runs {t : ByteArray} : ∀ (rs : List (Nat × Nat)) (lo f i : Nat) (s : BS), Sep lo rs → atL t i (runsT clsL rs ++ [93]) → (runsT clsL rs).length < f →
    clss t f s i 0 = (rs.foldl (fun u r => u.or (BS.range r.1 r.2)) s, i + (runsT clsL rs).length, 0)
  | [], _, f + 1, i, s, _, h, _ => by
    have h0 : byteAt t i = some 93 := h.head
    have hs : seesB t i 93 = true := by unfold seesB; rw [h0]; rfl
    unfold clss endAt
    rw [if_neg (by omega), if_pos hs]
    rfl
  | r :: l, lo, f, i, s, hsep, h, hf => by
    obtain ⟨a, b⟩ := r
    obtain ⟨hlo, hab, hb, hsl⟩ := hsep
    simp only at hlo hab hb hsl
    rw [runsT_cons, List.append_assoc] at h
    rw [runsT_cons, List.length_append] at hf
    rw [List.foldl_cons, runsT_cons, List.length_append]
    obtain ⟨xr, mr, hxr, pr, _⟩ := head_runs l hsl
    obtain ⟨xa, ma, hxa, pa, pa2, _⟩ := @sgn_head a (by omega)
    obtain ⟨xb, mb, hxb, pb, pb2, _⟩ := @sgn_head b hb
    have hla := sgn_pos clsL a
    have hlb := sgn_pos clsL b
    have hlen := runT_length clsL (a, b)
    simp only at hlen
    unfold runT at h
    simp only at h
    by_cases h1 : a = b
    · subst h1
      rw [if_neg (by omega), if_neg (by omega)] at h
      rw [if_neg (by omega), if_neg (by omega)] at hlen
      simp only [List.append_nil] at h
      obtain ⟨f, rfl⟩ : ∃ g, f = g + 1 := ⟨f - 1, by omega⟩
      have g1 := h.left
      have hsa := signP_sgn (t := t) (i := i) (b := a) (by omega) cls_okL g1
      rw [hxa] at g1
      have g2 := h.right
      have g3 := g2
      rw [hxr] at g3
      have hh : highP t clsL a (i + (sgn clsL a).length) = (a, i + (sgn clsL a).length, 0) := by unfold highP; rw [sees_first g3 pr]; rfl
      rw [clss_step (sees_first g1 pa) hsa hh (Nat.le_refl _), clss_runs l _ f _ _ hsl g2 (by omega)]
      rw [hlen]; simp [Nat.add_assoc]
    by_cases h2 : a + 1 = b
    · subst h2
      rw [if_neg (by omega), if_pos (by omega)] at h
      rw [if_neg (by omega), if_pos (by omega)] at hlen
      simp only [List.append_nil, List.append_assoc] at h
      obtain ⟨f, rfl⟩ : ∃ g, f = g + 2 := ⟨f - 2, by omega⟩
      have g1 := h.left
      have hsa := signP_sgn (t := t) (i := i) (b := a) (by omega) cls_okL g1
      rw [hxa] at g1
      have g2 := h.right.left
      have hsb := signP_sgn (t := t) (i := i + (sgn clsL a).length) (b := a + 1) hb cls_okL g2
      rw [hxb] at g2
      have g3 := h.right.right
      have g4 := g3
      rw [hxr] at g4
      have hh1 : highP t clsL a (i + (sgn clsL a).length) = (a, i + (sgn clsL a).length, 0) := by unfold highP; rw [sees_first g2 pb2]; rfl
      have hh2 : highP t clsL (a + 1) (i + (sgn clsL a).length + (sgn clsL (a + 1)).length) = (a + 1, i + (sgn clsL a).length + (sgn clsL (a + 1)).length, 0) := by unfold highP; rw [sees_first g4 pr]; rfl
      rw [show f + 2 = (f + 1) + 1 from rfl, clss_step (sees_first g1 pa) hsa hh1 (Nat.le_refl _), clss_step (sees_first g2 pb) hsb hh2 (Nat.le_refl _), range_two, clss_runs l _ f _ _ hsl g3 (by omega)]
      rw [hlen]; simp [Nat.add_assoc]
    · rw [if_pos (by omega), if_pos (by omega)] at h
      rw [if_pos (by omega), if_pos (by omega)] at hlen
      simp only [List.append_assoc] at h
      obtain ⟨f, rfl⟩ : ∃ g, f = g + 1 := ⟨f - 1, by omega⟩
      have g1 := h.left
      have hsa := signP_sgn (t := t) (i := i) (b := a) (by omega) cls_okL g1
      rw [hxa] at g1
      have g2 := h.right.left
      have g3 := h.right.right
      have g4 := g3.left
      have hsb := signP_sgn (t := t) (i := i + (sgn clsL a).length + [45].length) (b := b) hb cls_okL g4
      have g5 : atL t (i + (sgn clsL a).length + 1 + (sgn clsL b).length) (runsT clsL l ++ [93]) := g3.right
      have hs45 : seesB t (i + (sgn clsL a).length) 45 = true := by unfold seesB; rw [g2.head]; rfl
      have hh : highP t clsL a (i + (sgn clsL a).length) = (b, i + (sgn clsL a).length + 1 + (sgn clsL b).length, 0) := by unfold highP; rw [if_pos hs45]; exact hsb
      rw [clss_step (sees_first g1 pa) hsa hh hab, clss_runs l _ f _ _ hsl g5 (by omega)]
      rw [hlen]; simp [Nat.add_assoc]
theorem unclass_class {t : ByteArray} {x : BS} (hx : x ≠ BS.full) (h : atL t 0 (classB x)) : unclsP t = (x, (classB x).length, 0) := by
  have hsz := h.size (Nat.zero_le _)
  unfold classB at h hsz ⊢
  rw [if_neg hx] at h hsz ⊢
  rw [List.append_assoc] at h
  have h0 : byteAt t 0 = some 91 := h.left.head
  have h1 : atL t 1 (runsT clsL x.runs ++ [93]) := by have := h.right; simpa using this
  have hb : beginP t 91 = (1, 0) := by unfold beginP; rw [h0]; simp
  obtain ⟨y, m, hy, _, p94⟩ := head_runs x.runs (sep_runs x)
  have h2 := h1
  rw [hy] at h2
  have hs := sees_first h2 p94
  have hc := clss_runs x.runs 0 (t.size + 1) 1 BS.zero (sep_runs x) h1 (by simp at hsz; omega)
  have := unclsP_of (t := t) (bt := false) (i0 := 1) (e0 := 0) (by rw [hb]; simp [hs]) (by rw [hb]; rfl) (by rw [hb]) hc
  rw [this, if_neg (by omega), if_neg (by simp)]
  have ha := accR_runs x
  unfold accR at ha
  rw [ha]
  simp [Nat.add_comm]
end Go.Proofs.YtakcckdnliiieaaDoor
