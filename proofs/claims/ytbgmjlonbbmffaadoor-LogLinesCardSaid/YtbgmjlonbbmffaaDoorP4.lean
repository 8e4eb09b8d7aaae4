/- The document's Read in plain words: it answers as the program's does. -/
import Derived.Test.YtbgmjlonbbmffaaDoorL35
namespace Go.Proofs.YtbgmjlonbbmffaaDoor
open Go Go.RowKit
def ndB (b : UInt8) : Bool := !dgB b
/-- Number by number, and what stands between. -/
def scan : Nat → List UInt8 → List Nat → List UInt8 → Option (List Nat × List UInt8)
  | 0, _, ns, bt => some (ns, bt)
  | f + 1, l, ns, bt => if l = [] then some (ns, bt) else if (decR (l.takeWhile dgB)).2 = true then scan f ((l.dropWhile dgB).dropWhile ndB) (ns ++ [(decR (l.takeWhile dgB)).1]) (bt ++ (l.dropWhile dgB).takeWhile ndB) else none
theorem scan_succ (f : Nat) (l : List UInt8) (ns : List Nat) (bt : List UInt8) : scan (f + 1) l ns bt = if l = [] then some (ns, bt) else if (decR (l.takeWhile dgB)).2 = true then scan f ((l.dropWhile dgB).dropWhile ndB) (ns ++ [(decR (l.takeWhile dgB)).1]) (bt ++ (l.dropWhile dgB).takeWhile ndB) else none := rfl
theorem dgB_dec (n : Nat) : ∀ b ∈ Lib.decDigits n, dgB b = true := fun b hb => by
  have := dec_digits n b hb
  unfold isD at this
  unfold dgB
  simp [this.1, this.2]
theorem scan_dec {n f : Nat} {sep rest : List UInt8} {ns : List Nat} {bt : List UInt8} (hn : n ≤ 2147483647) (hs : ∀ b ∈ sep, dgB b = false) (hr : (sep = [] → rest = []) ∧ ∀ b, rest.head? = some b → dgB b = true) :
    scan (f + 1) (Lib.decDigits n ++ sep ++ rest) ns bt = scan f rest (ns ++ [n]) (bt ++ sep) := by
  have hd := (dec_len n hn).1
  have hsr : (sep ++ rest).takeWhile dgB = [] ∧ (sep ++ rest).dropWhile dgB = sep ++ rest := by
    cases sep with
    | nil => rw [hr.1 rfl]; exact ⟨rfl, rfl⟩
    | cons b t =>
      have := hs b (by simp)
      simp [this]
  have hrr : rest.takeWhile ndB = [] ∧ rest.dropWhile ndB = rest := by
    cases rest with
    | nil => exact ⟨rfl, rfl⟩
    | cons b t =>
      have := hr.2 b rfl
      have h2 : ndB b = false := by unfold ndB; rw [this]; rfl
      simp [h2]
  have hsn : ∀ b ∈ sep, ndB b = true := fun b hb => by unfold ndB; rw [hs b hb]; rfl
  have h1 : (Lib.decDigits n ++ sep ++ rest).takeWhile dgB = Lib.decDigits n := by
    rw [List.append_assoc, List.takeWhile_append_of_pos (dgB_dec n), hsr.1, List.append_nil]
  have h2 : (Lib.decDigits n ++ sep ++ rest).dropWhile dgB = sep ++ rest := by
    rw [List.append_assoc, List.dropWhile_append_of_pos (dgB_dec n), hsr.2]
  rw [scan_succ, if_neg (fun e => by have h9 := (List.append_eq_nil_iff.1 (List.append_eq_nil_iff.1 e).1).1; rw [h9] at hd; simp at hd), h1, h2, decR_dec n hn, if_pos rfl, List.takeWhile_append_of_pos hsn, List.dropWhile_append_of_pos hsn, hrr.1, hrr.2, List.append_nil]
theorem head_dec (n : Nat) (hn : n ≤ 2147483647) (t : List UInt8) : ∀ b, (Lib.decDigits n ++ t).head? = some b → dgB b = true := by
  intro b hb
  have hd := (dec_len n hn).1
  cases h : Lib.decDigits n with
  | nil => rw [h] at hd; simp at hd
  | cons c r =>
    rw [h] at hb
    simp only [List.cons_append, List.head?_cons, Option.some.injEq] at hb
    subst hb
    exact dgB_dec n c (by rw [h]; simp)
theorem scan_path : ∀ (l : List Int) (r p f : Nat) (ns : List Nat) (bt : List UInt8), r ≤ 2147483647 → p ≤ 2147483647 → (∀ x ∈ l, 0 ≤ x ∧ x ≤ 2147483647) → l.length + 2 ≤ f →
    scan f (Lib.decDigits r ++ pathS l ++ [32, 64] ++ Lib.decDigits p) ns bt = some (ns ++ r :: l.map Int.toNat ++ [p], bt ++ List.replicate l.length 47 ++ [32, 64])
  | [], r, p, f, ns, bt, hr, hp, _, hf => by
    obtain ⟨f, rfl⟩ : ∃ g, f = g + 1 + 1 := ⟨f - 2, by simp at hf; omega⟩
    have h1 := scan_dec (n := r) (f := f + 1) (sep := [32, 64]) (rest := Lib.decDigits p) (ns := ns) (bt := bt) hr (by decide) ⟨by simp, by have := head_dec p hp []; rwa [List.append_nil] at this⟩
    have h2 := scan_dec (n := p) (f := f) (sep := []) (rest := []) (ns := ns ++ [r]) (bt := bt ++ [32, 64]) hp (by simp) ⟨fun _ => rfl, by simp⟩
    simp only [List.append_nil] at h2
    rw [show Lib.decDigits r ++ pathS [] ++ [32, 64] ++ Lib.decDigits p = Lib.decDigits r ++ [32, 64] ++ Lib.decDigits p by simp [pathS], h1, h2]
    cases f <;> simp [scan]
  | y :: l, r, p, f, ns, bt, hr, hp, hl, hf => by
    obtain ⟨f, rfl⟩ : ∃ g, f = g + 1 := ⟨f - 1, by simp at hf; omega⟩
    have hy := hl y (by simp)
    have h1 := scan_dec (n := r) (f := f) (sep := [47]) (rest := Lib.decDigits y.toNat ++ pathS l ++ [32, 64] ++ Lib.decDigits p) (ns := ns) (bt := bt) hr (by decide) ⟨by simp, by rw [List.append_assoc, List.append_assoc]; exact head_dec y.toNat (by omega) _⟩
    have h2 := scan_path l y.toNat p f (ns ++ [r]) (bt ++ [47]) (by omega) hp (fun x hx => hl x (by simp [hx])) (by simp at hf; omega)
    rw [show Lib.decDigits r ++ pathS (y :: l) ++ [32, 64] ++ Lib.decDigits p = Lib.decDigits r ++ [47] ++ (Lib.decDigits y.toNat ++ pathS l ++ [32, 64] ++ Lib.decDigits p) by simp [pathS, itoa_pos hy.1], h1, h2]
    simp [List.replicate_succ]
/-- The item that the numbers tell. -/
def itemN (ns : List Nat) : ItemD := ⟨false, ⟨ns.getD 0 0, ns.getD 1 0, (ns.getD 2 0 : Int), ((ns.drop 3).take (ns.length - 4)).map Int.ofNat, (ns.getD (ns.length - 1) 0 : Int)⟩⟩
theorem scan_show {x : ItemD} (hm : mayB x = true) (hok : x.step.ok) (hk : x.mark = false) {f : Nat} (hf : x.step.path.length + 4 ≤ f) :
    ∃ ns bt, scan f (showB x) [] [] = some (ns, bt) ∧ 4 ≤ ns.length ∧ ns.getD 0 0 ≤ 255 ∧ ns.getD 1 0 ≤ 255 ∧ itemN ns = x ∧ bt = [46, 32] ++ List.replicate (ns.length - 4) 47 ++ [32, 64] := by
  obtain ⟨h0, h1, h2, h3, h4⟩ := mayB_spec hm hk
  obtain ⟨m, ⟨pass, way, rule, path, place⟩⟩ := x
  simp only at hk h0 h1 h2 h3 h4 hf
  subst hk
  unfold StepD.ok at hok
  simp only at hok
  obtain ⟨f, rfl⟩ : ∃ g, f = g + 1 + 1 := ⟨f - 2, by omega⟩
  have e1 := scan_dec (n := pass) (f := f + 1) (sep := [46]) (rest := Lib.decDigits way ++ [32] ++ (Lib.decDigits rule.toNat ++ pathS path ++ [32, 64] ++ Lib.decDigits place.toNat)) (ns := []) (bt := []) (by omega) (by decide) ⟨by simp, by rw [List.append_assoc]; exact head_dec way (by omega) _⟩
  have e2 := scan_dec (n := way) (f := f) (sep := [32]) (rest := Lib.decDigits rule.toNat ++ pathS path ++ [32, 64] ++ Lib.decDigits place.toNat) (ns := [] ++ [pass]) (bt := [] ++ [46]) (by omega) (by decide) ⟨by simp, by rw [List.append_assoc, List.append_assoc]; exact head_dec rule.toNat (by omega) _⟩
  have e3 := scan_path path rule.toNat place.toNat f ([] ++ [pass] ++ [way]) ([] ++ [46] ++ [32]) (by omega) (by omega) h4 (by omega)
  refine ⟨[] ++ [pass] ++ [way] ++ rule.toNat :: path.map Int.toNat ++ [place.toNat], _, ?_, ?_, ?_, ?_, ?_, rfl⟩
  · have hs : showB ⟨false, ⟨pass, way, rule, path, place⟩⟩ = Lib.decDigits pass ++ [46] ++ (Lib.decDigits way ++ [32] ++ (Lib.decDigits rule.toNat ++ pathS path ++ [32, 64] ++ Lib.decDigits place.toNat)) := by
      unfold showB
      simp only [Bool.false_eq_true, if_false, itoa_nat, itoa_pos h1.1, itoa_pos h2.1, List.append_assoc]
    rw [hs, e1, e2, e3]
    congr 1
    refine Prod.ext rfl ?_
    simp
  · simp
  · simp; omega
  · simp; omega
  · have hback : (path.map Int.toNat).map Int.ofNat = path := by
      rw [List.map_map]
      conv => rhs; rw [← List.map_id path]
      exact List.map_congr_left fun y hy => by have := (h4 y hy).1; simp; omega
    unfold itemN
    have hdrop : (([] ++ [pass] ++ [way] ++ rule.toNat :: path.map Int.toNat ++ [place.toNat]).drop 3).take (([] ++ [pass] ++ [way] ++ rule.toNat :: path.map Int.toNat ++ [place.toNat]).length - 4) = path.map Int.toNat := by
      simp
    rw [hdrop, hback]
    have hlast : ([] ++ [pass] ++ [way] ++ rule.toNat :: path.map Int.toNat ++ [place.toNat]).getD (([] ++ [pass] ++ [way] ++ rule.toNat :: path.map Int.toNat ++ [place.toNat]).length - 1) 0 = place.toNat := by
      rw [List.getD_eq_getElem?_getD, List.getElem?_append_right (by simp)]
      simp
    rw [hlast]
    simp [Int.toNat_of_nonneg h1.1, Int.toNat_of_nonneg h2.1]
theorem mayB_len {x : ItemD} (hm : mayB x = true) (hk : x.mark = false) : x.step.path.length ≤ 32 := (mayB_spec hm hk).2.2.2.1
theorem pathS_ge (l : List Int) : l.length ≤ (pathS l).length := by
  induction l with
  | nil => simp
  | cons y l ih =>
    have : pathS (y :: l) = 47 :: (Lib.itoa y ++ pathS l) := by simp [pathS]
    rw [this]; simp; omega
/-- A line that is accepted is scanned to its numbers. -/
theorem read_scan {s : List UInt8} {x : ItemD} (h : readP s = (x, 0)) (hne : s ≠ [109, 97, 114, 107]) :
    ∃ ns bt, scan s.length s [] [] = some (ns, bt) ∧ 4 ≤ ns.length ∧ ns.getD 0 0 ≤ 255 ∧ ns.getD 1 0 ≤ 255 ∧ itemN ns = x ∧ bt = [46, 32] ++ List.replicate (ns.length - 4) 47 ++ [32, 64] := by
  obtain ⟨hm, hs⟩ := readP_inv h
  have hok : x.step.ok := by have := (readP_ok s).2; rwa [h] at this
  have hk : x.mark = false := by
    cases hk : x.mark with
    | false => rfl
    | true => exact absurd (by rw [← hs]; unfold showB; rw [if_pos hk]) hne
  have hlen : x.step.path.length + 4 ≤ s.length := by
    have hg := pathS_ge x.step.path
    rw [← hs]
    unfold showB
    rw [if_neg (by simp [hk])]
    simp only [List.length_append, List.length_cons, List.length_nil]
    omega
  have := scan_show hm hok hk hlen
  rwa [hs] at this
/-- What the scan tells and shows again is what is read. -/
theorem scan_read {s : List UInt8} {ns : List Nat} (h0 : ns.getD 0 0 ≤ 255) (h1 : ns.getD 1 0 ≤ 255) (hs : showP (itemN ns) = s) (hne : s ≠ []) : readP s = (itemN ns, 0) := by
  unfold showP at hs
  split at hs
  · rename_i hm
    rw [← hs]
    exact readP_show hm (by unfold itemN StepD.ok; simp only; omega)
  · exact absurd hs.symm hne
theorem read_no {s : List UInt8} (h : ∀ x, readP s ≠ (x, 0)) : readP s = (zeroI, 4) := by
  rcases (readP_ok s).1 with h1 | h1
  · exact absurd (show readP s = ((readP s).1, 0) by rw [← h1]) (h _)
  · exact h1
end Go.Proofs.YtbgmjlonbbmffaaDoor
