/- Writing over steps: what stays. -/
import Derived.Test.YtbgmjlonbbmffaaDoorL34
namespace Go.Proofs.YtbgmjlonbbmffaaDoor
open Go Go.RowKit
attribute [local go_sem] Oper.quietAt Oper.quietUpon
/-- Cells that hold numbers may have been written over, in blocks at or over base. -/
structure Sp (base : Nat) (w w' : World) : Prop where
  low : Below base w w'
  free : ∀ b, Free w b → Free w' b
  int : ∀ b i x, w.cell? ⟨b, i, none⟩ = some (.int .i64 x) → ∃ y, w'.cell? ⟨b, i, none⟩ = some (.int .i64 y)
  keep : ∀ b i v, w.cell? ⟨b, i, none⟩ = some v → (∀ x, v ≠ .int .i64 x) → w'.cell? ⟨b, i, none⟩ = some v
theorem Sp.refl (base : Nat) (w : World) : Sp base w w := ⟨Below.refl _ _, fun _ h => h, fun _ _ x h => ⟨x, h⟩, fun _ _ _ h _ => h⟩
theorem Sp.trans {base : Nat} {a b c : World} (h : Sp base a b) (k : Sp base b c) : Sp base a c :=
  ⟨h.low.trans k.low, fun b hb => k.free b (h.free b hb), fun b i x hx => by obtain ⟨y, hy⟩ := h.int b i x hx; exact k.int b i y hy, fun b i v hv hn => k.keep b i v (h.keep b i v hv hn) hn⟩
theorem Sp.lies {base : Nat} {w w' : World} (h : Lies w w') (hb : base ≤ w.heap.size) : Sp base w w' :=
  ⟨h.mono hb, fun b hf => hf.lies h, fun b i x hx => ⟨x, cell_stay hx (grown_lies h none) (by simp)⟩, fun b i v hv _ => cell_stay hv (grown_lies h none) (by simp)⟩
theorem Sp.set {base : Nat} {w : World} {b i : Nat} {x : Int} (y : Int) (hb : base ≤ b) (hf : Free w b) (hc : w.cell? ⟨b, i, none⟩ = some (.int .i64 x)) : Sp base w (w.setCell ⟨b, i, none⟩ (.int .i64 y)) := by
  obtain ⟨cs, t, hB⟩ := hf
  have hB' : Blk w b t cs := hB
  have hset := hB'.set i (.int .i64 y)
  have hg := grownBy_setCell w b i (.int .i64 y)
  have hci := hB'.cell i
  rw [hc] at hci
  have hil : i < cs.size := (Array.getElem?_eq_some_iff.1 hci.symm).1
  refine ⟨Below.setCell (Below.refl _ _) hb _, fun c hcf => ?_, fun c j z hz => ?_, fun c j v hv hn => ?_⟩
  · by_cases hcb : c = b
    · subst hcb; exact ⟨_, _, hset⟩
    · exact hcf.grown hg (fun e => hcb (by injection e with e; exact e.symm))
  · by_cases hcb : c = b
    · subst hcb
      have h1 := hB'.cell j
      have h2 := hset.cell j
      by_cases hji : j = i
      · subst hji
        exact ⟨y, by rw [h2]; simp [hil]⟩
      · refine ⟨z, ?_⟩
        rw [h2, Array.getElem?_setIfInBounds_ne (fun e => hji e.symm), ← h1, hz]
    · exact ⟨z, cell_stay hz hg (fun e => hcb (by injection e with e))⟩
  · by_cases hcb : c = b
    · subst hcb
      have h1 := hB'.cell j
      have h2 := hset.cell j
      by_cases hji : j = i
      · subst hji
        rw [hc] at hv
        injection hv with hv
        exact absurd hv.symm (hn x)
      · rw [h2, Array.getElem?_setIfInBounds_ne (fun e => hji e.symm), ← h1, hv]
    · exact cell_stay hv hg (fun e => hcb (by injection e with e))
/-- A slice of so many numbers. -/
theorem ints_sp {base : Nat} {w w' : World} {F : Nat → Prop} {v : Value} {l : List Int} (h : IntsAt w F v l) (hs : Sp base w w') : ∃ l', l'.length = l.length ∧ IntsAt w' F v l' := by
  obtain ⟨oa, cap, hv, hm, h⟩ := h
  by_cases hne : l = []
  · subst hne; exact ⟨[], rfl, oa, cap, hv, hm, fun h => absurd rfl h⟩
  obtain ⟨b, off, h1, h2, h3⟩ := h hne
  have hall : ∀ i : Fin l.length, ∃ y, w'.cell? ⟨b, off + i.1, none⟩ = some (.int .i64 y) := fun i => hs.int b _ _ (h3 i.1 _ (List.getElem?_eq_getElem i.2))
  have hf := fun i => (hall i).choose_spec
  refine ⟨List.ofFn (fun i => (hall i).choose), by simp, oa, cap, by rw [List.length_ofFn]; exact hv, by rw [List.length_ofFn]; exact hm, fun _ => ⟨b, off, h1, h2, fun i x hi => ?_⟩⟩
  obtain ⟨hil, hx⟩ := List.getElem?_eq_some_iff.1 hi
  have hil' : i < l.length := by simpa using hil
  have := hf ⟨i, hil'⟩
  rw [← hx, List.getElem_ofFn]
  exact this
theorem steps_sp {base : Nat} {w w' : World} {F : Nat → Prop} {v : Value} {l : List StepD} (h : StepsAt w F v l) (hs : Sp base w w') : ∃ l', l'.length = l.length ∧ StepsAt w' F v l' := by
  obtain ⟨oa, cap, hv, hm, h⟩ := h
  by_cases hne : l = []
  · subst hne; exact ⟨[], rfl, oa, cap, hv, hm, fun h => absurd rfl h⟩
  obtain ⟨b, off, h1, h2, h3⟩ := h hne
  have hall : ∀ i : Fin l.length, ∃ s : StepD, ∃ pv, IntsAt w' F pv s.path ∧ ∀ j y, (stepCells s pv)[j]? = some y → w'.cell? ⟨b, off + i.1 * 5 + j, none⟩ = some y := fun i => by
    obtain ⟨pv, h4, h5⟩ := h3 i.1 _ (List.getElem?_eq_getElem i.2)
    obtain ⟨p', _, hp'⟩ := ints_sp h4 hs
    obtain ⟨r, hr⟩ := hs.int b _ _ (h5 2 _ rfl)
    obtain ⟨a, ha⟩ := hs.int b _ _ (h5 4 _ rfl)
    have k0 := hs.keep b _ _ (h5 0 _ rfl) (by intro x e; cases e)
    have k1 := hs.keep b _ _ (h5 1 _ rfl) (by intro x e; cases e)
    have k3 := hs.keep b _ _ (h5 3 _ rfl) (by obtain ⟨o, c, e⟩ := h4.slice; intro x e2; rw [e] at e2; cases e2)
    refine ⟨⟨l[i.1].pass, l[i.1].way, r, p', a⟩, pv, hp', fun j y hj => ?_⟩
    match j, hj with
    | 0, hj => injection hj with hj; subst hj; exact k0
    | 1, hj => injection hj with hj; subst hj; exact k1
    | 2, hj => injection hj with hj; subst hj; exact hr
    | 3, hj => injection hj with hj; subst hj; exact k3
    | 4, hj => injection hj with hj; subst hj; exact ha
    | j + 5, hj => simp [stepCells] at hj
  have hf := fun i => (hall i).choose_spec
  refine ⟨List.ofFn (fun i => (hall i).choose), by simp, oa, cap, by rw [List.length_ofFn]; exact hv, by rw [List.length_ofFn]; exact hm, fun _ => ⟨b, off, h1, h2, fun i x hi => ?_⟩⟩
  obtain ⟨hil, hx⟩ := List.getElem?_eq_some_iff.1 hi
  have hil' : i < l.length := by simpa using hil
  have := hf ⟨i, hil'⟩
  rw [← hx, List.getElem_ofFn]
  exact this
theorem segs_sp {base : Nat} {w w' : World} {F : Nat → Prop} {v : Value} {gs : List (List StepD)} (h : SegsAt w F v gs) (hs : Sp base w w') : ∃ gs', gs'.length = gs.length ∧ SegsAt w' F v gs' := by
  obtain ⟨oa, cap, hv, hm, h⟩ := h
  by_cases hne : gs = []
  · subst hne; exact ⟨[], rfl, oa, cap, hv, hm, fun h => absurd rfl h⟩
  obtain ⟨b, h1, h2, h3⟩ := h hne
  have hall : ∀ i : Fin gs.length, ∃ s : List StepD, ∃ sv, StepsAt w' F sv s ∧ w'.cell? ⟨b, i.1, none⟩ = some sv ∧ Nz sv := fun i => by
    obtain ⟨sv, h4, h5, h6⟩ := h3 i.1 _ (List.getElem?_eq_getElem i.2)
    obtain ⟨p', _, hp'⟩ := steps_sp h4 hs
    exact ⟨p', sv, hp', hs.keep b _ _ h5 (by obtain ⟨o, c, e⟩ := h4.slice; intro x e2; rw [e] at e2; cases e2), h6⟩
  have hf := fun i => (hall i).choose_spec
  refine ⟨List.ofFn (fun i => (hall i).choose), by simp, oa, cap, by rw [List.length_ofFn]; exact hv, by rw [List.length_ofFn]; exact hm, fun _ => ⟨b, h1, h2, fun i x hi => ?_⟩⟩
  obtain ⟨hil, hx⟩ := List.getElem?_eq_some_iff.1 hi
  have hil' : i < gs.length := by simpa using hil
  have := hf ⟨i, hil'⟩
  rw [← hx, List.getElem_ofFn]
  exact this
theorem free_frozen {w : World} {b : Nat} (h : Free w b) (i : Nat) : w.frozen? ⟨b, i, none⟩ = false := by
  obtain ⟨cs, t, h⟩ := h
  exact frozen_of_row w b i cs t h
set_option maxRecDepth 100000 in
set_option maxHeartbeats 1500000 in
theorem spoil_any {base : Nat} {w : World} {F : Nat → Prop} {v : Value} {l : List StepD} (hI : StepsAt w F v l) (hF : ∀ b, F b → base ≤ b ∧ Free w b) :
    Calls Tryd.prog 23 #[v] w (fun e w' => e = .returned (.tuple #[]) ∧ Sp base w w') := by
  obtain ⟨oa, c, hv⟩ := hI.slice
  have hz := hI.len
  have HI := Lib.hid hI
  have HF := Lib.hid hF
  clear hI hF
  subst hv
  obtain ⟨n, hn⟩ : ∃ n, l.length = n := ⟨_, rfl⟩
  have HL := Lib.hid hn
  rw [hn] at HI hz ⊢
  clear hn
  go_enter Tryd.func23, Tryd.ntmps23
  go_wp2_with fail
  go_loopw [2] (fun j wr => ∃ k : Nat, j = .int .i64 (k : Int) ∧ k ≤ n ∧ Hid (Sp base w wr)) (fun j _ => n - (intOf j).toNat)
  case atStart => exact ⟨0, rfl, Nat.zero_le _, Lib.hid (Sp.refl _ _)⟩
  case round =>
    obtain ⟨k, rfl, hk, hs⟩ := hrel
    by_cases hlt : k < n
    case neg =>
      obtain rfl : k = n := by omega
      have d1 : decide (k < k) = false := decide_eq_false hlt
      go_wp2
      exact ⟨rfl, .tuple #[], results_none rfl _ _ _, rfl, hs.out⟩
    have d1 : decide (k < n) = true := decide_eq_true hlt
    obtain ⟨l1, hl1, hI1⟩ := steps_sp HI.out hs.out
    rw [HL.out] at hl1
    obtain ⟨b, off, cap, pv, hv, hFb, hb, hp, c0, c1, c2, c3, c4⟩ := hI1.cell (i := k) (by omega)
    rw [hl1] at hv
    injection hv with e1 e2 e3
    subst e1
    clear e2 e3
    obtain ⟨op, cp, hpv⟩ := hp.slice
    subst hpv
    have hpl := hp.len
    obtain ⟨hbb, hbf⟩ := HF.out b hFb
    generalize l1[k] = x at *
    have HC3 := Lib.hid c3
    have HC2 := Lib.hid c2
    have HP := Lib.hid hp
    clear c0 c1 c2 c3 c4 hI1 hp hl1
    go_wp2_with fail
    go_loopw [3] (fun j wq => ∃ i : Nat, j = .int .i64 (i : Int) ∧ i ≤ x.path.length ∧ Hid (Sp base wr wq)) (fun j _ => x.path.length - (intOf j).toNat)
    case atStart => exact ⟨0, rfl, Nat.zero_le _, Lib.hid (Sp.refl _ _)⟩
    case round =>
      obtain ⟨i, rfl, hi, hq⟩ := hrel
      have c3 := hq.out.keep _ _ _ HC3.out (by intro y e; cases e)
      obtain ⟨r2, c2⟩ := hq.out.int _ _ _ HC2.out
      by_cases hil : i < x.path.length
      case neg =>
        obtain rfl : i = x.path.length := by omega
        have d2 : decide (x.path.length < x.path.length) = false := decide_eq_false hil
        have hbf2 := hq.out.free b (hs.out.free b hbf)
        have hfz := free_frozen hbf2 (off + k * 5 + 2)
        have hq2 := Lib.hid (Sp.set (-7) hbb hbf2 c2)
        clear hbf2
        go_wp2
        go_roundw
        case rel => exact ⟨k + 1, by go_num, by omega, Lib.hid ((hs.out.trans hq.out).trans hq2.out)⟩
        case measure => simp [intOf]; omega
      have d2 : decide (i < x.path.length) = true := decide_eq_true hil
      obtain ⟨pb, poff, pcap, hpv, hFp, hcp, hpb⟩ := HP.out.cell hil
      injection hpv with e1 e2 e3
      subst e1
      clear e2 e3
      obtain ⟨y, hy⟩ := hq.out.int _ _ _ hcp
      obtain ⟨hpb1, hpf⟩ := HF.out pb hFp
      have hbf2 := hq.out.free pb (hs.out.free pb hpf)
      have hfz := free_frozen hbf2 (poff + i)
      have hq2 := Lib.hid (Sp.set (-7) hpb1 hbf2 hy)
      clear hbf2 hcp
      go_wp2
      go_roundw
      case rel => exact ⟨i + 1, by go_num, by omega, Lib.hid (hq.out.trans hq2.out)⟩
      case measure => simp [intOf]; omega
end Go.Proofs.YtbgmjlonbbmffaaDoor
