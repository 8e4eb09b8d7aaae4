/- log.Segments: what it computes; rows of rows of steps. -/
import Derived.Test.YtbgmjlonbbmffaaDoorL21
namespace Go.Proofs.YtbgmjlonbbmffaaDoor
open Go Go.RowKit
def segStep (acc : List (List StepD)) (x : ItemD) : List (List StepD) :=
  if x.mark then acc ++ [[]] else if acc = [] then [[x.step]] else acc.dropLast ++ [acc.getLast?.getD [] ++ [x.step]]
def segP (l : List ItemD) : List (List StepD) := l.foldl segStep []
theorem segP_snoc (l : List ItemD) (x : ItemD) : segP (l ++ [x]) = segStep (segP l) x := by simp [segP, List.foldl_append]
theorem segStep_snoc (gs : List (List StepD)) (g : List StepD) {x : ItemD} (h : x.mark = false) : segStep (gs ++ [g]) x = gs ++ [g ++ [x.step]] := by
  unfold segStep
  rw [h]
  simp
theorem Tryd.info32' : (Tryd.prog.info? 32).map (fun i => (i.zero, i.size, i.bytes)) = some (some (.slice none 0 0), 1, 24) := by kernel_rfl
/-- A slice that is nil has no room. -/
def Nz (v : Value) : Prop := ∀ n c, v = .slice none n c → n = 0 ∧ c = 0
/-- A slice of slices of steps, read. -/
def SegsAt (w : World) (F : Nat → Prop) (v : Value) (gs : List (List StepD)) : Prop :=
  ∃ oa cap, v = .slice oa gs.length cap ∧ gs.length ≤ 100000 ∧ (gs ≠ [] → ∃ b, oa = some ⟨b, 0, none⟩ ∧ F b ∧ ∀ i g, gs[i]? = some g → ∃ sv, StepsAt w F sv g ∧ w.cell? ⟨b, i, none⟩ = some sv ∧ Nz sv)
theorem SegsAt.kept {w w' : World} {F : Nat → Prop} {v : Value} {gs : List (List StepD)} {row : Option Nat} (h : SegsAt w F v gs) (hg : w.grownBy w' row) (hF : ∀ r, row = some r → ¬ F r) : SegsAt w' F v gs := by
  obtain ⟨oa, cap, hv, hm, h⟩ := h
  refine ⟨oa, cap, hv, hm, fun hne => ?_⟩
  obtain ⟨b, h1, h2, h3⟩ := h hne
  refine ⟨b, h1, h2, fun i g hi => ?_⟩
  obtain ⟨sv, h4, h5, h6⟩ := h3 i g hi
  exact ⟨sv, h4.kept hg hF, cell_stay h5 hg (fun e => hF b e.symm h2), h6⟩
theorem SegsAt.lies {w w' : World} {F : Nat → Prop} {v : Value} {gs : List (List StepD)} (h : SegsAt w F v gs) (hw : Lies w w') : SegsAt w' F v gs := h.kept (grown_lies hw none) (fun _ e => by cases e)
theorem SegsAt.slice {w : World} {F : Nat → Prop} {v : Value} {gs : List (List StepD)} (h : SegsAt w F v gs) : ∃ oa cap, v = .slice oa gs.length cap := by obtain ⟨oa, cap, hv, _⟩ := h; exact ⟨oa, cap, hv⟩
theorem SegsAt.len {w : World} {F : Nat → Prop} {v : Value} {gs : List (List StepD)} (h : SegsAt w F v gs) : gs.length ≤ 100000 := by obtain ⟨_, _, _, h, _⟩ := h; exact h
theorem SegsAt.cell {w : World} {F : Nat → Prop} {v : Value} {gs : List (List StepD)} (h : SegsAt w F v gs) {i : Nat} (hi : i < gs.length) : ∃ b cap sv, v = .slice (some ⟨b, 0, none⟩) gs.length cap ∧ F b ∧ StepsAt w F sv gs[i] ∧ w.cell? ⟨b, i, none⟩ = some sv ∧ b < w.heap.size ∧ Nz sv := by
  obtain ⟨oa, cap, hv, _, h⟩ := h
  obtain ⟨b, h1, h2, h3⟩ := h (fun e => by subst e; simp at hi)
  obtain ⟨sv, h4, h5, h6⟩ := h3 i _ (List.getElem?_eq_getElem hi)
  exact ⟨b, cap, sv, by rw [hv, h1], h2, h4, h5, cell_lt h5, h6⟩
/-- The rows as they are built. -/
def SegMem (base : Nat) (W : World) (u : Value) (vs : List Value) (pss : List (List (StepD × Value))) : Prop :=
  vs.length = pss.length ∧ W.ownsRow base 32 1 u vs.length vs ∧
  (∀ (i : Nat) (v : Value) (ps : List (StepD × Value)), vs[i]? = some v → pss[i]? = some ps → W.ownsRow base 35 5 v ps.length (cellsS ps) ∧ ∀ p ∈ ps, IntsAt W (fun b => base ≤ b ∧ Typ W 3 b) p.2 p.1.path) ∧
  (∀ (i j : Nat) (v v' : Value) (b : Nat), vs[i]? = some v → vs[j]? = some v' → v.ownBlock = some b → v'.ownBlock = some b → i = j)
theorem kept_lies {w w' : World} {base : Nat} {e : TypeId} {size : Nat} {v : Value} {n : Nat} {xs : List Value} (h : w.ownsRow base e size v n xs) (hg : w.grownBy w' none) : w'.ownsRow base e size v n xs :=
  h.kept hg (by cases hv : v.ownBlock <;> simp)
theorem ints_grown {w w' : World} {base : Nat} {row : Option Nat} {v : Value} {l : List Int} (h : IntsAt w (fun b => base ≤ b ∧ Typ w 3 b) v l) (hg : w.grownBy w' row) (hr : ∀ b, row = some b → ¬ Typ w 3 b) : IntsAt w' (fun b => base ≤ b ∧ Typ w' 3 b) v l :=
  (h.kept hg (fun b e hF => hr b e hF.2)).mono (fun b hb => ⟨hb.1, hb.2.grown hg (fun e => hr b e hb.2)⟩)
theorem SegMem.lies {base : Nat} {W W' : World} {u : Value} {vs : List Value} {pss : List (List (StepD × Value))} (h : SegMem base W u vs pss) (hl : Lies W W') : SegMem base W' u vs pss := by
  have hg := grown_lies hl none
  obtain ⟨h1, h2, h3, h4⟩ := h
  refine ⟨h1, kept_lies h2 hg, fun i v ps hv hp => ?_, h4⟩
  obtain ⟨a, b⟩ := h3 i v ps hv hp
  exact ⟨kept_lies a hg, fun p hp => ints_grown (b p hp) hg (fun _ e => by cases e)⟩
theorem get_snoc {α : Type} {l : List α} {x y : α} {i : Nat} (h : (l ++ [x])[i]? = some y) : (i < l.length ∧ l[i]? = some y) ∨ (i = l.length ∧ y = x) := by
  rcases Nat.lt_trichotomy i l.length with h1 | h1 | h1
  · rw [List.getElem?_append_left h1] at h; exact .inl ⟨h1, h⟩
  · subst h1
    simp at h
    exact .inr ⟨rfl, h.symm⟩
  · rw [List.getElem?_eq_none (by simp; omega)] at h; cases h
theorem SegMem.rowne {base : Nat} {W : World} {u : Value} {vs : List Value} {pss : List (List (StepD × Value))} (h : SegMem base W u vs pss) {i : Nat} {v : Value} {ps : List (StepD × Value)} (hv : vs[i]? = some v) (hp : pss[i]? = some ps) : ∀ b, v.ownBlock = some b → u.ownBlock ≠ some b := by
  intro b hb hu
  exact (row_typ (h.2.2.1 i v ps hv hp).1 b hb).ne (row_typ h.2.1 b hu) (by decide) rfl
/-- An empty segment more. -/
theorem SegMem.nil {base : Nat} {W W' : World} {u u' : Value} {vs : List Value} {pss : List (List (StepD × Value))} (h : SegMem base W u vs pss) (hown : W'.ownsRow base 32 1 u' (vs.length + 1) (vs ++ [.slice none 0 0])) (hg : W.grownBy W' u.ownBlock) : SegMem base W' u' (vs ++ [.slice none 0 0]) (pss ++ [[]]) := by
  refine ⟨by simp [h.1], by rw [List.length_append]; exact hown, fun i v ps hv hp => ?_, fun i j v v' b hv hv' hb hb' => ?_⟩
  · rcases get_snoc hv with ⟨h1, h2⟩ | ⟨h1, h2⟩
    · rcases get_snoc hp with ⟨h3, h4⟩ | ⟨h3, h4⟩
      · obtain ⟨a, b⟩ := h.2.2.1 i v ps h2 h4
        have hne := h.rowne h2 h4
        refine ⟨a.kept hg ?_, fun p hp => ints_grown (b p hp) hg (fun b e ht => ht.ne (row_typ h.2.1 b e) (by decide) rfl)⟩
        cases hvo : v.ownBlock with
        | none => exact .inl rfl
        | some b => exact .inr (fun e => hne b hvo e.symm)
      · have := h.1; omega
    · subst h2
      rcases get_snoc hp with ⟨h3, h4⟩ | ⟨h3, h4⟩
      · have := h.1; omega
      · subst h4
        exact ⟨World.ownsRow_nil _ _ _ _, by simp⟩
  · rcases get_snoc hv with ⟨h1, h2⟩ | ⟨h1, h2⟩
    · rcases get_snoc hv' with ⟨h3, h4⟩ | ⟨h3, h4⟩
      · exact h.2.2.2 i j v v' b h2 h4 hb hb'
      · subst h4; simp [Value.ownBlock] at hb'
    · subst h2; simp [Value.ownBlock] at hb
/-- One cell of a row is written. -/
theorem row_set {W : World} {base A n cap : Nat} {e : TypeId} {xs : List Value} {v : Value} {i : Nat} (h : W.ownsRow base e 1 (.slice (some ⟨A, 0, none⟩) n cap) n xs) (hi : i < n) : (W.setCell ⟨A, i, none⟩ v).ownsRow base e 1 (.slice (some ⟨A, 0, none⟩) n cap) n (xs.set i v) := by
  obtain ⟨hl, h⟩ := h
  refine ⟨by simp [hl], .inr ?_⟩
  rcases h with ⟨h, _⟩ | ⟨g, cap', cur, hv, hb, hg, hn, hc, hz, ht⟩
  · simp at h
  · injection hv with e1 e2 e3
    injection e1 with e1
    injection e1 with e1
    subst e1 e3
    have hB : Blk W A e cur := hg
    refine ⟨A, cap, cur.setIfInBounds i v, rfl, hb, hB.set i v, hn, hc, by simp [hz], ?_⟩
    rw [← ht, Array.toList_setIfInBounds, List.take_set]
/-- The last segment has a step more. -/
theorem SegMem.step {base : Nat} {Wc w2 w3 : World} {A n cap : Nat} {vi : List Value} {vl vl1 : Value} {pi : List (List (StepD × Value))} {ps : List (StepD × Value)} {p : StepD × Value} (hn : vi.length = n) (h : SegMem base Wc (.slice (some ⟨A, 0, none⟩) (n + 1) cap) (vi ++ [vl]) (pi ++ [ps]))
    (hl : Lies Wc w2) (hown : w3.ownsRow base 35 5 vl1 (ps.length + 1) (cellsS ps ++ stepCells p.1 p.2)) (hg : w2.grownBy w3 vl.ownBlock) (hf : ∀ g', vl1.ownBlock = some g' → vl.ownBlock = some g' ∨ w2.heap.size < g')
    (hp : IntsAt w2 (fun b => base ≤ b ∧ Typ w2 3 b) p.2 p.1.path) :
    SegMem base (w3.setCell ⟨A, n, none⟩ vl1) (.slice (some ⟨A, 0, none⟩) (n + 1) cap) (vi ++ [vl1]) (pi ++ [ps ++ [p]]) := by
  have h2 := h.lies hl
  have hpn : pi.length = n := by have := h.1; simp at this; omega
  have hlast : (vi ++ [vl])[n]? = some vl := by rw [← hn]; simp
  have hplast : (pi ++ [ps])[n]? = some ps := by rw [← hpn]; simp
  have hvt : ∀ b, vl.ownBlock = some b → Typ w2 35 b := row_typ (h2.2.2.1 n vl ps hlast hplast).1
  have hAt : Typ w2 32 A := row_typ h2.2.1 A rfl
  have hAne : vl.ownBlock ≠ some A := fun e => (hvt A e).ne hAt (by decide) rfl
  have hA3 : Typ w3 32 A := hAt.grown hg hAne
  have hgs : w3.grownBy (w3.setCell ⟨A, n, none⟩ vl1) (some A) := grownBy_setCell _ _ _ _
  have hrow3 : w3.ownsRow base 32 1 (.slice (some ⟨A, 0, none⟩) (n + 1) cap) (n + 1) (vi ++ [vl]) := by
    have := h2.2.1
    rw [List.length_append, hn] at this
    exact this.kept hg (.inr (fun e => hAne e.symm))
  have hset : (vi ++ [vl]).set n vl1 = vi ++ [vl1] := by rw [← hn]; simp
  have hi3 : ∀ (q : StepD × Value), IntsAt w2 (fun b => base ≤ b ∧ Typ w2 3 b) q.2 q.1.path → IntsAt (w3.setCell ⟨A, n, none⟩ vl1) (fun b => base ≤ b ∧ Typ (w3.setCell ⟨A, n, none⟩ vl1) 3 b) q.2 q.1.path := fun q hq =>
    ints_grown (ints_grown hq hg (fun b e ht => (hvt b e).ne ht (by decide) rfl)) hgs (fun b e ht => by injection e with e; subst e; exact hA3.ne ht (by decide) rfl)
  refine ⟨by simp [hn, hpn], ?_, fun i v qs hv hq => ?_, fun i j v v' b hv hv' hb hb' => ?_⟩
  · have := row_set (v := vl1) (i := n) hrow3 (by omega)
    rw [hset] at this
    rw [List.length_append, hn]
    exact this
  · rcases get_snoc hv with ⟨h1, h3⟩ | ⟨h1, h3⟩
    · rcases get_snoc hq with ⟨h4, h5⟩ | ⟨h4, h5⟩
      · have hv' : (vi ++ [vl])[i]? = some v := by rw [List.getElem?_append_left h1]; exact h3
        have hq' : (pi ++ [ps])[i]? = some qs := by rw [List.getElem?_append_left h4]; exact h5
        obtain ⟨a, b⟩ := h2.2.2.1 i v qs hv' hq'
        have hvt' := row_typ a
        refine ⟨(a.kept hg ?_).kept hgs ?_, fun q hq => hi3 q (b q hq)⟩
        · cases hvo : v.ownBlock with
          | none => exact .inl rfl
          | some b => exact .inr (fun e => by have := h2.2.2.2 i n v vl b hv' hlast hvo e.symm; omega)
        · cases hvo : v.ownBlock with
          | none => exact .inl rfl
          | some b => exact .inr (fun e => by injection e with e; subst e; exact (hvt' _ hvo).ne hAt (by decide) rfl)
      · omega
    · subst h3
      rcases get_snoc hq with ⟨h4, h5⟩ | ⟨h4, h5⟩
      · omega
      · subst h5
        have hvt1 := row_typ hown
        refine ⟨?_, fun q hq => ?_⟩
        · have : w3.ownsRow base 35 5 v (ps ++ [p]).length (cellsS (ps ++ [p])) := by rw [cellsS_snoc, List.length_append]; exact hown
          refine this.kept hgs ?_
          cases hvo : v.ownBlock with
          | none => exact .inl rfl
          | some b => exact .inr (fun e => by injection e with e; subst e; exact (hvt1 _ hvo).ne hA3 (by decide) rfl)
        · rcases List.mem_append.1 hq with hq | hq
          · exact hi3 q ((h2.2.2.1 n vl ps hlast hplast).2 q hq)
          · obtain rfl := List.mem_singleton.1 hq; exact hi3 _ hp
  · have old : ∀ i v, i < vi.length → vi[i]? = some v → v.ownBlock = some b → vl1.ownBlock = some b → False := fun i v h1 h3 hb hb' => by
      have hv' : (vi ++ [vl])[i]? = some v := by rw [List.getElem?_append_left h1]; exact h3
      have hq' : (pi ++ [ps])[i]? = some (pi[i]'(by omega)) := by rw [List.getElem?_append_left (by omega), List.getElem?_eq_getElem]
      rcases hf b hb' with h4 | h4
      · have := h2.2.2.2 i n v vl b hv' hlast hb h4; omega
      · have := ((h2.2.2.1 i v _ hv' hq').1.lt b hb).2; omega
    rcases get_snoc hv with ⟨h1, h3⟩ | ⟨h1, h3⟩
    · rcases get_snoc hv' with ⟨h4, h5⟩ | ⟨h4, h5⟩
      · refine h2.2.2.2 i j v v' b ?_ ?_ hb hb'
        · rw [List.getElem?_append_left h1]; exact h3
        · rw [List.getElem?_append_left h4]; exact h5
      · subst h5; exact (old i v h1 h3 hb hb').elim
    · subst h3
      rcases get_snoc hv' with ⟨h4, h5⟩ | ⟨h4, h5⟩
      · exact (old j v' h4 h5 hb' hb).elim
      · omega
theorem nz_row {W : World} {base : Nat} {e : TypeId} {size : Nat} {v : Value} {n : Nat} {xs : List Value} (h : W.ownsRow base e size v n xs) : Nz v := by
  rcases h.2 with ⟨rfl, _⟩ | ⟨g, cap, cur, rfl, _⟩
  · intro n c e; injection e with _ e1 e2; exact ⟨e1.symm, e2.symm⟩
  · intro n c e; simp at e
/-- .. and as they are read. -/
theorem segs_of_mem {base : Nat} {W : World} {u : Value} {vs : List Value} {pss : List (List (StepD × Value))} (h : SegMem base W u vs pss) (hn : vs.length ≤ 100000) (hp : ∀ ps ∈ pss, ps.length ≤ 100000) : SegsAt W (fun b => base ≤ b ∧ b < W.heap.size ∧ Free W b) u (pss.map (·.map (·.1))) := by
  obtain ⟨h1, h2, h3, h4⟩ := h
  have hlen : (pss.map (·.map (·.1))).length = vs.length := by rw [List.length_map, h1]
  have hc := fun g hg => h2.cells (g := g) hg
  have hlt := h2.lt
  have hfr := row_free h2
  rcases h2.2 with ⟨rfl, hnil⟩ | ⟨g, cap, cur, rfl, _⟩
  · refine ⟨none, 0, by rw [hlen, hnil], by rw [hlen]; exact hn, fun hne => ?_⟩
    exact absurd (List.eq_nil_of_length_eq_zero (by rw [hlen, hnil])) hne
  · refine ⟨_, cap, by rw [hlen], by rw [hlen]; exact hn, fun _ => ⟨g, rfl, ⟨(hlt g rfl).1, (hlt g rfl).2, hfr g rfl⟩, fun i gs hi => ?_⟩⟩
    rw [List.getElem?_map] at hi
    obtain ⟨ps, hps, rfl⟩ := Option.map_eq_some_iff.1 hi
    have hil : i < vs.length := by rw [h1]; exact (List.getElem?_eq_some_iff.1 hps).1
    have hv : vs[i]? = some vs[i] := List.getElem?_eq_getElem hil
    obtain ⟨a, b⟩ := h3 i _ ps hv hps
    refine ⟨vs[i], steps_of_row a rfl (hp ps (List.mem_of_getElem? hps)) (fun p hp => (b p hp).mono (fun c hc => ⟨hc.1, hc.2.lt, hc.2.free⟩)) (fun c hc => ⟨(a.lt c hc).1, (a.lt c hc).2, row_free a c hc⟩), ?_, nz_row a⟩
    have := hc g rfl i _ hv
    have hadd : (⟨g, 0, none⟩ : Addr).add i = ⟨g, i, none⟩ := by unfold Addr.add; split <;> simp_all
    rwa [hadd] at this
theorem grw_of {Wc w2 w3 : World} {k0 : Nat} {vo : Option Nat} (h : Lies Wc w2) (hg : w2.grownBy w3 vo) (hk : vo = some k0 ∨ vo = none) : Grw Wc k0 w3 := by
  rcases hk with rfl | rfl
  · exact grownBy_trans (grown_lies h _) hg
  · exact grownBy_trans (grown_lies h _) ⟨hg.os, hg.tape, hg.output, hg.size, fun k hk _ => hg.block k hk (by simp)⟩
end Go.Proofs.YtbgmjlonbbmffaaDoor
