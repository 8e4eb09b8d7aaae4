/- The document's segments. -/
import Derived.Test.YtbgmjlonbbmffaaDoorL23
import Derived.Test.YtbgmjlonbbmffaaDoorL32
namespace Go.Proofs.YtbgmjlonbbmffaaDoor
open Go Go.RowKit
attribute [local go_sem] Oper.quietAt Oper.quietUpon
theorem StepsAt.mono {w : World} {F G : Nat → Prop} {v : Value} {l : List StepD} (h : StepsAt w F v l) (hFG : ∀ b, F b → G b) : StepsAt w G v l := by
  obtain ⟨oa, cap, hv, hm, h⟩ := h
  refine ⟨oa, cap, hv, hm, fun hne => ?_⟩
  obtain ⟨b, off, h1, h2, h3⟩ := h hne
  refine ⟨b, off, h1, hFG b h2, fun i x hi => ?_⟩
  obtain ⟨pv, h4, h5⟩ := h3 i x hi
  exact ⟨pv, h4.mono hFG, h5⟩
/-- Where finished segments lie. -/
def Dn (base c : Nat) (F : Nat → Prop) (W : World) (b : Nat) : Prop := F b ∨ (base ≤ b ∧ b < c ∧ Typ W 35 b)
structure RSeg (base : Nat) (F : Nat → Prop) (W : World) (u v : Value) (c : Nat) (vs : List Value) (gs : List (List StepD)) (ps : List (StepD × Value)) : Prop where
  bc : base ≤ c
  cw : c ≤ W.heap.size
  row : W.ownsRow base 32 1 u vs.length vs
  len : vs.length = gs.length
  all : ∀ (i : Nat) (sv : Value) (g : List StepD), vs[i]? = some sv → gs[i]? = some g → StepsAt W (Dn base c F W) sv g ∧ Nz sv
  now : W.ownsRow c 35 5 v ps.length (cellsS ps)
  ints : ∀ p ∈ ps, IntsAt W F p.2 p.1.path
theorem RSeg.push {base : Nat} {F : Nat → Prop} {W W' : World} {u v v' : Value} {c : Nat} {vs : List Value} {gs : List (List StepD)} {ps : List (StepD × Value)} {p : StepD × Value} (hF : ∀ b, F b → b < base) (h : RSeg base F W u v c vs gs ps)
    (hg : W.grownBy W' v.ownBlock) (hown : W'.ownsRow c 35 5 v' (ps.length + 1) (cellsS ps ++ stepCells p.1 p.2)) (hp : IntsAt W F p.2 p.1.path) : RSeg base F W' u v' c vs gs (ps ++ [p]) := by
  have hbc := h.bc
  have hk : ∀ (q : Value) (l : List Int), IntsAt W F q l → IntsAt W' F q l := fun q l hq => hq.kept hg (fun r hr hf => by have := (h.now.lt r hr).1; have := hF r hf; omega)
  refine ⟨h.bc, Nat.le_trans h.cw hg.size, h.row.kept hg ?_, h.len, fun i sv g h1 h2 => ?_, by rw [cellsS_snoc, List.length_append]; exact hown, fun q hq => ?_⟩
  · cases hvo : u.ownBlock with
    | none => exact .inl rfl
    | some b =>
      refine .inr (fun e => ?_)
      exact (row_typ h.row b hvo).ne (row_typ h.now b e.symm) (by decide) rfl
  · obtain ⟨a, b⟩ := h.all i sv g h1 h2
    have hlt := h.now.lt
    refine ⟨(a.kept hg (fun r hr hd => ?_)).mono (fun b hb => ?_), b⟩
    · have := (hlt r hr).1
      rcases hd with hd | hd
      · have := hF r hd; omega
      · omega
    · rcases hb with hb | hb
      · exact .inl hb
      · exact .inr ⟨hb.1, hb.2.1, hb.2.2.grown hg (fun e => by have := (hlt b e).1; omega)⟩
  · rcases List.mem_append.1 hq with hq | hq
    · exact hk _ _ (h.ints q hq)
    · rw [List.mem_singleton] at hq; subst hq; exact hk _ _ hp
theorem RSeg.close {base : Nat} {F : Nat → Prop} {W W' : World} {u u' v : Value} {c : Nat} {vs : List Value} {gs : List (List StepD)} {ps : List (StepD × Value)} (hF : ∀ b, F b → b < base) (h : RSeg base F W u v c vs gs ps) (hz : ps.length ≤ 100000)
    (hg : W.grownBy W' u.ownBlock) (hown : W'.ownsRow base 32 1 u' (vs.length + 1) (vs ++ [v])) : RSeg base F W' u' (.slice none 0 0) W'.heap.size (vs ++ [v]) (gs ++ [ps.map (·.1)]) [] := by
  have hbc := h.bc
  have hcw := h.cw
  have hgz := hg.size
  have hnt : ∀ b, u.ownBlock = some b → Typ W 32 b := row_typ h.row
  have hub : ∀ b, u.ownBlock = some b → base ≤ b := fun b e => (h.row.lt b e).1
  have hk : ∀ (q : Value) (l : List Int), IntsAt W F q l → IntsAt W' F q l := fun q l hq => hq.kept hg (fun r hr hf => by have := hub r hr; have := hF r hf; omega)
  have hnow : W'.ownsRow c 35 5 v ps.length (cellsS ps) := h.now.kept hg (by
    cases hvo : v.ownBlock with
    | none => exact .inl rfl
    | some b => exact .inr (fun e => (hnt b e.symm).ne (row_typ h.now b hvo) (by decide) rfl))
  refine ⟨by omega, Nat.le_refl _, by rw [List.length_append]; exact hown, by simp [h.len], fun i sv g h1 h2 => ?_, World.ownsRow_nil _ _ _ _, by simp⟩
  rcases get_snoc h1 with ⟨h3, h4⟩ | ⟨h3, h4⟩
  · rcases get_snoc h2 with ⟨h5, h6⟩ | ⟨h5, h6⟩
    · obtain ⟨a, b⟩ := h.all i sv g h4 h6
      refine ⟨(a.kept hg (fun r hr hd => ?_)).mono (fun b hb => ?_), b⟩
      · rcases hd with hd | hd
        · have := hub r hr; have := hF r hd; omega
        · exact (hnt r hr).ne hd.2.2 (by decide) rfl
      · rcases hb with hb | hb
        · exact .inl hb
        · exact .inr ⟨hb.1, by omega, hb.2.2.grown hg (fun e => (hnt b e).ne hb.2.2 (by decide) rfl)⟩
    · have := h.len; omega
  · subst h4
    rcases get_snoc h2 with ⟨h5, h6⟩ | ⟨h5, h6⟩
    · have := h.len; omega
    · subst h6
      exact ⟨steps_of_row hnow rfl hz (fun p hp => (hk _ _ (h.ints p hp)).mono (fun b hb => .inl hb)) (fun b hb => .inr ⟨by have := (hnow.lt b hb).1; omega, (hnow.lt b hb).2, row_typ hnow b hb⟩), nz_row hnow⟩
theorem RSeg.segs {base : Nat} {F : Nat → Prop} {W : World} {u v : Value} {c : Nat} {vs : List Value} {gs : List (List StepD)} {ps : List (StepD × Value)} (hF : ∀ b, F b → b < base) (h : RSeg base F W u v c vs gs ps) (hz : vs.length ≤ 100000) : SegsAt W (fun b => b < W.heap.size) u gs := by
  have hbc := h.bc
  have hcw := h.cw
  have h2 := h.row
  have hc := fun g hg => h2.cells (g := g) hg
  have hlt := h2.lt
  have hlen := h.len
  rcases h2.2 with ⟨rfl, hnil⟩ | ⟨g, cap, cur, rfl, _⟩
  · refine ⟨none, 0, by rw [← hlen, hnil], by omega, fun hne => ?_⟩
    exact absurd (List.eq_nil_of_length_eq_zero (by rw [← hlen, hnil])) hne
  · refine ⟨_, cap, by rw [hlen], by omega, fun _ => ⟨g, rfl, (hlt g rfl).2, fun i gs' hi => ?_⟩⟩
    have hil : i < vs.length := by rw [hlen]; exact (List.getElem?_eq_some_iff.1 hi).1
    have hv : vs[i]? = some vs[i] := List.getElem?_eq_getElem hil
    obtain ⟨a, b⟩ := h.all i _ gs' hv hi
    refine ⟨vs[i], a.mono (fun b hb => ?_), ?_, b⟩
    · rcases hb with hb | hb
      · have := hF b hb; omega
      · omega
    · have := hc g rfl i _ hv
      have hadd : (⟨g, 0, none⟩ : Addr).add i = ⟨g, i, none⟩ := by unfold Addr.add; split <;> simp_all
      rwa [hadd] at this
theorem RSeg.lies {base : Nat} {F : Nat → Prop} {W W' : World} {u v : Value} {c : Nat} {vs : List Value} {gs : List (List StepD)} {ps : List (StepD × Value)} (h : RSeg base F W u v c vs gs ps) (hl : Lies W W') : RSeg base F W' u v c vs gs ps :=
  ⟨h.bc, Nat.le_trans h.cw hl.size, ownsRow_lies' h.row hl, h.len, fun i sv g h1 h2 => ⟨((h.all i sv g h1 h2).1.lies hl).mono (fun b hb => hb.elim .inl (fun hb => .inr ⟨hb.1, hb.2.1, hb.2.2.lies hl⟩)), (h.all i sv g h1 h2).2⟩, ownsRow_lies' h.now hl, fun p hp => (h.ints p hp).lies hl⟩
/-- What the document's Segments leaves. -/
def RefSegsRet (l : List (List StepD)) (w : World) (x : Ending) (w' : World) : Prop :=
  ∃ v : Value, x = .returned v ∧ SegsAt w' (fun b => b < w'.heap.size) v l ∧ Lies w w'
set_option maxRecDepth 100000 in
set_option maxHeartbeats 1500000 in
theorem refSegments_any {w : World} {F : Nat → Prop} {v : Value} {l : List ItemD} (hI : ItemsAt w F v l) (hF : ∀ b, F b → b < w.heap.size) (hml : l.length < 20000) :
    Calls Tryd.prog 22 #[v] w (RefSegsRet (segP l) w) := by
  obtain ⟨r, hr⟩ : ∃ r, r = segP l := ⟨_, rfl⟩
  rw [← hr]
  obtain ⟨oa, cap, hv⟩ := hI.slice
  have HI := Lib.hid hI
  have HR := Lib.hid hr
  have HF := Lib.hid hF
  clear hI hr hF
  subst hv
  go_enter Tryd.func22, Tryd.ntmps22
  go_wp2_with fail
  go_loopw [3, 4, 5, 6] (fun u v ob j wr => ∃ (k : Nat) (o : Bool) (c : Nat) (vs : List Value) (gs : List (List StepD)) (ps : List (StepD × Value)), j = .int .i64 (k : Int) ∧ ob = .bool o ∧ k ≤ l.length ∧ vs.length ≤ k ∧ ps.length ≤ k ∧ Hid (segP (l.take k) = gs ++ if o then [ps.map (·.1)] else []) ∧ Hid (o = false → gs = [] ∧ ps = []) ∧ Hid (RSeg w.heap.size F wr u v c vs gs ps) ∧ Hid (Lies w wr)) (fun _ _ _ j _ => l.length - (intOf j).toNat)
  case atStart => exact ⟨0, false, w.heap.size, [], [], [], rfl, rfl, Nat.zero_le _, Nat.le_refl _, Nat.le_refl _, Lib.hid rfl, Lib.hid (fun _ => ⟨rfl, rfl⟩), Lib.hid ⟨Nat.le_refl _, Nat.le_refl _, World.ownsRow_nil _ _ _ _, rfl, by simp, World.ownsRow_nil _ _ _ _, by simp⟩, Lib.hid (Lies.start w)⟩
  case round =>
    obtain ⟨k, o, c, vs, gs, ps, rfl, rfl, hk, hvk, hpk, hst, ho, hm, hl⟩ := hrel
    by_cases hlt : k < l.length
    case neg =>
      obtain rfl : k = l.length := by omega
      have d1 : decide (l.length < l.length) = false := decide_eq_false hlt
      have hfin := hst.out
      rw [List.take_length, ← HR.out] at hfin
      have HFIN := Lib.hid hfin
      clear hfin hst HR
      cases o
      · go_wp2
        go_ret
        refine ⟨_, rfl, ?_, hl.out⟩
        have := hm.out.segs HF.out (by omega)
        rw [HFIN.out]
        simpa using this
      · obtain ⟨oo, nn, cc, hvv⟩ := row_slice hm.out.now
        subst hvv
        go_wp2_with (at_builtin; refine wpList_push3 rfl _ _ 38 rfl w.heap.size 32 (.slice none 0 0) 1 24 Tryd.underlying38 Tryd.info32' rfl (by decide) _ _ _ rfl hm.out.row [.slice oo nn cc] rfl rfl (by intro y hy; simp at hy; subst hy; rfl) (by omega) (by omega) hl.out.size ?_; intro u1 W3 hown3 hg3 hnil3 hf3)
        go_ret
        have h2 := hm.out.close HF.out (by omega) hg3 hown3
        refine ⟨_, rfl, ?_, hl.out.grown hg3 hl.out.size (fun b e => (hm.out.row.lt b e).1)⟩
        have := h2.segs HF.out (by simp; omega)
        rw [HFIN.out]
        simpa using this
    have d1 : decide (k < l.length) = true := decide_eq_true hlt
    obtain ⟨b, off, cap', pv, hv, hFb, hb, hp, hx, c0, c1, c2, c3, c4, c5⟩ := (HI.out.lies hl.out).cell hlt
    obtain ⟨oa2, cap2, hpv⟩ := hp.slice
    injection hv with e1 e2 e3
    subst e1 hpv
    clear e2 e3 hx
    have hst2 : segP (l.take (k + 1)) = segStep (segP (l.take k)) l[k] := by rw [List.take_succ_eq_append_getElem hlt, segP_snoc]
    generalize l[k] = x at *
    obtain ⟨m, ⟨a6, b6, c6, l6, z6⟩⟩ := x
    simp only at hp c0 c1 c2 c3 c4 c5
    rw [hst.out] at hst2
    have HST := Lib.hid hst2
    have HP := Lib.hid hp
    clear hst2 hst hp
    cases m
    case true =>
      cases o
      · obtain ⟨rfl, rfl⟩ := ho.out rfl
        go_wp2
        go_roundw
        case measure => simp [intOf]; omega
        case rel => exact ⟨k + 1, true, c, vs, [], [], by go_num, rfl, by omega, by omega, by simp, Lib.hid (by rw [HST.out]; simp [segStep]), Lib.hid (by simp), Lib.hid ⟨hm.out.bc, hm.out.cw, hm.out.row, hm.out.len, hm.out.all, World.ownsRow_nil _ _ _ _, by simp⟩, hl⟩
      · obtain ⟨oo, nn, cc, hvv⟩ := row_slice hm.out.now
        subst hvv
        go_wp2_with (at_builtin; refine wpList_push3 rfl _ _ 38 rfl w.heap.size 32 (.slice none 0 0) 1 24 Tryd.underlying38 Tryd.info32' rfl (by decide) _ _ _ rfl hm.out.row [.slice oo nn cc] rfl rfl (by intro y hy; simp at hy; subst hy; rfl) (by omega) (by omega) hl.out.size ?_; intro u1 W3 hown3 hg3 hnil3 hf3)
        go_roundw
        case measure => simp [intOf]; omega
        case rel => exact ⟨k + 1, true, W3.heap.size, vs ++ [.slice oo nn cc], gs ++ [ps.map (·.1)], [], by go_num, rfl, by omega, by simp; omega, by simp, Lib.hid (by rw [HST.out]; simp [segStep]), Lib.hid (by simp), Lib.hid (hm.out.close HF.out (by omega) hg3 hown3), Lib.hid (hl.out.grown hg3 hl.out.size (fun b e => (hm.out.row.lt b e).1))⟩
    have hS : Hid (segP (l.take (k + 1)) = gs ++ [(ps ++ [((⟨a6, b6, c6, l6, z6⟩ : StepD), Value.slice oa2 l6.length cap2)]).map (·.1)]) := Lib.hid (by
      rw [HST.out]
      cases o
      · obtain ⟨rfl, rfl⟩ := ho.out rfl
        simp [segStep]
      · rw [if_pos rfl, segStep_snoc _ _ rfl]; simp)
    have hcc : c ≤ wr.heap.size := hm.out.cw
    clear ho HST
    go_wp2_with (at_builtin; refine wpList_push3 rfl _ _ 32 rfl c 35 (.agg zs5) 5 48 Tryd.underlying32 Tryd.info35' rfl (by decide) _ _ _ rfl hm.out.now [.int .u8 (a6 : Int), .int .u8 (b6 : Int), .int .i64 c6, .slice oa2 l6.length cap2, .int .i64 z6] rfl rfl (by intro y hy; simp at hy; rcases hy with rfl | rfl | rfl | rfl | rfl <;> rfl) (by omega) (by omega) hcc ?_; intro u1 W3 hown3 hg3 hnil3 hf3)
    go_roundw
    case measure => simp [intOf]; omega
    case rel =>
      refine ⟨k + 1, true, c, vs, gs, ps ++ [((⟨a6, b6, c6, l6, z6⟩ : StepD), Value.slice oa2 l6.length cap2)], by go_num, rfl, by omega, by omega, by simp; omega, Lib.hid (by rw [hS.out, if_pos rfl]), Lib.hid (by simp), Lib.hid (hm.out.push HF.out hg3 hown3 HP.out), Lib.hid (hl.out.grown hg3 hl.out.size (fun b e => Nat.le_trans hm.out.bc (hm.out.now.lt b e).1))⟩
end Go.Proofs.YtbgmjlonbbmffaaDoor
