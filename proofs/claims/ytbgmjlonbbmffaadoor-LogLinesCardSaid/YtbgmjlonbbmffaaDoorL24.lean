/- bonsailaw27.LogParts walked. -/
import Derived.Test.YtbgmjlonbbmffaaDoorL17
import Derived.Test.YtbgmjlonbbmffaaDoorL23
import Derived.Deep.Slices
namespace Go.Proofs.YtbgmjlonbbmffaaDoor
open Go Go.RowKit
attribute [local go_sem] Oper.quietAt Oper.quietUpon
theorem segStep_flat (acc : List (List StepD)) (x : ItemD) : (segStep acc x).flatten = acc.flatten ++ if x.mark then [] else [x.step] := by
  unfold segStep
  cases h : x.mark
  · rcases List.eq_nil_or_concat acc with rfl | ⟨a, g, rfl⟩
    · simp
    · rw [List.concat_eq_append]
      simp
  · simp
theorem segs_flat (l : List ItemD) : (segP l).flatten = stepsP l := by
  have key : ∀ (l : List ItemD) (acc : List (List StepD)), (l.foldl segStep acc).flatten = acc.flatten ++ stepsP l := by
    intro l
    induction l with
    | nil => intro acc; simp [stepsP]
    | cons x l ih =>
      intro acc
      rw [List.foldl_cons, ih, segStep_flat]
      simp [stepsP]
  have := key l []
  simpa [segP] using this
def marks (l : List ItemD) : Nat := (l.filter (·.mark)).length
theorem marks_snoc (l : List ItemD) (x : ItemD) : marks (l ++ [x]) = marks l + if x.mark then 1 else 0 := by
  unfold marks
  rw [List.filter_append, List.length_append]
  cases h : x.mark <;> simp [h]
theorem segs_len (x : ItemD) (l : List ItemD) : (segP (x :: l)).length = marks (x :: l) + if x.mark then 0 else 1 := by
  have key : ∀ (l : List ItemD) (acc : List (List StepD)), acc ≠ [] → (l.foldl segStep acc).length = acc.length + marks l := by
    intro l
    induction l with
    | nil => intro acc _; simp [marks]
    | cons y l ih =>
      intro acc hne
      have hlen : (segStep acc y).length = acc.length + if y.mark then 1 else 0 := by
        unfold segStep
        cases h : y.mark
        · rcases List.eq_nil_or_concat acc with rfl | ⟨a, g, rfl⟩
          · exact absurd rfl hne
          · rw [List.concat_eq_append]; simp
        · simp
      have hne2 : segStep acc y ≠ [] := fun e => by
        rw [e] at hlen
        cases acc with
        | nil => exact hne rfl
        | cons a b => simp at hlen; omega
      rw [List.foldl_cons, ih _ hne2, hlen]
      unfold marks
      cases h : y.mark <;> simp [h]; omega
  unfold segP
  rw [List.foldl_cons, key l _ (by unfold segStep; cases x.mark <;> simp)]
  unfold segStep marks
  cases h : x.mark <;> simp [h] <;> omega
theorem cellsS_div : ∀ (ps : List (StepD × Value)) (j : Nat) (y : Value), (cellsS ps)[j]? = some y → ∃ p, ps[j / 5]? = some p ∧ (stepCells p.1 p.2)[j % 5]? = some y
  | [], j, y, h => by simp [cellsS] at h
  | q :: ps, j, y, h => by
    have e : cellsS (q :: ps) = stepCells q.1 q.2 ++ cellsS ps := rfl
    have hl : (stepCells q.1 q.2).length = 5 := rfl
    rw [e] at h
    rcases Nat.lt_or_ge j 5 with h1 | h1
    · rw [List.getElem?_append_left (by rw [hl]; exact h1)] at h
      refine ⟨q, ?_, ?_⟩
      · rw [Nat.div_eq_of_lt h1]; rfl
      · rw [Nat.mod_eq_of_lt h1]; exact h
    · rw [List.getElem?_append_right (by rw [hl]; exact h1), hl] at h
      obtain ⟨p, h2, h3⟩ := cellsS_div ps (j - 5) y h
      refine ⟨p, ?_, ?_⟩
      · rw [show j / 5 = (j - 5) / 5 + 1 by omega, List.getElem?_cons_succ]; exact h2
      · rw [show j % 5 = (j - 5) % 5 by omega]; exact h3
/-- A slice of steps, cell by cell. -/
theorem steps_open {w : World} {F : Nat → Prop} {oa : Option Addr} {n c : Nat} {l : List StepD} (h : StepsAt w F (.slice oa n c) l) :
    ∃ ps : List (StepD × Value), ps.map (·.1) = l ∧ (∀ p ∈ ps, IntsAt w F p.2 p.1.path) ∧ ∀ a, oa = some a → ∀ j y, (cellsS ps)[j]? = some y → w.cell? (a.add j) = some y := by
  obtain ⟨oa', cap, hv, _, h⟩ := h
  injection hv with e1 e2 e3
  subst e1
  by_cases hl : l = []
  · subst hl; exact ⟨[], rfl, by simp, by simp [cellsS]⟩
  obtain ⟨b, off, rfl, _, hc⟩ := h hl
  haveI : Inhabited Value := ⟨undef⟩
  obtain ⟨pv, hpv⟩ := Go.Deep.choose_lt (n := l.length) (p := fun i v => ∀ x, l[i]? = some x → IntsAt w F v x.path ∧ ∀ j y, (stepCells x v)[j]? = some y → w.cell? ⟨b, off + i * 5 + j, none⟩ = some y) (fun i hi => by
    obtain ⟨v, h1, h2⟩ := hc i _ (List.getElem?_eq_getElem hi)
    exact ⟨v, fun x hx => by rw [List.getElem?_eq_getElem hi] at hx; injection hx with hx; subst hx; exact ⟨h1, h2⟩⟩)
  refine ⟨(List.range l.length).map fun i => (l.getD i ⟨0, 0, 0, [], 0⟩, pv i), ?_, fun p hp => ?_, fun a ha j y hj => ?_⟩
  · rw [List.map_map]
    refine List.ext_getElem? fun i => ?_
    rw [List.getElem?_map]
    by_cases hi : i < l.length
    · simp [List.getElem?_range hi, hi]
    · simp [hi]
  · obtain ⟨i, hi, rfl⟩ := List.mem_map.1 hp
    have hi := List.mem_range.1 hi
    exact (hpv i hi _ (by rw [List.getElem?_eq_getElem hi, List.getD_eq_getElem?_getD, List.getElem?_eq_getElem hi]; rfl)).1
  · injection ha with ha
    subst ha
    obtain ⟨p, h1, h2⟩ := cellsS_div _ _ _ hj
    rw [List.getElem?_map] at h1
    obtain ⟨i, hi, rfl⟩ := Option.map_eq_some_iff.1 h1
    have hlt : j / 5 < l.length := by have := (List.getElem?_eq_some_iff.1 hi).1; simpa using this
    rw [List.getElem?_range hlt] at hi
    injection hi with hi
    subst hi
    have := (hpv _ hlt _ (by rw [List.getElem?_eq_getElem hlt, List.getD_eq_getElem?_getD, List.getElem?_eq_getElem hlt]; rfl)).2 _ _ h2
    have hadd : (⟨b, off, none⟩ : Addr).add j = ⟨b, off + j, none⟩ := by unfold Addr.add; split <;> simp_all
    rw [hadd]
    rwa [show off + j / 5 * 5 + j % 5 = off + j by omega] at this
theorem flat_take (gs : List (List StepD)) (i : Nat) : ((gs.take i).flatten).length ≤ (gs.flatten).length := by
  conv => rhs; rw [← List.take_append_drop i gs, List.flatten_append, List.length_append]
  omega
theorem stepsP_len (l : List ItemD) : (stepsP l).length ≤ l.length := by
  induction l with
  | nil => simp [stepsP]
  | cons x l ih =>
    have e : stepsP (x :: l) = (if x.mark then [] else [x.step]) ++ stepsP l := rfl
    rw [e, List.length_append, List.length_cons]
    cases x.mark <;> simp <;> omega
theorem cellsS_one {w : World} {F : Nat → Prop} {ps : List (StepD × Value)} (h : ∀ p ∈ ps, IntsAt w F p.2 p.1.path) : ∀ u ∈ cellsS ps, u.oneCell' = true := by
  intro u hu
  obtain ⟨p, hp, hu⟩ := List.mem_flatMap.1 hu
  obtain ⟨oa, c, hv⟩ := (h p hp).slice
  simp only [stepCells, List.mem_cons, List.not_mem_nil, or_false] at hu
  rcases hu with rfl | rfl | rfl | rfl | rfl
  · rfl
  · rfl
  · rfl
  · rw [hv]; rfl
  · rfl
section
variable {P : Program} {w : World}
/-- 'out = append(out, s...)', s nil. -/
theorem wpList_append_none {ops : Array Oper} {rest : List Oper} {o : Oper} {a : Act} {Q : Exit → Act → World → Prop} (hgd : o.guard = none) (s x : Operand) (t : TypeId)
    (ho : o.op = .call { callee := .builtin .append, args := #[s, x], argTypes := #[t, t] })
    (base : Nat) (e : TypeId) (z : Value) (size bytes : Nat) (ht : P.underlying t = some (.slice e)) (hi : (P.info? e).map (fun i => (i.zero, i.size, i.bytes)) = some (some z, size, bytes))
    (v : Value) (n : Nat) (xs : List Value) (hs : a.eval s = v) (hown : w.ownsRow base e size v n xs) (hx : a.eval x = .slice none 0 0)
    (h : wpList P ops Q rest (a.put o.dst v) w) : wpList P ops Q (o :: rest) a w := by
  obtain ⟨i0, hi0, hz0, hz1, hz2⟩ := info_parts hi
  refine wpList_plain hgd fun K hK => ?_
  have hr := run_append_owned_none (P := P) (w := w) base t o.type e i0 size ht hi0 v n xs hown
  unfold Oper.wp execOp
  simp only [ho, resolve, invoke, builtin, Sem.run_bind, Sem.run_pure, Result.andThen_ok, List.map_toArray, List.map_cons, List.map_nil, hs, hx, hr]
  exact hK _ _ h
end
set_option maxRecDepth 100000 in
set_option maxHeartbeats 1500000 in
theorem logParts_any {p : Value} {l : List ItemD} {w : World} {F : Nat → Prop} (hI : ItemsAt w F p l) (hF : ∀ b, F b → b < w.heap.size) (hT : Tab w) :
    Calls Tryd.prog 4 #[p] w (Ret (.bool true) w) := by
  have kA : ∀ W, Lies w W → Calls Tryd.prog 8 #[] W (Ret (.bool true) W) := fun W h => awake_any (hT.lies h)
  have kL : ∀ W, Lies w W → Calls Tryd.prog 7 #[p] W (Ret (.bool (decide (20000 ≤ wt l))) W) := fun W h => long_any (hI.lies h)
  have hl0 := Lies.start w
  cases dl : decide (20000 ≤ wt l)
  case true =>
    obtain ⟨oa, c, hv⟩ := hI.slice
    subst hv
    rw [dl] at kL
    clear dl hI hT
    go_enter Tryd.func4, Tryd.ntmps4
    go_wp2_with (first | (go_at_call 7; refine (Calls.lies (W0 := w) (by assumption) (kL _ (by assumption))).mono ?_; rintro e W1 ⟨rfl, hW1⟩) | (go_at_call 8; refine (Calls.lies (W0 := w) (by assumption) (kA _ (by assumption))).mono ?_; rintro e W1 ⟨rfl, hW2⟩))
    go_ret
    exact ⟨rfl, hW2⟩
  rw [dl] at kL
  have hwt : wt l < 20000 := by have := of_decide_eq_false dl; omega
  clear dl
  have hml : l.length < 20000 := Nat.lt_of_le_of_lt (wt_len l) hwt
  have kSeg : ∀ W, Lies w W → Calls Tryd.prog 12 #[p] W (SegsRet (segP l) W) := fun W h => segments_any (hI.lies h) (fun b hb => Nat.lt_of_lt_of_le (hF b hb) h.size) hwt
  have kSt : ∀ W, Lies w W → Calls Tryd.prog 14 #[p] W (StepsRet (stepsP l) W) := fun W h => steps_any (hI.lies h) (fun b hb => Nat.lt_of_lt_of_le (hF b hb) h.size) hwt
  obtain ⟨oa, c, hv⟩ := hI.slice
  subst hv
  have HI := Lib.hid hI
  have HSeg := Lib.hid kSeg
  have HSt := Lib.hid kSt
  have HF := Lib.hid hF
  clear hI hT kSeg kSt hwt
  go_enter Tryd.func4, Tryd.ntmps4
  go_upto_region 3 with (first | (go_at_call 7; refine (Calls.lies (W0 := w) (by assumption) (kL _ (by assumption))).mono ?_; rintro e W1 ⟨rfl, hW1⟩) | (go_at_call 8; refine (Calls.lies (W0 := w) (by assumption) (kA _ (by assumption))).mono ?_; rintro e W0 ⟨rfl, hW2⟩))
  clear kA kL hW1 hl0
  go_wp2_with fail
  go_loopw [4, 5, 6] (fun u c j wr => ∃ (k : Nat) (ps : List (StepD × Value)), j = .int .i64 (k : Int) ∧ c = .int .i64 (marks (l.take k) : Int) ∧ marks (l.take k) ≤ k ∧ k ≤ l.length ∧ ps.length ≤ k ∧ Hid (ps.map (·.1) = stepsP (l.take k)) ∧ Hid (wr.ownsRow W0.heap.size 35 5 u ps.length (cellsS ps)) ∧ Hid (Lies W0 wr) ∧ Hid (∀ p ∈ ps, IntsAt W0 F p.2 p.1.path)) (fun _ _ j _ => l.length - (intOf j).toNat)
  case atStart => exact ⟨0, [], rfl, rfl, Nat.le_refl _, Nat.zero_le _, Nat.le_refl _, Lib.hid (by simp [stepsP]), Lib.hid (World.ownsRow_nil _ _ _ _), Lib.hid (Lies.start W0), Lib.hid (by simp)⟩
  case round =>
    obtain ⟨k, ps, rfl, rfl, hmk, hk, hpk, hst, hrow, hl, hps⟩ := hrel
    by_cases hlt : k < l.length
    case neg =>
      obtain rfl : k = l.length := by omega
      have d1 : decide (l.length < l.length) = false := decide_eq_false hlt
      rw [List.take_length] at hst hmk ⊢
      have hsf := hst
      obtain ⟨G, hG⟩ : ∃ G, G = (segP l).length := ⟨_, rfl⟩
      have HGE := Lib.hid hG
      have kg := HSeg.out wr (hW2.tr' hl.out)
      have hGm : (l.length = 0 ∧ G = 0 ∧ marks l = 0) ∨ (∃ h : 0 < l.length, (l[0].mark = true ∧ G = marks l) ∨ (l[0].mark = false ∧ G = marks l + 1)) := by
        cases l with
        | nil => exact .inl ⟨rfl, by rw [hG]; rfl, rfl⟩
        | cons x t =>
          refine .inr ⟨by simp, ?_⟩
          rw [hG, segs_len]
          cases hm : x.mark
          · exact .inr ⟨hm, by simp⟩
          · exact .inl ⟨hm, by simp⟩
      clear hst hG
      rcases hGm with ⟨hz, hG0, hM⟩ | ⟨h0, hGm⟩
      · have d2 : decide (0 < l.length) = false := decide_eq_false (by omega)
        have hGl0 : G ≤ 20000 := by omega
        have hval : ((marks l : Nat) : Int) = (G : Int) := by omega
        clear hM hz hG0
        go_upto_region 13 with (fail)
        try rw [hval]
        clear hval
        go_upto_region 14 with (go_at_call 12; refine kg.mono ?_; rintro e Wg ⟨v7, Fs, rfl, hSg, hFs, hlg⟩; obtain ⟨os, cs, hv7⟩ := hSg.slice; subst hv7)
        have hGl : G < 20000 + 1 := by omega
        have HSg := Lib.hid hSg
        clear hSg kg
        simp only [← HGE.out]
        go_wp2_with fail
        go_loopw [3, 8] (fun u j wq => ∃ (i : Nat) (qs : List (StepD × Value)), j = .int .i64 (i : Int) ∧ i ≤ G ∧ qs.length < 20000 ∧ Hid (qs.map (·.1) = ((segP l).take i).flatten) ∧ Hid (wq.ownsRow Wg.heap.size 35 5 u qs.length (cellsS qs)) ∧ Hid (Lies Wg wq) ∧ Hid (∀ p ∈ qs, IntsAt wq Fs p.2 p.1.path)) (fun _ j _ => G - (intOf j).toNat)
        case atStart => exact ⟨0, [], rfl, Nat.zero_le _, by simp, Lib.hid rfl, Lib.hid (World.ownsRow_nil _ _ _ _), Lib.hid (Lies.start Wg), Lib.hid (by simp)⟩
        case round =>
          obtain ⟨i, qs, rfl, hi, hql, hqt, hqr, hql2, hqp⟩ := hrel
          by_cases hilt : i < G
          case neg =>
            obtain rfl : i = G := by omega
            have d4 : decide (i < i) = false := decide_eq_false hilt
            have hqf : qs.map (·.1) = stepsP l := by
              have := hqt.out
              rwa [List.take_of_length_le (by rw [HGE.out]; exact Nat.le_refl _), segs_flat] at this
            have hall := steps_of_row (F := fun _ => True) hqr.out rfl (by omega) (fun p hp => (hqp.out p hp).mono (fun _ _ => trivial)) (fun _ _ => trivial)
            have hlw := hlg.tr' hql2.out
            have hste := steps_of_row (F := fun _ => True) (ownsRow_lies' hrow.out hlw) rfl (by omega) (fun p hp => ((hps.out p hp).lies (hl.out.tr' hlw)).mono (fun _ _ => trivial)) (fun _ _ => trivial)
            rw [hqf] at hall
            rw [hsf.out] at hste
            have k13 := refSteps_any hall hste
            rw [decide_eq_true rfl] at k13
            have hlt0 : Lies w wr := ((hW2.tr' hl.out).tr' hlw)
            have HALL := Lib.hid hall
            have HSTE := Lib.hid hste
            clear hall hste hqr hqt hqp hrow hps hqf
            go_wp2_with (first | (go_at_call 13; (with_reducible refine k13.mono ?_); rintro e Wx ⟨rfl, hlx⟩; have k14 := HSt.out Wx (hlt0.tr' hlx)) | (go_at_call 14; (with_reducible refine k14.mono ?_); rintro e Wy ⟨vy, Fy, rfl, hSy, hFy, hly⟩; have k13' := refSteps_any hSy ((HSTE.out.lies hlx).lies hly); rw [decide_eq_true rfl] at k13'; obtain ⟨oy, cy, hvy⟩ := hSy.slice; subst hvy) | (go_at_call 13; (with_reducible refine k13'.mono ?_); rintro e Wz ⟨rfl, hlz⟩))
            go_ret
            exact ⟨rfl, ((hlt0.tr' hlx).tr' hly).tr' hlz⟩
          have d4 : decide (i < G) = true := decide_eq_true hilt
          have hilt' : i < (segP l).length := by rw [← HGE.out]; exact hilt
          obtain ⟨b7, cap7, sv, hv7, hFb7, hSt7, c7, hb7, hnz⟩ := (HSg.out.lies hql2.out).cell hilt'
          injection hv7 with e1 e2 e3
          subst e1
          clear e2 e3
          have hst7 : ((segP l).take (i + 1)).flatten = ((segP l).take i).flatten ++ (segP l)[i] := by rw [List.take_succ_eq_append_getElem hilt', List.flatten_append]; simp
          have hbd : (((segP l).take (i + 1)).flatten).length < 20000 := by
            have h1 := flat_take (segP l) (i + 1)
            have h2 := stepsP_len l
            rw [segs_flat] at h1
            omega
          rw [hst7, ← hqt.out, List.length_append, List.length_map] at hbd
          have HST7 := Lib.hid hst7
          clear hst7
          generalize (segP l)[i] = g at *
          clear hilt'
          obtain ⟨ou, cu, hsv⟩ := hSt7.slice
          subst hsv
          cases ou with
          | none =>
            obtain ⟨hg0, rfl⟩ := hnz _ _ rfl
            obtain rfl : g = [] := List.eq_nil_of_length_eq_zero hg0
            simp only [List.length_nil] at c7
            clear hnz hg0 hbd hSt7
            go_wp2_with (at_builtin; refine wpList_append_none rfl _ _ 32 rfl Wg.heap.size 35 (.agg zs5) 5 48 Tryd.underlying32 Tryd.info35' _ _ _ rfl hqr.out rfl ?_)
            go_roundw
            case rel => exact ⟨i + 1, qs, by go_num, by omega, hql, Lib.hid (by rw [HST7.out, hqt.out]; simp), hqr, hql2, hqp⟩
            case measure => simp [intOf]; omega
          | some ad =>
            obtain ⟨ps7, hp1, hp2, hp3⟩ := steps_open hSt7
            have hgl : g.length = ps7.length := by rw [← hp1, List.length_map]
            have hone : ∀ u ∈ cellsS ps7, u.oneCell' = true := cellsS_one hp2
            have HP3 := Lib.hid (hp3 ad rfl)
            have HP2 := Lib.hid hp2
            have HP1 := Lib.hid hp1
            have HON := Lib.hid hone
            clear hp1 hp2 hp3 hnz hone hSt7
            rw [hgl] at c7 hbd
            clear hgl
            go_wp2_with (at_builtin; refine wpList_append_fresh rfl _ _ 32 rfl Wg.heap.size 35 (.agg zs5) 5 48 Tryd.underlying32 Tryd.info35' rfl (by decide) _ _ _ rfl hqr.out ad ps7.length cu (cellsS ps7) rfl (by rw [cellsS_length]; omega) HP3.out HON.out (by omega) (by omega) hql2.out.size ?_; intro u1 W3 hown3 hg3 hnil3 hf3)
            go_roundw
            case measure => simp [intOf]; omega
            case rel =>
              have hks : ∀ p : StepD × Value, IntsAt wr Fs p.2 p.1.path → IntsAt W3 Fs p.2 p.1.path := fun p hp => hp.kept hg3 (fun r hr hF => by have := (hqr.out.lt r hr).1; have := (hFs r hF).2.1; omega)
              refine ⟨i + 1, qs ++ ps7, by go_num, by omega, by simp; omega, Lib.hid (by rw [HST7.out, List.map_append, hqt.out, HP1.out]), Lib.hid (by rw [cellsS_app, List.length_append]; exact hown3), Lib.hid (hql2.out.grown hg3 hql2.out.size (fun b e => (hqr.out.lt b e).1)), Lib.hid (fun p hp => ?_)⟩
              rcases List.mem_append.1 hp with h | h
              · exact hks p (hqp.out p h)
              · exact hks p (HP2.out p h)
      obtain ⟨b, off, cap', pv, hv, hFb, hb, hp, hx, c0, _⟩ := (HI.out.lies (hW2.tr' hl.out)).cell h0
      injection hv with e1 e2 e3
      subst e1
      clear e2 e3 hp
      simp only [Nat.zero_mul, Nat.add_zero] at c0
      have d2 : decide (0 < l.length) = true := decide_eq_true h0
      have hGl0 : G ≤ 20000 := by rcases hGm with ⟨_, h⟩ | ⟨_, h⟩ <;> omega
      generalize l[0].mark = m0 at *
      rcases hGm with ⟨rfl, hGM⟩ | ⟨rfl, hGM⟩
      · have hval : ((marks l : Nat) : Int) = (G : Int) := by omega
        clear hGM
        go_upto_region 13 with (fail)
        try rw [hval]
        clear hval
        go_upto_region 14 with (go_at_call 12; refine kg.mono ?_; rintro e Wg ⟨v7, Fs, rfl, hSg, hFs, hlg⟩; obtain ⟨os, cs, hv7⟩ := hSg.slice; subst hv7)
        have hGl : G < 20000 + 1 := by omega
        have HSg := Lib.hid hSg
        clear hSg kg
        simp only [← HGE.out]
        go_wp2_with fail
        go_loopw [3, 8] (fun u j wq => ∃ (i : Nat) (qs : List (StepD × Value)), j = .int .i64 (i : Int) ∧ i ≤ G ∧ qs.length < 20000 ∧ Hid (qs.map (·.1) = ((segP l).take i).flatten) ∧ Hid (wq.ownsRow Wg.heap.size 35 5 u qs.length (cellsS qs)) ∧ Hid (Lies Wg wq) ∧ Hid (∀ p ∈ qs, IntsAt wq Fs p.2 p.1.path)) (fun _ j _ => G - (intOf j).toNat)
        case atStart => exact ⟨0, [], rfl, Nat.zero_le _, by simp, Lib.hid rfl, Lib.hid (World.ownsRow_nil _ _ _ _), Lib.hid (Lies.start Wg), Lib.hid (by simp)⟩
        case round =>
          obtain ⟨i, qs, rfl, hi, hql, hqt, hqr, hql2, hqp⟩ := hrel
          by_cases hilt : i < G
          case neg =>
            obtain rfl : i = G := by omega
            have d4 : decide (i < i) = false := decide_eq_false hilt
            have hqf : qs.map (·.1) = stepsP l := by
              have := hqt.out
              rwa [List.take_of_length_le (by rw [HGE.out]; exact Nat.le_refl _), segs_flat] at this
            have hall := steps_of_row (F := fun _ => True) hqr.out rfl (by omega) (fun p hp => (hqp.out p hp).mono (fun _ _ => trivial)) (fun _ _ => trivial)
            have hlw := hlg.tr' hql2.out
            have hste := steps_of_row (F := fun _ => True) (ownsRow_lies' hrow.out hlw) rfl (by omega) (fun p hp => ((hps.out p hp).lies (hl.out.tr' hlw)).mono (fun _ _ => trivial)) (fun _ _ => trivial)
            rw [hqf] at hall
            rw [hsf.out] at hste
            have k13 := refSteps_any hall hste
            rw [decide_eq_true rfl] at k13
            have hlt0 : Lies w wr := ((hW2.tr' hl.out).tr' hlw)
            have HALL := Lib.hid hall
            have HSTE := Lib.hid hste
            clear hall hste hqr hqt hqp hrow hps hqf
            go_wp2_with (first | (go_at_call 13; (with_reducible refine k13.mono ?_); rintro e Wx ⟨rfl, hlx⟩; have k14 := HSt.out Wx (hlt0.tr' hlx)) | (go_at_call 14; (with_reducible refine k14.mono ?_); rintro e Wy ⟨vy, Fy, rfl, hSy, hFy, hly⟩; have k13' := refSteps_any hSy ((HSTE.out.lies hlx).lies hly); rw [decide_eq_true rfl] at k13'; obtain ⟨oy, cy, hvy⟩ := hSy.slice; subst hvy) | (go_at_call 13; (with_reducible refine k13'.mono ?_); rintro e Wz ⟨rfl, hlz⟩))
            go_ret
            exact ⟨rfl, ((hlt0.tr' hlx).tr' hly).tr' hlz⟩
          have d4 : decide (i < G) = true := decide_eq_true hilt
          have hilt' : i < (segP l).length := by rw [← HGE.out]; exact hilt
          obtain ⟨b7, cap7, sv, hv7, hFb7, hSt7, c7, hb7, hnz⟩ := (HSg.out.lies hql2.out).cell hilt'
          injection hv7 with e1 e2 e3
          subst e1
          clear e2 e3
          have hst7 : ((segP l).take (i + 1)).flatten = ((segP l).take i).flatten ++ (segP l)[i] := by rw [List.take_succ_eq_append_getElem hilt', List.flatten_append]; simp
          have hbd : (((segP l).take (i + 1)).flatten).length < 20000 := by
            have h1 := flat_take (segP l) (i + 1)
            have h2 := stepsP_len l
            rw [segs_flat] at h1
            omega
          rw [hst7, ← hqt.out, List.length_append, List.length_map] at hbd
          have HST7 := Lib.hid hst7
          clear hst7
          generalize (segP l)[i] = g at *
          clear hilt'
          obtain ⟨ou, cu, hsv⟩ := hSt7.slice
          subst hsv
          cases ou with
          | none =>
            obtain ⟨hg0, rfl⟩ := hnz _ _ rfl
            obtain rfl : g = [] := List.eq_nil_of_length_eq_zero hg0
            simp only [List.length_nil] at c7
            clear hnz hg0 hbd hSt7
            go_wp2_with (at_builtin; refine wpList_append_none rfl _ _ 32 rfl Wg.heap.size 35 (.agg zs5) 5 48 Tryd.underlying32 Tryd.info35' _ _ _ rfl hqr.out rfl ?_)
            go_roundw
            case rel => exact ⟨i + 1, qs, by go_num, by omega, hql, Lib.hid (by rw [HST7.out, hqt.out]; simp), hqr, hql2, hqp⟩
            case measure => simp [intOf]; omega
          | some ad =>
            obtain ⟨ps7, hp1, hp2, hp3⟩ := steps_open hSt7
            have hgl : g.length = ps7.length := by rw [← hp1, List.length_map]
            have hone : ∀ u ∈ cellsS ps7, u.oneCell' = true := cellsS_one hp2
            have HP3 := Lib.hid (hp3 ad rfl)
            have HP2 := Lib.hid hp2
            have HP1 := Lib.hid hp1
            have HON := Lib.hid hone
            clear hp1 hp2 hp3 hnz hone hSt7
            rw [hgl] at c7 hbd
            clear hgl
            go_wp2_with (at_builtin; refine wpList_append_fresh rfl _ _ 32 rfl Wg.heap.size 35 (.agg zs5) 5 48 Tryd.underlying32 Tryd.info35' rfl (by decide) _ _ _ rfl hqr.out ad ps7.length cu (cellsS ps7) rfl (by rw [cellsS_length]; omega) HP3.out HON.out (by omega) (by omega) hql2.out.size ?_; intro u1 W3 hown3 hg3 hnil3 hf3)
            go_roundw
            case measure => simp [intOf]; omega
            case rel =>
              have hks : ∀ p : StepD × Value, IntsAt wr Fs p.2 p.1.path → IntsAt W3 Fs p.2 p.1.path := fun p hp => hp.kept hg3 (fun r hr hF => by have := (hqr.out.lt r hr).1; have := (hFs r hF).2.1; omega)
              refine ⟨i + 1, qs ++ ps7, by go_num, by omega, by simp; omega, Lib.hid (by rw [HST7.out, List.map_append, hqt.out, HP1.out]), Lib.hid (by rw [cellsS_app, List.length_append]; exact hown3), Lib.hid (hql2.out.grown hg3 hql2.out.size (fun b e => (hqr.out.lt b e).1)), Lib.hid (fun p hp => ?_)⟩
              rcases List.mem_append.1 hp with h | h
              · exact hks p (hqp.out p h)
              · exact hks p (HP2.out p h)
      · have hval : ((marks l : Nat) : Int) + 1 = (G : Int) := by omega
        clear hGM
        go_upto_region 13 with (fail)
        try rw [hval]
        clear hval
        go_upto_region 14 with (go_at_call 12; refine kg.mono ?_; rintro e Wg ⟨v7, Fs, rfl, hSg, hFs, hlg⟩; obtain ⟨os, cs, hv7⟩ := hSg.slice; subst hv7)
        have hGl : G < 20000 + 1 := by omega
        have HSg := Lib.hid hSg
        clear hSg kg
        simp only [← HGE.out]
        go_wp2_with fail
        go_loopw [3, 8] (fun u j wq => ∃ (i : Nat) (qs : List (StepD × Value)), j = .int .i64 (i : Int) ∧ i ≤ G ∧ qs.length < 20000 ∧ Hid (qs.map (·.1) = ((segP l).take i).flatten) ∧ Hid (wq.ownsRow Wg.heap.size 35 5 u qs.length (cellsS qs)) ∧ Hid (Lies Wg wq) ∧ Hid (∀ p ∈ qs, IntsAt wq Fs p.2 p.1.path)) (fun _ j _ => G - (intOf j).toNat)
        case atStart => exact ⟨0, [], rfl, Nat.zero_le _, by simp, Lib.hid rfl, Lib.hid (World.ownsRow_nil _ _ _ _), Lib.hid (Lies.start Wg), Lib.hid (by simp)⟩
        case round =>
          obtain ⟨i, qs, rfl, hi, hql, hqt, hqr, hql2, hqp⟩ := hrel
          by_cases hilt : i < G
          case neg =>
            obtain rfl : i = G := by omega
            have d4 : decide (i < i) = false := decide_eq_false hilt
            have hqf : qs.map (·.1) = stepsP l := by
              have := hqt.out
              rwa [List.take_of_length_le (by rw [HGE.out]; exact Nat.le_refl _), segs_flat] at this
            have hall := steps_of_row (F := fun _ => True) hqr.out rfl (by omega) (fun p hp => (hqp.out p hp).mono (fun _ _ => trivial)) (fun _ _ => trivial)
            have hlw := hlg.tr' hql2.out
            have hste := steps_of_row (F := fun _ => True) (ownsRow_lies' hrow.out hlw) rfl (by omega) (fun p hp => ((hps.out p hp).lies (hl.out.tr' hlw)).mono (fun _ _ => trivial)) (fun _ _ => trivial)
            rw [hqf] at hall
            rw [hsf.out] at hste
            have k13 := refSteps_any hall hste
            rw [decide_eq_true rfl] at k13
            have hlt0 : Lies w wr := ((hW2.tr' hl.out).tr' hlw)
            have HALL := Lib.hid hall
            have HSTE := Lib.hid hste
            clear hall hste hqr hqt hqp hrow hps hqf
            go_wp2_with (first | (go_at_call 13; (with_reducible refine k13.mono ?_); rintro e Wx ⟨rfl, hlx⟩; have k14 := HSt.out Wx (hlt0.tr' hlx)) | (go_at_call 14; (with_reducible refine k14.mono ?_); rintro e Wy ⟨vy, Fy, rfl, hSy, hFy, hly⟩; have k13' := refSteps_any hSy ((HSTE.out.lies hlx).lies hly); rw [decide_eq_true rfl] at k13'; obtain ⟨oy, cy, hvy⟩ := hSy.slice; subst hvy) | (go_at_call 13; (with_reducible refine k13'.mono ?_); rintro e Wz ⟨rfl, hlz⟩))
            go_ret
            exact ⟨rfl, ((hlt0.tr' hlx).tr' hly).tr' hlz⟩
          have d4 : decide (i < G) = true := decide_eq_true hilt
          have hilt' : i < (segP l).length := by rw [← HGE.out]; exact hilt
          obtain ⟨b7, cap7, sv, hv7, hFb7, hSt7, c7, hb7, hnz⟩ := (HSg.out.lies hql2.out).cell hilt'
          injection hv7 with e1 e2 e3
          subst e1
          clear e2 e3
          have hst7 : ((segP l).take (i + 1)).flatten = ((segP l).take i).flatten ++ (segP l)[i] := by rw [List.take_succ_eq_append_getElem hilt', List.flatten_append]; simp
          have hbd : (((segP l).take (i + 1)).flatten).length < 20000 := by
            have h1 := flat_take (segP l) (i + 1)
            have h2 := stepsP_len l
            rw [segs_flat] at h1
            omega
          rw [hst7, ← hqt.out, List.length_append, List.length_map] at hbd
          have HST7 := Lib.hid hst7
          clear hst7
          generalize (segP l)[i] = g at *
          clear hilt'
          obtain ⟨ou, cu, hsv⟩ := hSt7.slice
          subst hsv
          cases ou with
          | none =>
            obtain ⟨hg0, rfl⟩ := hnz _ _ rfl
            obtain rfl : g = [] := List.eq_nil_of_length_eq_zero hg0
            simp only [List.length_nil] at c7
            clear hnz hg0 hbd hSt7
            go_wp2_with (at_builtin; refine wpList_append_none rfl _ _ 32 rfl Wg.heap.size 35 (.agg zs5) 5 48 Tryd.underlying32 Tryd.info35' _ _ _ rfl hqr.out rfl ?_)
            go_roundw
            case rel => exact ⟨i + 1, qs, by go_num, by omega, hql, Lib.hid (by rw [HST7.out, hqt.out]; simp), hqr, hql2, hqp⟩
            case measure => simp [intOf]; omega
          | some ad =>
            obtain ⟨ps7, hp1, hp2, hp3⟩ := steps_open hSt7
            have hgl : g.length = ps7.length := by rw [← hp1, List.length_map]
            have hone : ∀ u ∈ cellsS ps7, u.oneCell' = true := cellsS_one hp2
            have HP3 := Lib.hid (hp3 ad rfl)
            have HP2 := Lib.hid hp2
            have HP1 := Lib.hid hp1
            have HON := Lib.hid hone
            clear hp1 hp2 hp3 hnz hone hSt7
            rw [hgl] at c7 hbd
            clear hgl
            go_wp2_with (at_builtin; refine wpList_append_fresh rfl _ _ 32 rfl Wg.heap.size 35 (.agg zs5) 5 48 Tryd.underlying32 Tryd.info35' rfl (by decide) _ _ _ rfl hqr.out ad ps7.length cu (cellsS ps7) rfl (by rw [cellsS_length]; omega) HP3.out HON.out (by omega) (by omega) hql2.out.size ?_; intro u1 W3 hown3 hg3 hnil3 hf3)
            go_roundw
            case measure => simp [intOf]; omega
            case rel =>
              have hks : ∀ p : StepD × Value, IntsAt wr Fs p.2 p.1.path → IntsAt W3 Fs p.2 p.1.path := fun p hp => hp.kept hg3 (fun r hr hF => by have := (hqr.out.lt r hr).1; have := (hFs r hF).2.1; omega)
              refine ⟨i + 1, qs ++ ps7, by go_num, by omega, by simp; omega, Lib.hid (by rw [HST7.out, List.map_append, hqt.out, HP1.out]), Lib.hid (by rw [cellsS_app, List.length_append]; exact hown3), Lib.hid (hql2.out.grown hg3 hql2.out.size (fun b e => (hqr.out.lt b e).1)), Lib.hid (fun p hp => ?_)⟩
              rcases List.mem_append.1 hp with h | h
              · exact hks p (hqp.out p h)
              · exact hks p (HP2.out p h)
    have d1 : decide (k < l.length) = true := decide_eq_true hlt
    have hI0 := HI.out.lies hW2
    obtain ⟨b, off, cap', pv, hv, hFb, hb, hp, hx, c0, c1, c2, c3, c4, c5⟩ := hI0.cell hlt
    obtain ⟨oa2, cap2, hpv⟩ := hp.slice
    injection hv with e1 e2 e3
    subst e1 hpv
    clear e2 e3 hI0
    have hlc := hl.out.cells
    have hst2 : stepsP (l.take (k + 1)) = stepsP (l.take k) ++ if l[k].mark then [] else [l[k].step] := by rw [List.take_succ_eq_append_getElem hlt, stepsP_snoc]
    have hmk2 : marks (l.take (k + 1)) = marks (l.take k) + if l[k].mark then 1 else 0 := by rw [List.take_succ_eq_append_getElem hlt, marks_snoc]
    generalize l[k] = x at *
    obtain ⟨m, ⟨a6, b6, c6, l6, z6⟩⟩ := x
    simp only at hp c0 c1 c2 c3 c4 c5 hst2 hmk2
    have HST := Lib.hid hst2
    have HMK := Lib.hid hmk2
    have HP := Lib.hid hp
    clear hst2 hmk2 hp
    obtain ⟨M, hM⟩ : ∃ M, marks (l.take k) = M := ⟨_, rfl⟩
    rw [hM] at HMK hmk ⊢
    clear hM
    cases m
    case true =>
      go_wp2
      go_roundw
      case rel => exact ⟨k + 1, ps, by go_num, by rw [HMK.out]; rfl, by rw [HMK.out]; simp; omega, by omega, by omega, Lib.hid (by rw [HST.out, hst.out]; simp), hrow, hl, hps⟩
      case measure => simp [intOf]; omega
    go_wp2_with (at_builtin; refine wpList_push3 rfl _ _ 32 rfl W0.heap.size 35 (.agg zs5) 5 48 Tryd.underlying32 Tryd.info35' rfl (by decide) _ _ _ rfl hrow.out [.int .u8 (a6 : Int), .int .u8 (b6 : Int), .int .i64 c6, .slice oa2 l6.length cap2, .int .i64 z6] rfl rfl (by intro y hy; simp at hy; rcases hy with rfl | rfl | rfl | rfl | rfl <;> rfl) (by omega) (by omega) hl.out.size ?_; intro u1 W3 hown3 hg3 hnil3 hf3)
    go_roundw
    case measure => simp [intOf]; omega
    case rel =>
      refine ⟨k + 1, ps ++ [(⟨a6, b6, c6, l6, z6⟩, .slice oa2 l6.length cap2)], by go_num, by rw [HMK.out]; rfl, by rw [HMK.out]; simp; omega, by omega, by simp; omega, Lib.hid ?_, Lib.hid ?_, Lib.hid (hl.out.grown hg3 hl.out.size (fun b e => (hrow.out.lt b e).1)), Lib.hid (fun p hp => ?_)⟩
      · rw [HST.out, List.map_append, hst.out]; rfl
      · rw [cellsS_snoc, List.length_append]; exact hown3
      · rcases List.mem_append.1 hp with h | h
        · exact hps.out p h
        · obtain rfl := List.mem_singleton.1 h; exact HP.out
end Go.Proofs.YtbgmjlonbbmffaaDoor
