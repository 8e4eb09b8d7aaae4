/- log.Steps; the reference's Step, Steps. -/
import Derived.Test.YtbgmjlonbbmffaaDoorL19
namespace Go.Proofs.YtbgmjlonbbmffaaDoor
open Go Go.RowKit
attribute [local go_sem] Oper.quietAt Oper.quietUpon
def stepsP (l : List ItemD) : List StepD := l.flatMap fun x => if x.mark then [] else [x.step]
theorem stepsP_snoc (l : List ItemD) (x : ItemD) : stepsP (l ++ [x]) = stepsP l ++ if x.mark then [] else [x.step] := by simp [stepsP]
theorem ownsRow_lies' {w w' : World} {base : Nat} {e : TypeId} {size : Nat} {v : Value} {n : Nat} {xs : List Value} (h : w.ownsRow base e size v n xs) (hw : Lies w w') : w'.ownsRow base e size v n xs := ownsRow_lies h hw
/-- A row of steps that a call has made: it lies in new blocks that may be written. -/
def StepsRet (l : List StepD) (w : World) (x : Ending) (w' : World) : Prop :=
  ∃ (v : Value) (F : Nat → Prop), x = .returned v ∧ StepsAt w' F v l ∧ (∀ b, F b → w.heap.size ≤ b ∧ b < w'.heap.size ∧ Free w' b) ∧ Lies w w'
set_option maxRecDepth 100000 in
set_option maxHeartbeats 1500000 in
theorem steps_any {w : World} {F : Nat → Prop} {v : Value} {l : List ItemD} (hI : ItemsAt w F v l) (hF : ∀ b, F b → b < w.heap.size) (hw : wt l < 20000) :
    Calls Tryd.prog 14 #[v] w (StepsRet (stepsP l) w) := by
  obtain ⟨r, hr⟩ : ∃ r, r = stepsP l := ⟨_, rfl⟩
  rw [← hr]
  obtain ⟨oa, cap, hv⟩ := hI.slice
  have hml : l.length < 20000 := Nat.lt_of_le_of_lt (wt_len l) hw
  have HPA := Lib.hid (wt_path l hw)
  have HI := Lib.hid hI
  have HR := Lib.hid hr
  have HF := Lib.hid hF
  clear hI hr hF hw
  subst hv
  go_enter Tryd.func14, Tryd.ntmps14
  go_wp2_with fail
  go_loopw [3, 8] (fun u j wr => ∃ (k : Nat) (ps : List (StepD × Value)), j = .int .i64 (k : Int) ∧ k ≤ l.length ∧ ps.length ≤ k ∧ Hid (ps.map (·.1) = stepsP (l.take k)) ∧ Hid (wr.ownsRow w.heap.size 35 5 u ps.length (cellsS ps)) ∧ Hid (Lies w wr) ∧ Hid (∀ p ∈ ps, IntsAt wr (fun b => w.heap.size ≤ b ∧ b < wr.heap.size ∧ u.ownBlock ≠ some b ∧ Free wr b) p.2 p.1.path)) (fun _ j _ => l.length - (intOf j).toNat)
  case atStart => exact ⟨0, [], rfl, Nat.zero_le _, Nat.le_refl _, Lib.hid (by simp [stepsP]), Lib.hid (World.ownsRow_nil _ _ _ _), Lib.hid (Lies.start w), Lib.hid (by simp)⟩
  case round =>
    obtain ⟨k, ps, rfl, hk, hpk, hst, hrow, hl, hps⟩ := hrel
    by_cases hlt : k < l.length
    case neg =>
      obtain rfl : k = l.length := by omega
      have d1 : decide (l.length < l.length) = false := decide_eq_false hlt
      have hfin := hst.out
      rw [List.take_length, ← HR.out] at hfin
      go_wp2
      go_ret
      refine ⟨_, fun b => w.heap.size ≤ b ∧ b < wr.heap.size ∧ Free wr b, rfl, ?_, fun b hb => hb, hl.out⟩
      rw [← hfin]
      exact steps_of_row hrow.out rfl (by omega) (fun p hp => (hps.out p hp).mono (fun b hb => ⟨hb.1, hb.2.1, hb.2.2.2⟩)) (fun b hb => ⟨(hrow.out.lt b hb).1, (hrow.out.lt b hb).2, row_free hrow.out b hb⟩)
    have d1 : decide (k < l.length) = true := decide_eq_true hlt
    obtain ⟨b, off, cap', pv, hv, hFb, hb, hp, hx, c0, c1, c2, c3, c4, c5⟩ := (HI.out.lies hl.out).cell hlt
    obtain ⟨oa2, cap2, hpv⟩ := hp.slice
    injection hv with e1 e2 e3
    subst e1 hpv
    clear e2 e3
    have hpl := HPA.out _ (List.getElem_mem hlt)
    have hst2 : stepsP (l.take (k + 1)) = stepsP (l.take k) ++ if l[k].mark then [] else [l[k].step] := by rw [List.take_succ_eq_append_getElem hlt, stepsP_snoc]
    generalize l[k] = x at *
    obtain ⟨m, ⟨a6, b6, c6, l6, z6⟩⟩ := x
    simp only at hp c0 c1 c2 c3 c4 c5 hpl hst2
    have HST := Lib.hid hst2
    clear hst2
    go_upto_region 5 with (fail)
    obtain ⟨W1, hW1⟩ : ∃ W1, wr.alloc (.cells #[.bool m, .int .u8 (a6 : Int), .int .u8 (b6 : Int), .int .i64 c6, .slice oa2 l6.length cap2, .int .i64 z6] 37) = W1 := ⟨_, rfl⟩
    have hX1 : Blk W1 wr.heap.size 37 #[.bool m, .int .u8 (a6 : Int), .int .u8 (b6 : Int), .int .i64 c6, .slice oa2 l6.length cap2, .int .i64 z6] := by rw [← hW1]; exact Blk.new wr 37 _
    have hl01 : Lies wr W1 := by rw [← hW1]; exact (Lies.start wr).alloc (Nat.le_refl _) _
    rw [hW1]
    clear hW1
    have hl1 := hl.out.tr' hl01
    have hrow1 := ownsRow_lies' hrow.out hl01
    have hp1 := hp.lies hl01
    have hps1 : Hid (∀ p ∈ ps, IntsAt W1 (fun b => w.heap.size ≤ b ∧ b < W1.heap.size ∧ u3.ownBlock ≠ some b ∧ Free W1 b) p.2 p.1.path) := Lib.hid (fun p hp => ((hps.out p hp).lies hl01).mono (fun b hb => ⟨hb.1, Nat.lt_of_lt_of_le hb.2.1 hl01.size, hb.2.2.1, hb.2.2.2.lies hl01⟩))
    have hzr := hl.out.size
    clear hl01 hrow hp hps c0 c1 c2 c3 c4 c5 hl
    have hcX := hX1.cell
    have hlX := hX1.lt
    cases m
    case true =>
      have HL1 := Lib.hid hl1
      have HR1 := Lib.hid hrow1
      clear hl1 hrow1 hp1
      go_wp2
      go_roundw
      case rel => exact ⟨k + 1, ps, by go_num, by omega, by omega, Lib.hid (by rw [HST.out, hst.out]; simp), HR1, HL1, hps1⟩
      case measure => simp [intOf]; omega
    have k29 := own_any (s := ⟨a6, b6, c6, l6, z6⟩) hp1 (by simp only; omega) (fun b hb => Nat.lt_of_lt_of_le (HF.out b hb) hl1.size)
    unfold OwnRet at k29
    simp only at k29
    have HL1 := Lib.hid hl1
    have HR1 := Lib.hid hrow1
    clear hl1 hrow1 hp1
    go_wp2_with (first | (go_at_call 29; refine k29.mono ?_; rintro e W2 ⟨pv2, rfl, hp2, hl2⟩; obtain ⟨oa3, cp3, hpv2⟩ := hp2.slice; subst hpv2; have hrow2 := ownsRow_lies' HR1.out hl2) | (at_builtin; refine wpList_push3 rfl _ _ 32 rfl w.heap.size 35 (.agg zs5) 5 48 Tryd.underlying32 Tryd.info35' rfl (by decide) _ _ _ rfl hrow2 [.int .u8 (a6 : Int), .int .u8 (b6 : Int), .int .i64 c6, .slice oa3 l6.length cp3, .int .i64 z6] rfl rfl (by intro y hy; simp at hy; rcases hy with rfl | rfl | rfl | rfl | rfl <;> rfl) (by omega) (by omega) (Nat.le_trans HL1.out.size hl2.size) ?_; intro u1 W3 hown3 hg3 hnil3 hf3) | go_in)
    go_roundw
    case measure => simp [intOf]; omega
    case rel =>
      have hub : ∀ b, u3.ownBlock = some b → b < W1.heap.size := fun b hb => (HR1.out.lt b hb).2
      have hz2 := hl2.size
      have hfar : ∀ b, b < W2.heap.size → u3.ownBlock ≠ some b → u1.ownBlock ≠ some b := fun b hb hne e => by
        rcases hf3 b e with h | h
        · exact hne h
        · omega
      have hz3 := hg3.size
      have HL2 : Lies w W2 := HL1.out.tr' hl2
      refine ⟨k + 1, ps ++ [(⟨a6, b6, c6, l6, z6⟩, .slice oa3 l6.length cp3)], by go_num, by omega, by simp; omega, Lib.hid ?_, Lib.hid ?_, Lib.hid (HL2.grown hg3 HL2.size (fun b e => (HR1.out.lt b e).1)), Lib.hid (fun p hp => ?_)⟩
      · rw [HST.out, List.map_append, hst.out]; rfl
      · rw [cellsS_snoc, List.length_append]; exact hown3
      · rcases List.mem_append.1 hp with h | h
        · exact (((hps1.out p h).lies hl2).kept hg3 (fun r hr hF => hF.2.2.1 hr)).mono (fun b hb => ⟨hb.1, by omega, hfar b (by omega) hb.2.2.1, (hb.2.2.2.lies hl2).grown hg3 hb.2.2.1⟩)
        · obtain rfl := List.mem_singleton.1 h
          have hne : ∀ b, W1.heap.size ≤ b → u3.ownBlock ≠ some b := fun b hb e => by have := hub b e; omega
          exact (hp2.kept hg3 (fun r hr hF => hne r hF.1 hr)).mono (fun b hb => ⟨by have := HL1.out.size; omega, by omega, hfar b hb.2.1 (hne b hb.1), (hb.2.2.grown hg3 (hne b hb.1)).free⟩)
end Go.Proofs.YtbgmjlonbbmffaaDoor
