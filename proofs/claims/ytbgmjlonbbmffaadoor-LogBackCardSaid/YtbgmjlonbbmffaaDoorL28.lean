/- bonsailaw27.LogBack walked. -/
import Derived.Test.YtbgmjlonbbmffaaDoorL18
import Derived.Test.YtbgmjlonbbmffaaDoorL27
import Derived.Test.YtbgmjlonbbmffaaDoorP2
import Derived.Test.YtbgmjlonbbmffaaDoorP3
import Derived.Deep.CutBlock
import Derived.Deep.DeepCutAuto
namespace Go.Proofs.YtbgmjlonbbmffaaDoor
open Go Go.RowKit
attribute [local go_sem] Oper.quietAt Oper.quietUpon Oper.loudAt Oper.loudUpon
theorem showP_len {x : ItemD} (hok : x.step.ok) : (showP x).length ≤ 1000 := by
  unfold showP
  split
  · rename_i hm
    unfold showB
    split
    · simp
    · rename_i hmk
      obtain ⟨_, h1, h2, h3, h4⟩ := mayB_spec hm (by simpa using hmk)
      have a1 := itoa_len (n := (x.step.pass : Int)) (by omega) (by have := hok.1; omega)
      have a2 := itoa_len (n := (x.step.way : Int)) (by omega) (by have := hok.2; omega)
      have a3 := itoa_len h1.1 h1.2
      have a4 := itoa_len h2.1 h2.2
      have a5 := pathS_len h4
      simp only [List.length_append, List.length_cons, List.length_nil]
      omega
  · simp
/-- What Read makes of what Show shows. -/
theorem read_show {x : ItemD} (hok : x.step.ok) : readP (showP x) = if mayB x then (x, 0) else (zeroI, 4) := by
  unfold showP
  split
  · rename_i hm; exact readP_show hm hok
  · exact readP_nil
theorem items_sub {w : World} {F : Nat → Prop} {b off n c c' k : Nat} {l : List ItemD} (h : ItemsAt w F (.slice (some ⟨b, off, none⟩) n c) l) (hk : k < l.length) : ItemsAt w F (.slice (some ⟨b, off + k * 6, none⟩) 1 c') [l[k]] := by
  obtain ⟨oa, cap, hv, hm, hok, h⟩ := h
  obtain ⟨b1, off1, h1, h2, h3⟩ := h (fun e => by subst e; simp at hk)
  injection hv with e1 e2 e3
  rw [h1] at e1
  injection e1 with e1
  injection e1 with e1 e4
  subst e1 e4
  refine ⟨_, _, rfl, by simp [maxLen], fun x hx => by obtain rfl := List.mem_singleton.1 hx; exact hok _ (List.getElem_mem hk), fun _ => ⟨b, off + k * 6, rfl, h2, fun i x hi => ?_⟩⟩
  cases i with
  | zero =>
    simp at hi
    subst hi
    obtain ⟨pv, h4, h5⟩ := h3 k _ (List.getElem?_eq_getElem hk)
    exact ⟨pv, h4, fun j y hj => by rw [show off + k * 6 + 0 * 6 + j = off + k * 6 + j by omega]; exact h5 j y hj⟩
  | succ i => simp at hi
theorem items_one {W : World} {F : Nat → Prop} {x : ItemD} {pv : Value} {A c : Nat} (hB : Blk W A 37 #[.bool x.mark, .int .u8 (x.step.pass : Int), .int .u8 (x.step.way : Int), .int .i64 x.step.rule, pv, .int .i64 x.step.place]) (hok : x.step.ok) (hp : IntsAt W F pv x.step.path) (hF : F A) : ItemsAt W F (.slice (some ⟨A, 0, none⟩) 1 c) [x] := by
  refine ⟨_, _, rfl, by simp [maxLen], fun y hy => by obtain rfl := List.mem_singleton.1 hy; exact hok, fun _ => ⟨A, 0, rfl, hF, fun i y hi => ?_⟩⟩
  cases i with
  | zero =>
    simp at hi
    subst hi
    refine ⟨pv, hp, fun j u hj => ?_⟩
    rw [show 0 + 0 * 6 + j = j by omega, hB.cell]
    simpa [itemCells, stepCells] using hj
  | succ i => simp at hi
set_option maxRecDepth 100000 in
set_option maxHeartbeats 2500000 in
theorem logBack_any {p : Value} {l : List ItemD} {s : ByteArray} {w : World} {F : Nat → Prop} (hI : ItemsAt w F p l) (hcap : ∀ oa n c, p = .slice oa n c → n ≤ c ∧ c ≤ 9223372036854775807) (hF : ∀ b, F b → b < w.heap.size) (hT : Tab w) (hM : MaxL w) :
    Calls Tryd.prog 5 #[p, .string s] w (Ret (.bool true) w) := by
  have kA : ∀ W, Lies w W → Calls Tryd.prog 8 #[] W (Ret (.bool true) W) := fun W h => awake_any (hT.lies h)
  have kL : ∀ W, Lies w W → Calls Tryd.prog 7 #[p] W (Ret (.bool (decide (20000 ≤ wt l))) W) := fun W h => long_any (hI.lies h)
  have hl0 := Lies.start w
  cases dl : decide (20000 ≤ wt l)
  case true =>
    obtain ⟨oa, c, hv⟩ := hI.slice
    subst hv
    rw [dl] at kL
    clear dl hI hT hM
    go_enter Tryd.func5, Tryd.ntmps5
    go_wp2_with (first | (go_at_call 7; refine (Calls.lies (W0 := w) (by assumption) (kL _ (by assumption))).mono ?_; rintro e W1 ⟨rfl, hW1⟩) | (go_at_call 8; refine (Calls.lies (W0 := w) (by assumption) (kA _ (by assumption))).mono ?_; rintro e W1 ⟨rfl, hW2⟩))
    go_ret
    exact ⟨rfl, hW2⟩
  rw [dl] at kL
  have hwt : wt l < 20000 := by have := of_decide_eq_false dl; omega
  clear dl
  have hml : l.length < 20000 := Nat.lt_of_le_of_lt (wt_len l) hwt
  by_cases hs9 : 9000 < s.size
  · have d1 : decide (9000 < (s.size : Int)) = true := decide_eq_true (by omega)
    obtain ⟨oa, c, hv⟩ := hI.slice
    subst hv
    clear hI hT hM
    go_enter Tryd.func5, Tryd.ntmps5
    go_wp2_with (first | (go_at_call 7; refine (Calls.lies (W0 := w) (by assumption) (kL _ (by assumption))).mono ?_; rintro e W1 ⟨rfl, hW1⟩) | (go_at_call 8; refine (Calls.lies (W0 := w) (by assumption) (kA _ (by assumption))).mono ?_; rintro e W1 ⟨rfl, hW2⟩))
    go_ret
    exact ⟨rfl, hW2⟩
  have d1 : decide (9000 < (s.size : Int)) = false := decide_eq_false (by omega)
  have hlo : ∀ x ∈ l, x.step.ok := by obtain ⟨_, _, _, _, h, _⟩ := hI; exact h
  have kE : ∀ W, Lies w W → Calls Tryd.prog 9 #[p] W (Ret (.tuple #[strV ((encP l).1.map UInt8.ofNat), .int .i64 ((encP l).2 : Int)]) W) := fun W h => encode_any (hI.lies h) (fun b hb => Nat.lt_of_lt_of_le (hF b hb) h.size)
  obtain ⟨aL, eL, hae⟩ : ∃ a e, encP l = (a, e) := ⟨_, _, rfl⟩
  rw [hae] at kE
  simp only at kE
  obtain ⟨a, hA⟩ : ∃ A : ByteArray, A = ⟨(aL.map UInt8.ofNat).toArray⟩ := ⟨_, rfl⟩
  have kE' : ∀ W, Lies w W → Calls Tryd.prog 9 #[p] W (Ret (.tuple #[.string a, .int .i64 (eL : Int)]) W) := by rw [hA]; exact kE
  have hok : (decide (l.length ≤ 4096) && l.all mayB) = true → eL = 0 ∧ a = encT l ∧ decP a = (l, 0) ∧ a.size ≤ 1000000 := by
    intro h
    simp only [Bool.and_eq_true, decide_eq_true_eq] at h
    unfold encP at hae
    rw [if_neg (by omega), if_pos h.2] at hae
    injection hae with h1 h2
    have ha : a = encT l := by rw [hA, ← h1]; rfl
    refine ⟨h2.symm, ha, ?_, ?_⟩
    · have := decP_enc (t := a) (R := []) h.1 h.2 hlo (by rw [ha, encT_bytes, List.append_nil])
      rwa [if_pos rfl] at this
    · rw [ha, encT_size]; exact encL_len h.1 h.2 hlo
  have hbad : (decide (l.length ≤ 4096) && l.all mayB) = false → eL ≠ 0 := by
    intro h
    unfold encP at hae
    split at hae
    · injection hae with _ h2; omega
    · split at hae
      · rename_i h3 h4
        rw [h4, Bool.and_true] at h
        have := of_decide_eq_false h
        omega
      · injection hae with _ h2; omega
  obtain ⟨oa, c, hv⟩ := hI.slice
  have hcap' := hcap oa l.length c hv
  subst hv
  have HI := Lib.hid hI
  have HF := Lib.hid hF
  have HT := Lib.hid hT
  have HM := Lib.hid hM
  have HOK := Lib.hid hok
  have HBAD := Lib.hid hbad
  have HLO := Lib.hid hlo
  clear hI hF hT hM kE hA hae hok hbad hcap hlo
  go_enter Tryd.func5, Tryd.ntmps5
  go_upto_region 4 with (first | (go_at_call 7; refine (Calls.lies (W0 := w) (by assumption) (kL _ (by assumption))).mono ?_; rintro e W1 ⟨rfl, hW1⟩) | (go_at_call 8; refine (Calls.lies (W0 := w) (by assumption) (kA _ (by assumption))).mono ?_; rintro e W1 ⟨rfl, hW2⟩) | (go_at_call 9; refine (Calls.lies (W0 := w) (by assumption) (kE' _ (by assumption))).mono ?_; rintro e W0 ⟨rfl, hW0⟩))
  clear kA kL kE' hW1 hW2 hl0
  obtain ⟨b2, hb2⟩ : ∃ b2, b2 = (decide (l.length ≤ 4096) && l.all mayB) := ⟨_, rfl⟩
  rw [← hb2] at HOK HBAD
  obtain ⟨b0, hb0⟩ : ∃ b0, decide ((l.length : Int) ≤ 4096) = b0 := ⟨_, rfl⟩
  have hb0' : b0 = decide (l.length ≤ 4096) := by rw [← hb0]; exact decide_eq_decide.2 (by omega)
  have HB0 := Lib.hid hb0'
  have HB2 := Lib.hid hb2
  clear hb0' hb2
  go_upto_block 0 with (fail)
  clear hb0
  go_cut [7, 8] (fun o j wx => o = .bool b2 ∧ Lies W0 wx)
  case first =>
    go_wp2_with fail
    go_loopw [7, 8] (fun o j wr => ∃ (k : Nat) (b : Bool), j = .int .i64 (k : Int) ∧ o = .bool b ∧ k ≤ l.length ∧ Hid (b = (decide (l.length ≤ 4096) && (l.take k).all mayB)) ∧ Lies W0 wr) (fun _ j _ => l.length - (intOf j).toNat)
    case atStart => exact ⟨0, b0, rfl, rfl, Nat.zero_le _, Lib.hid (by rw [HB0.out]; simp), Lies.start W0⟩
    case round =>
      obtain ⟨k, b, rfl, rfl, hk, hbk, hl⟩ := hrel
      by_cases hlt : k < l.length
      case neg =>
        obtain rfl : k = l.length := by omega
        have d2 : decide (l.length < l.length) = false := decide_eq_false hlt
        have hfin := hbk.out
        rw [List.take_length, ← HB2.out] at hfin
        clear hlt hk hbk HB0
        subst hfin
        go_wp2
        go_meet
        exact ⟨rfl, hl⟩
      have d2 : decide (k < l.length) = true := decide_eq_true hlt
      cases b
      · have hfin : b2 = false := by
          have := hbk.out
          rw [HB2.out, Bool.eq_false_iff]
          intro h
          rw [Bool.and_eq_true] at h
          rw [h.1, Bool.true_and] at this
          have h2 : (l.take k).all mayB = true := by
            rw [List.all_eq_true]
            intro x hx
            exact List.all_eq_true.1 h.2 x (List.mem_of_mem_take hx)
          rw [h2] at this
          cases this
        subst hfin
        go_wp2
        go_meet
        exact ⟨rfl, hl⟩
      obtain ⟨b, off, cap', pv, hv, hFb, hb, hp, hx, c0, c1, c2, c3, c4, c5⟩ := (HI.out.lies (hW0.tr' hl)).cell hlt
      obtain ⟨oa2, cap2, hpv⟩ := hp.slice
      injection hv with e1 e2 e3
      subst e1 hpv
      clear e2 e3
      have kmay := may_any (x := l[k]) hp
      have hst : (decide (l.length ≤ 4096) && (l.take (k + 1)).all mayB) = mayB l[k] := by
        rw [List.take_succ_eq_append_getElem hlt, List.all_append, ← Bool.and_assoc, ← hbk.out]; simp
      have HST := Lib.hid hst
      clear hst hbk hp
      generalize mayB l[k] = mb at *
      go_wp2_with (go_at_call 15; refine kmay.mono ?_; rintro e Wq ⟨rfl, hlq⟩)
      go_roundw
      case rel => exact ⟨k + 1, mb, by go_num, rfl, by omega, Lib.hid HST.out.symm, hl.tr' hlq⟩
      case measure => simp [intOf]; omega
  case rest =>
    obtain ⟨rfl, hl⟩ := hcut
    have hlr := hW0.tr' hl
    have he2 : ((eL : Int) == 0) = b2 := by
      cases b2
      · have := HBAD.out rfl; simp; omega
      · obtain ⟨h, _⟩ := HOK.out rfl; simp [h]
    have HE2 := Lib.hid he2
    clear HBAD HB0 HB2
    go_upto_if 58 with (fail)
    clear he2
    go_cut [] (fun wx => Lies w wx)
    case first =>
      cases b2
      · go_wp2
        go_meet
        exact hlr
      · obtain ⟨-, -, hdec, haz⟩ := HOK.out rfl
        have kd : ∀ W, Calls Tryd.prog 16 #[.string a] W (DecRet W (l, 0)) := fun W => by
          have := decode_any (w := W) (t := a) (by omega)
          rwa [hdec] at this
        unfold DecRet at kd
        simp only at kd
        clear HOK hdec HE2
        go_wp2_with (first | (go_at_call 16; (with_reducible refine (kd _).mono ?_); rintro e Wd ⟨vd, rfl, hId, hld⟩; have ksm := same_any (HI.out.lies (hlr.tr' hld)) hId (fun b hb => Nat.lt_of_lt_of_le (HF.out b hb) (hlr.tr' hld).size) (fun b hb => hb.2); rw [decide_eq_true rfl] at ksm; obtain ⟨od, cd, hvd⟩ := hId.slice; subst hvd) | (go_at_call 10; (with_reducible refine ksm.mono ?_); rintro e Ws ⟨rfl, hls⟩))
        go_meet
        exact (hlr.tr' hld).tr' hls
    case rest =>
      have hlw : Lies w _ := hcut
      clear HOK HE2 hlr hl hcut
      go_upto_block 2 with (fail)
      go_cut [11] (fun j wx => Lies w wx)
      case first =>
        go_wp2_with fail
        go_loopw [11] (fun j wq => ∃ k : Nat, j = .int .i64 (k : Int) ∧ k ≤ l.length ∧ Lies wc wq) (fun j _ => l.length - (intOf j).toNat)
        case atStart => exact ⟨0, rfl, Nat.zero_le _, Lies.start _⟩
        case round =>
          obtain ⟨k, rfl, hk, hlq⟩ := hrel
          by_cases hlt : k < l.length
          case neg =>
            have d5 : decide (k < l.length) = false := decide_eq_false hlt
            go_wp2
            go_meet
            exact hlw.tr' hlq
          by_cases h50 : k < 50
          case neg =>
            have d5 : decide (k < l.length) = true := decide_eq_true hlt
            have d6 : decide ((k : Int) < 50) = false := decide_eq_false (by omega)
            go_wp2
            go_meet
            exact hlw.tr' hlq
          have d5 : decide (k < l.length) = true := decide_eq_true hlt
          have d6 : decide ((k : Int) < 50) = true := decide_eq_true (by omega)
          have hlwq := hlw.tr' hlq
          obtain ⟨b, off, cap', pv, hv, hFb, hb, hp, hx, c0, c1, c2, c3, c4, c5⟩ := (HI.out.lies hlwq).cell hlt
          obtain ⟨oa2, cap2, hpv⟩ := hp.slice
          injection hv with e1 e2 e3
          subst e1 hpv
          clear e2 e3
          have hxok := HLO.out _ (List.getElem_mem hlt)
          have ksh := show_any hp hxok (fun b hb => Nat.lt_of_lt_of_le (HF.out b hb) hlwq.size) (HT.out.lies hlwq)
          obtain ⟨T, hTe⟩ : ∃ T : ByteArray, T = ⟨(showP l[k]).toArray⟩ := ⟨_, rfl⟩
          have hTd : T.data.toList = showP l[k] := by rw [hTe]
          have hTz : T.size ≤ 1000000 := by rw [hTe, size_mk]; have := showP_len hxok; omega
          have ksh' : Calls Tryd.prog 18 #[.agg #[.bool l[k].mark, .int .u8 (l[k].step.pass : Int), .int .u8 (l[k].step.way : Int), .int .i64 l[k].step.rule, .slice oa2 l[k].step.path.length cap2, .int .i64 l[k].step.place]] wr (Ret (.string T) wr) := by rw [hTe]; exact ksh
          have krd : ∀ W, Lies w W → Calls Tryd.prog 17 #[.string T] W (ReadRet W (if mayB l[k] then (l[k], 0) else (zeroI, 4))) := fun W hW => by
            have := read_any (s := T) hTz (HM.out.lies hW)
            rwa [hTd, read_show hxok] at this
          have HP := Lib.hid hp
          clear ksh hTe hTd hTz hp
          have HX := Lib.hid hxok
          clear hxok
          have kmy : ∀ W, Lies wr W → Calls Tryd.prog 15 #[.agg #[.bool l[k].mark, .int .u8 (l[k].step.pass : Int), .int .u8 (l[k].step.way : Int), .int .i64 l[k].step.rule, .slice oa2 l[k].step.path.length cap2, .int .i64 l[k].step.place]] W (Ret (.bool (mayB l[k])) W) := fun W hW => may_any (HP.out.lies hW)
          have HSUB : ∀ W c', Lies w W → ItemsAt W F (.slice (some ⟨b, off + k * 6, none⟩) 1 c') [l[k]] := fun W c' hW => items_sub (HI.out.lies hW) hlt
          have hck : ¬ c = k := by omega
          generalize l[k] = x at *
          cases hmb : mayB x
          · rw [hmb] at krd kmy
            simp only [Bool.false_eq_true, if_false] at krd
            unfold ReadRet itemV zeroI zeroS at krd
            simp only at krd
            go_upto_region 19 with (first | (go_at_call 18; refine ksh'.mono ?_; rintro e W4 ⟨rfl, hl4⟩) | (go_at_call 17; refine (krd _ (Lies.tr' hlwq hl4)).mono ?_; rintro e W5 ⟨pvr, rfl, hpr, hl5⟩; obtain ⟨oar, cpr, hpvr⟩ := hpr.slice; subst hpvr))
            obtain ⟨W6, hW6⟩ : ∃ W6, W5.alloc (.cells #[.bool false, .int .u8 0, .int .u8 0, .int .i64 0, .slice oar 0 cpr, .int .i64 0] 37) = W6 := ⟨_, rfl⟩
            have hl6 : Lies wr W6 := by rw [← hW6]; exact (Lies.tr' hl4 hl5).alloc (Lies.tr' hl4 hl5).size _
            rw [hW6]
            have hb6 : b < W6.heap.size := Nat.lt_of_lt_of_le hb hl6.size
            have lift : ∀ o u, wr.cell? ⟨b, o, none⟩ = some u → W6.cell? ⟨b, o, none⟩ = some u := fun o u h => cell_stay h (grown_lies hl6 none) (by simp)
            replace c0 := lift _ _ c0
            replace c1 := lift _ _ c1
            replace c2 := lift _ _ c2
            replace c3 := lift _ _ c3
            replace c4 := lift _ _ c4
            replace c5 := lift _ _ c5
            clear hW6 lift ksh' krd hpr hl4 hl5
            (refine wp_region_lay_tail (id := 19) (I := Lies W6) [(true, 0), (true, 1), (true, 2), (true, 3), (true, 4), (true, 5), (false, 6), (true, 7), (true, 8), (true, 9), (true, 10), (true, 11), (true, 12), (true, 14), (true, 15), (true, 16), (true, 17), (true, 18), (false, 13), (false, 19), (true, 20), (true, 21)] 22 (by kernel_rfl) (by kernel_rfl) (Lies.start W6).drew ?_; simp only [layOps, List.filterMap_cons, List.filterMap_nil, List.getElem?_cons_succ, List.getElem?_cons_zero, Option.map_some, List.append_eq, List.cons_append, List.nil_append, List.drop_succ_cons, List.drop_zero]; (repeat (first | (have hX_ : True := trivial; (first | refine i_skip ?_ ?_ | refine i_skip2 ?_ ?_); (focus exact wanted_no rfl rfl rfl); clear hX_; simp only [Act.put, List.setIfInBounds_toArray, List.set_cons_zero, List.set_cons_succ]) | (apply i_free _ rfl; (focus (intro C1 hs1 w1 hw0; have hw1 := hs1 _ hw0; have hc1 := hw1.cells; go_simp; (try go_bits); (try (rw [if_pos (by omega)]; go_simp)); first | rfl)); simp only [Act.put, List.setIfInBounds_toArray, List.set_cons_zero, List.set_cons_succ]) | (refine i_loud rfl ?_; intro K hK; go_simp; go_at_call 15; refine (kmy _ (hl6.tr' (Lies.start W6).drew)).mono ?_; rintro e w2 ⟨rfl, hl2⟩; refine ⟨_, rfl, (Lies.start W6).drew.tr' hl2, ?_⟩; (try simp only [Act.put, List.setIfInBounds_toArray, List.set_cons_zero, List.set_cons_succ]); apply hK))); refine i_nil ?_)
            go_wp2
            go_roundw
            case rel => exact ⟨k + 1, by go_num, by omega, (hlq.tr' hl6).tr' ((Lies.start W6).drew.tr' hl2)⟩
            case measure => simp [intOf]; omega
          · rw [hmb] at krd kmy
            simp only [if_true] at krd
            unfold ReadRet itemV at krd
            simp only at krd
            go_upto_region 19 with (first | (go_at_call 18; refine ksh'.mono ?_; rintro e W4 ⟨rfl, hl4⟩) | (go_at_call 17; refine (krd _ (Lies.tr' hlwq hl4)).mono ?_; rintro e W5 ⟨pvr, rfl, hpr, hl5⟩; obtain ⟨oar, cpr, hpvr⟩ := hpr.slice; subst hpvr))
            obtain ⟨W6, hW6⟩ : ∃ W6, W5.alloc (.cells #[.bool x.mark, .int .u8 (x.step.pass : Int), .int .u8 (x.step.way : Int), .int .i64 x.step.rule, .slice oar x.step.path.length cpr, .int .i64 x.step.place] 37) = W6 := ⟨_, rfl⟩
            obtain ⟨X, hX0⟩ : ∃ X, W5.heap.size = X := ⟨_, rfl⟩
            have hX : Blk W6 X 37 #[.bool x.mark, .int .u8 (x.step.pass : Int), .int .u8 (x.step.way : Int), .int .i64 x.step.rule, .slice oar x.step.path.length cpr, .int .i64 x.step.place] := by rw [← hW6, ← hX0]; exact Blk.new W5 37 _
            have hl6 : Lies wr W6 := by rw [← hW6]; exact (Lies.tr' hl4 hl5).alloc (Lies.tr' hl4 hl5).size _
            have hpr6 : IntsAt W6 (fun b => b < W6.heap.size) (.slice oar x.step.path.length cpr) x.step.path := by rw [← hW6]; exact (hpr.alloc _).mono (fun b hb => by simp; omega)
            rw [hW6]
            try simp only [hX0]
            have hb6 : b < W6.heap.size := Nat.lt_of_lt_of_le hb hl6.size
            have lift : ∀ o u, wr.cell? ⟨b, o, none⟩ = some u → W6.cell? ⟨b, o, none⟩ = some u := fun o u h => cell_stay h (grown_lies hl6 none) (by simp)
            replace c0 := lift _ _ c0
            replace c1 := lift _ _ c1
            replace c2 := lift _ _ c2
            replace c3 := lift _ _ c3
            replace c4 := lift _ _ c4
            replace c5 := lift _ _ c5
            have cX := hX.cell
            have hlX := hX.lt
            have HPR := Lib.hid hpr6
            clear hW6 hX0 lift ksh' krd hpr hl4 hl5 hpr6
            (refine wp_region_lay_tail (id := 19) (I := Lies W6) [(true, 0), (true, 1), (true, 2), (true, 3), (true, 4), (true, 5), (false, 6), (true, 7), (true, 8), (true, 9), (true, 10), (true, 11), (true, 12), (true, 14), (true, 15), (true, 16), (true, 17), (true, 18), (false, 13), (false, 19), (true, 20), (true, 21)] 22 (by kernel_rfl) (by kernel_rfl) (Lies.start W6).drew ?_; simp only [layOps, List.filterMap_cons, List.filterMap_nil, List.getElem?_cons_succ, List.getElem?_cons_zero, Option.map_some, List.append_eq, List.cons_append, List.nil_append, List.drop_succ_cons, List.drop_zero]; (repeat (first | (have hX_ : True := trivial; (first | refine i_skip ?_ ?_ | refine i_skip2 ?_ ?_); (focus exact wanted_no rfl rfl rfl); clear hX_; simp only [Act.put, List.setIfInBounds_toArray, List.set_cons_zero, List.set_cons_succ]) | (apply i_free _ rfl; (focus (intro C1 hs1 w1 hw0; have hw1 := hs1 _ hw0; have hc1 := hw1.cells; go_simp; (try go_bits); (try (rw [if_pos (by omega)]; go_simp)); first | rfl)); simp only [Act.put, List.setIfInBounds_toArray, List.set_cons_zero, List.set_cons_succ]) | (refine i_loud rfl ?_; intro K hK; go_simp; go_at_call 15; refine (kmy _ (hl6.tr' (Lies.start W6).drew)).mono ?_; rintro e w2 ⟨rfl, hl2'⟩; have hl2 : Lies W6 w2 := (Lies.start W6).drew.tr' hl2'; refine ⟨_, rfl, hl2, ?_⟩; (try simp only [Act.put, List.setIfInBounds_toArray, List.set_cons_zero, List.set_cons_succ]); apply hK) | (refine i_loud rfl ?_; intro K hK; go_simp; go_at_call 10; refine hsm.mono ?_; rintro e w4 ⟨rfl, hl4'⟩; refine ⟨_, rfl, hl3.tr' hl4', ?_⟩; (try simp only [Act.put, List.setIfInBounds_toArray, List.set_cons_zero, List.set_cons_succ]); apply hK) | (refine i_loud rfl ?_; intro K hK; go_simp; obtain ⟨w3, hw3⟩ : ∃ w3, w2.alloc (.cells #[.bool x.mark, .int .u8 (x.step.pass : Int), .int .u8 (x.step.way : Int), .int .i64 x.step.rule, .slice oar x.step.path.length cpr, .int .i64 x.step.place] 37) = w3 := ⟨_, rfl⟩; have hB3 : Blk w3 w2.heap.size 37 #[.bool x.mark, .int .u8 (x.step.pass : Int), .int .u8 (x.step.way : Int), .int .i64 x.step.rule, .slice oar x.step.path.length cpr, .int .i64 x.step.place] := (by rw [← hw3]; exact Blk.new w2 37 _); have hl3 : Lies W6 w3 := (by rw [← hw3]; exact hl2.alloc hl2.size _); have hz3 : w2.heap.size < w3.heap.size := hB3.lt; rw [hw3]; clear hw3; have hsm := same_any (F := fun b => b < w3.heap.size) (G := F) (items_one (c := 1) hB3 HX.out ((HPR.out.lies hl3).mono (fun b hb => Nat.lt_of_lt_of_le hb hl3.size)) hz3) (HSUB w3 (c - k) (hlwq.tr' (hl6.tr' hl3))) (fun b hb => hb) (fun b hb => Nat.lt_of_lt_of_le (HF.out b hb) (hlwq.tr' (hl6.tr' hl3)).size); rw [decide_eq_true rfl] at hsm; refine ⟨hl3, ?_⟩; (try simp only [Act.put, List.setIfInBounds_toArray, List.set_cons_zero, List.set_cons_succ]); apply hK))); refine i_nil ?_)
            go_wp2
            go_roundw
            case rel => exact ⟨k + 1, by go_num, by omega, hlq.tr' (hl6.tr' (hl3.tr' hl4'))⟩
            case measure => simp [intOf]; omega
      case rest =>
        have hlz : Lies w wc := hcut
        clear hcut hlw HLO HI HF
        obtain ⟨md, ed, hde⟩ : ∃ m e, decP s = (m, e) := ⟨_, _, rfl⟩
        have kd : ∀ W, Calls Tryd.prog 16 #[.string s] W (fun x w' => ∃ v, x = .returned (.tuple #[v, .int .i64 (ed : Int)]) ∧ ItemsAt w' (fun b => W.heap.size ≤ b ∧ b < w'.heap.size) v md ∧ Lies W w') := fun W => by
          have := decode_any (w := W) (t := s) (by omega)
          rw [hde] at this
          exact this
        have hen : Hid (ed = 0 → encP md = (bytesOf s, 0)) := Lib.hid (fun h => by subst h; exact encP_inv hde)
        clear hde
        go_upto_if 120 with (go_at_call 16; (with_reducible refine (kd _).mono ?_); rintro e Wd ⟨vd, rfl, hId, hld⟩; obtain ⟨od, cd, hvd⟩ := hId.slice; subst hvd)
        have hld' := hlz.tr' hld
        have HId := Lib.hid hId
        clear kd hId
        go_cut [] (fun wx => Lies w wx)
        case first =>
          by_cases hed : ed = 0
          · have hstr : strV ((bytesOf s).map UInt8.ofNat) = .string s := by
              unfold strV bytesOf
              rw [List.map_map]
              have : s.data.toList.map (UInt8.ofNat ∘ UInt8.toNat) = s.data.toList := by
                conv => rhs; rw [← List.map_id s.data.toList]
                exact List.map_congr_left fun b _ => by simp
              rw [this]
            have ken := encode_any HId.out (fun b hb => hb.2)
            rw [hen.out hed] at ken
            simp only at ken
            rw [hstr] at ken
            have q1 : (s.toList != s.toList) = false := by simp
            subst hed
            clear hen hstr HId
            go_wp2_with (go_at_call 9; (with_reducible refine ken.mono ?_); rintro e We ⟨rfl, hle⟩)
            go_meet
            exact hld'.tr' hle
          · have q1 : ((ed : Int) == 0) = false := by simp; omega
            clear hen HId
            go_wp2
            go_meet
            exact hld'
        case rest =>
          have hly : Lies w wc := hcut
          clear hcut hld' hld hen HId hlz
          obtain ⟨x, g, hxg⟩ : ∃ x g, readP s.data.toList = (x, g) := ⟨_, _, rfl⟩
          have hro := readP_ok s.data.toList
          rw [hxg] at hro
          simp only at hro
          have krd := read_any (s := s) (w := wc) (by omega) (HM.out.lies hly)
          rw [hxg] at krd
          unfold ReadRet itemV at krd
          simp only at krd
          have hinv : g = 0 → mayB x = true ∧ showB x = s.data.toList := fun h => by subst h; exact readP_inv hxg
          have HINV := Lib.hid hinv
          have hxok := hro.2
          have HG := Lib.hid hro.1
          clear hinv hxg hro
          go_upto_region 27 with (go_at_call 17; (with_reducible refine krd.mono ?_); rintro e Wr ⟨pvr, rfl, hpr, hlr⟩; obtain ⟨oar, cpr, hpvr⟩ := hpr.slice; subst hpvr)
          obtain ⟨Wx, hWx⟩ : ∃ Wx, Wr.alloc (.cells #[.bool x.mark, .int .u8 (x.step.pass : Int), .int .u8 (x.step.way : Int), .int .i64 x.step.rule, .slice oar x.step.path.length cpr, .int .i64 x.step.place] 37) = Wx := ⟨_, rfl⟩
          obtain ⟨X, hX0⟩ : ∃ X, Wr.heap.size = X := ⟨_, rfl⟩
          have hX : Blk Wx X 37 #[.bool x.mark, .int .u8 (x.step.pass : Int), .int .u8 (x.step.way : Int), .int .i64 x.step.rule, .slice oar x.step.path.length cpr, .int .i64 x.step.place] := by rw [← hWx, ← hX0]; exact Blk.new Wr 37 _
          have hlx : Lies w Wx := by rw [← hWx]; exact (hly.tr' hlr).alloc (hly.tr' hlr).size _
          have hpx : IntsAt Wx (fun b => b < Wx.heap.size) (.slice oar x.step.path.length cpr) x.step.path := by rw [← hWx]; exact (hpr.alloc _).mono (fun b hb => by simp; omega)
          rw [hWx]
          try simp only [hX0]
          clear hWx hX0 hpr krd hlr hly
          have cX := hX.cell
          have hlX := hX.lt
          by_cases hg : g = 0
          · obtain ⟨hm, hsb⟩ := HINV.out hg
            have ksh := show_any hpx hxok (fun b hb => hb) (HT.out.lies hlx)
            have hsp : strV (showP x) = .string s := by unfold showP; rw [if_pos hm, hsb]; rfl
            rw [hsp] at ksh
            have kmy : ∀ W, Lies Wx W → Calls Tryd.prog 15 #[.agg #[.bool x.mark, .int .u8 (x.step.pass : Int), .int .u8 (x.step.way : Int), .int .i64 x.step.rule, .slice oar x.step.path.length cpr, .int .i64 x.step.place]] W (Ret (.bool true) W) := fun W hW => by
              have := may_any (x := x) (hpx.lies hW)
              rwa [hm] at this
            have q1 : (s.toList == s.toList) = true := by simp
            subst hg
            clear HINV HG hpx hm hsb hsp
            go_wp2_with (first | (go_at_call 18; (with_reducible refine ksh.mono ?_); rintro e W4 ⟨rfl, hl4'⟩; have hl4 : Lies Wx W4 := hl4'; have hX4 := hX.lies hl4; clear cX hlX; have cX := hX4.cell; have hlX := hX4.lt) | (go_at_call 15; (with_reducible refine (kmy _ hl4).mono ?_); rintro e W5 ⟨rfl, hl5⟩))
            go_ret
            exact ⟨rfl, (Lies.tr' hlx hl4).tr' hl5⟩
          · have q1 : ((g : Int) == 0) = false := by simp; omega
            clear HINV HG hpx
            go_wp2
            go_ret
            exact ⟨rfl, hlx⟩
end Go.Proofs.YtbgmjlonbbmffaaDoor
