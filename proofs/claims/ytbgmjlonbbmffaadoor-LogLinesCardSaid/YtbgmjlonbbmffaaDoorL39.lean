/- bonsailaw27.LogLines walked. -/
import Derived.Test.YtbgmjlonbbmffaaDoorL37
import Derived.Test.YtbgmjlonbbmffaaDoorL38
import Derived.Test.YtbgmjlonbbmffaaDoorM27
import Derived.Test.YtbgmjlonbbmffaaDoorL33
import Derived.Deep.RegionHeld3
namespace Go.Proofs.YtbgmjlonbbmffaaDoor
open Go Go.RowKit
attribute [local go_sem] Oper.quietAt Oper.quietUpon
theorem ItemsAt.mono' {w : World} {F G : Nat → Prop} {v : Value} {l : List ItemD} (h : ItemsAt w F v l) (hFG : ∀ b, F b → G b) : ItemsAt w G v l := by
  obtain ⟨oa, cap, hv, hm, hok, h⟩ := h
  refine ⟨oa, cap, hv, hm, hok, fun hne => ?_⟩
  obtain ⟨b, off, h1, h2, h3⟩ := h hne
  exact ⟨b, off, h1, hFG b h2, fun i x hi => by obtain ⟨pv, h4, h5⟩ := h3 i x hi; exact ⟨pv, h4.mono hFG, h5⟩⟩
theorem ints_lt {W : World} {F : Nat → Prop} {v : Value} {l : List Int} (h : IntsAt W F v l) : IntsAt W (fun b => b < W.heap.size) v l := by
  obtain ⟨oa, cap, hv, hm, h⟩ := h
  refine ⟨oa, cap, hv, hm, fun hne => ?_⟩
  obtain ⟨b, off, h1, _, h3⟩ := h hne
  cases l with
  | nil => exact absurd rfl hne
  | cons y t => exact ⟨b, off, h1, cell_lt (h3 0 y rfl), h3⟩
theorem single_lt {W : World} {F : Nat → Prop} {x : ItemD} {pv : Value} {A c : Nat} {t : TypeId} (hB : Blk W A t #[.bool x.mark, .int .u8 (x.step.pass : Int), .int .u8 (x.step.way : Int), .int .i64 x.step.rule, pv, .int .i64 x.step.place]) (hok : x.step.ok) (hp : IntsAt W F pv x.step.path) : ItemsAt W (fun b => b < W.heap.size) (.slice (some ⟨A, 0, none⟩) 1 c) [x] :=
  items_single hB hok (ints_lt hp) hB.lt
theorem told_one {W : World} {F : Nat → Prop} {x : ItemD} {pv : Value} {A : Nat} {t : TypeId} (hB : Blk W A t #[.bool x.mark, .int .u8 (x.step.pass : Int), .int .u8 (x.step.way : Int), .int .i64 x.step.rule, pv, .int .i64 x.step.place]) (hok : x.step.ok) (hp : IntsAt W F pv x.step.path) :
    Calls Tryd.prog 21 #[.slice (some ⟨A, 0, none⟩) 1 1] W fun e w' => ∃ o c, e = .returned (.slice o 1 c) ∧ ItemsAt w' (fun b => b < w'.heap.size) (.slice o 1 c) [x] ∧ Lies W w' :=
  (told_any (single_lt hB hok hp) (fun _ h => h) (by simp)).mono fun e w' ⟨v, he, hv, hl⟩ => by
    obtain ⟨o, c, hq⟩ := hv.slice
    subst hq
    exact ⟨o, c, he, hv, hl⟩
set_option maxRecDepth 100000 in
set_option maxHeartbeats 1500000 in
theorem logLines_any {x : ItemD} {pv : Value} {s : ByteArray} {q : Value} {l : List ItemD} {w : World} {F : Nat → Prop} (hp : IntsAt w F pv x.step.path) (hok : x.step.ok) (hI : ItemsAt w F q l) (hF : ∀ b, F b → b < w.heap.size) (hT : Tab w) (hM : MaxL w) :
    Calls Tryd.prog 6 #[.agg #[.bool x.mark, .int .u8 (x.step.pass : Int), .int .u8 (x.step.way : Int), .int .i64 x.step.rule, pv, .int .i64 x.step.place], .string s, q] w (Ret (.bool true) w) := by
  have kA : ∀ W, Lies w W → Calls Tryd.prog 8 #[] W (Ret (.bool true) W) := fun W h => awake_any (hT.lies h)
  have k7b : ∀ W, Lies w W → Calls Tryd.prog 7 #[q] W (Ret (.bool (decide (20000 ≤ wt l))) W) := fun W h => long_any (hI.lies h)
  have kSh : ∀ W, Lies w W → Calls Tryd.prog 18 #[.agg #[.bool x.mark, .int .u8 (x.step.pass : Int), .int .u8 (x.step.way : Int), .int .i64 x.step.rule, pv, .int .i64 x.step.place]] W (Ret (strV (showP x)) W) := fun W h => show_any (hp.lies h) hok (fun b hb => Nat.lt_of_lt_of_le (hF b hb) h.size) (hT.lies h)
  obtain ⟨W0, hW0⟩ : ∃ W0, w.alloc (.cells #[.bool x.mark, .int .u8 (x.step.pass : Int), .int .u8 (x.step.way : Int), .int .i64 x.step.rule, pv, .int .i64 x.step.place] 37) = W0 := ⟨_, rfl⟩
  have hX0 : Blk W0 w.heap.size 37 #[.bool x.mark, .int .u8 (x.step.pass : Int), .int .u8 (x.step.way : Int), .int .i64 x.step.rule, pv, .int .i64 x.step.place] := by rw [← hW0]; exact Blk.new w 37 _
  have hl0 : Lies w W0 := by rw [← hW0]; exact (Lies.start w).alloc (Nat.le_refl _) _
  obtain ⟨W1, hW1⟩ : ∃ W1, W0.alloc (.cells #[.bool x.mark, .int .u8 (x.step.pass : Int), .int .u8 (x.step.way : Int), .int .i64 x.step.rule, pv, .int .i64 x.step.place] 37) = W1 := ⟨_, rfl⟩
  have hY1 : Blk W1 W0.heap.size 37 #[.bool x.mark, .int .u8 (x.step.pass : Int), .int .u8 (x.step.way : Int), .int .i64 x.step.rule, pv, .int .i64 x.step.place] := by rw [← hW1]; exact Blk.new W0 37 _
  have hl01 : Lies W0 W1 := by rw [← hW1]; exact (Lies.start W0).alloc (Nat.le_refl _) _
  have hl1 : Lies w W1 := hl0.tr' hl01
  have hX1 := hX0.lies hl01
  have k7a := long_any (items_single (c := 1) hY1 hok ((hp.lies hl1).mono (G := fun _ => True) (fun _ _ => trivial)) trivial)
  have kRS : ∀ W, Below W0.heap.size W0 W → Calls Tryd.prog 24 #[.agg #[.bool x.mark, .int .u8 (x.step.pass : Int), .int .u8 (x.step.way : Int), .int .i64 x.step.rule, pv, .int .i64 x.step.place]] W (Ret (strV (showP x)) W) := fun W h => refShow_any ((hp.lies hl0).low h (fun b hb => Nat.lt_of_lt_of_le (hF b hb) hl0.size)) hok
  obtain ⟨T, hTT⟩ : ∃ T : ByteArray, T = ⟨(showP x).toArray⟩ := ⟨_, rfl⟩
  have hTz : T.size ≤ 1000 := by rw [hTT, size_mk]; exact shown_len hok
  rw [show strV (showP x) = .string T by rw [hTT]; rfl] at kSh kRS
  obtain ⟨m, ⟨pass, way, rule, path, place⟩⟩ := x
  simp only at *
  obtain ⟨oa, c, hv⟩ := hI.slice
  obtain ⟨op, cp, hpv⟩ := hp.slice
  subst hv hpv
  have hzp := hp.len
  have hzl := hI.len
  have HI := Lib.hid hI
  have HF := Lib.hid hF
  have HKRS := Lib.hid kRS
  have HM := Lib.hid hM
  have HKA := Lib.hid kA
  have HL0 := Lib.hid hl0
  clear hI hp hT hM hTT kRS
  go_enter Tryd.func6, Tryd.ntmps6
  go_upto_region 1 with (fail)
  clear hW0
  have hcX := hX0.cell
  have hlX := hX0.lt
  generalize hd1 : decide (20000 ≤ wt [(⟨m, ⟨pass, way, rule, path, place⟩⟩ : ItemD)]) = D1 at k7a
  generalize hd2 : decide (20000 ≤ wt l) = D2 at k7b
  clear hd1
  cases D1
  case true =>
    go_wp2_with (first | (go_at_call 7; refine k7a.mono ?_; rintro e W2 ⟨rfl, hW2⟩; have hl2 := hl1.tr' hW2) | (go_at_call 8; refine (kA _ hl2).mono ?_; rintro e W3 ⟨rfl, hW3⟩; have hl3 := hl2.tr' hW3))
    go_ret
    exact ⟨rfl, hl3⟩
  cases D2
  case true =>
    go_wp2_with (first | (go_at_call 7; (first | ((with_reducible refine k7a.mono ?_); rintro e W2 ⟨rfl, hW2⟩; have hl2 := hl1.tr' hW2) | ((with_reducible refine (k7b _ hl2).mono ?_); rintro e W4 ⟨rfl, hW4⟩; have hl4 := hl2.tr' hW4))) | (go_at_call 8; refine (kA _ hl4).mono ?_; rintro e W3 ⟨rfl, hW3⟩; have hl3 := hl4.tr' hW3))
    go_ret
    exact ⟨rfl, hl3⟩
  have hwt : wt l < 20000 := by have := of_decide_eq_false hd2; omega
  clear hd2
  by_cases hs3 : 3000 < s.size
  · have d3 : decide (3000 < (s.size : Int)) = true := decide_eq_true (by omega)
    go_wp2_with (first | (go_at_call 7; (first | ((with_reducible refine k7a.mono ?_); rintro e W2 ⟨rfl, hW2⟩; have hl2 := hl1.tr' hW2) | ((with_reducible refine (k7b _ hl2).mono ?_); rintro e W4 ⟨rfl, hW4⟩; have hl4 := hl2.tr' hW4))) | (go_at_call 8; refine (kA _ hl4).mono ?_; rintro e W3 ⟨rfl, hW3⟩; have hl3 := hl4.tr' hW3))
    go_ret
    exact ⟨rfl, hl3⟩
  have d3 : decide (3000 < (s.size : Int)) = false := decide_eq_false (by omega)
  go_upto_region 3 with (first | (go_at_call 7; (first | ((with_reducible refine k7a.mono ?_); rintro e W2 ⟨rfl, hW2⟩; have hl2 := hl1.tr' hW2) | ((with_reducible refine (k7b _ hl2).mono ?_); rintro e W4 ⟨rfl, hW4⟩; have hl4 := hl2.tr' hW4))))
  have hX4 := (hX1.lies hW2).lies hW4
  have hl04 := (hl01.tr' hW2).tr' hW4
  clear hX0 hcX hlX hX1 hY1 hW1 k7a k7b hl1 hl01 kA hl2 hW2 hW4
  have hcX := hX4.cell
  have hlX := hX4.lt
  go_upto_region 4 with (go_at_call 18; refine (kSh _ hl4).mono ?_; rintro e W5 ⟨rfl, hW5⟩)
  have hX5 := hX4.lies hW5
  have hl05 := hl04.tr' hW5
  clear hcX hlX hX4 hl04 hl4 kSh hl0
  have hz9 : ¬ (9223372036854775807 < T.size + s.size) := by omega
  go_upto_block 0 with (fail)
  obtain ⟨W6, hW6⟩ : ∃ W6, W5.alloc (.cells #[.string s, .string T, .string (T ++ s)] 9) = W6 := ⟨_, rfl⟩
  have hZ6 : Blk W6 W5.heap.size 9 #[.string s, .string T, .string (T ++ s)] := by rw [← hW6]; exact Blk.new W5 9 _
  have hl56 : Lies W5 W6 := by rw [← hW6]; exact (Lies.start W5).alloc (Nat.le_refl _) _
  have hX6 := hX5.lies hl56
  have hl06 := hl05.tr' hl56
  rw [hW6]
  obtain ⟨Z, hZ⟩ : ∃ Z, W5.heap.size = Z := ⟨_, rfl⟩
  rw [hZ] at hZ6
  try simp only [hZ]
  have HCS : Hid (∀ k, k < 3 → ∃ y : ByteArray, (#[.string s, .string T, .string (T ++ s)] : Array Value)[k]? = some (.string y) ∧ y.size ≤ 5000) := Lib.hid (fun k hk => by
    match k, hk with
    | 0, _ => exact ⟨s, rfl, by omega⟩
    | 1, _ => exact ⟨T, rfl, by omega⟩
    | 2, _ => exact ⟨T ++ s, rfl, by rw [ByteArray.size_append]; omega⟩)
  clear hW6 hZ hX5 hl05 hl56 d3 hz9 hW5
  go_wp2_with fail
  go_loopw [43] (fun j wr => ∃ k : Nat, j = .int .i64 (k : Int) ∧ k ≤ 3 ∧ Hid (Lies W6 wr)) (fun j _ => 3 - (intOf j).toNat)
  case atStart => exact ⟨0, rfl, Nat.zero_le _, Lib.hid (Lies.start _)⟩
  case round =>
    obtain ⟨k, rfl, hk, hl⟩ := hrel
    by_cases hlt : k < 3
    case neg =>
      obtain rfl : k = 3 := by omega
      have hl7 := hl06.tr' hl.out
      have hlw := HL0.out.tr' hl7
      have hX7 := hX6.lies hl.out
      have hml : l.length < 20000 := Nat.lt_of_le_of_lt (wt_len l) hwt
      have k21 := told_any (HI.out.lies hlw) (fun b hb => Nat.lt_of_lt_of_le (HF.out b hb) hlw.size) hml
      have kSg : ∀ (W : World) (v : Value), ItemsAt W (fun b => b < W.heap.size) v l → Calls Tryd.prog 22 #[v] W (RefSegsRet (segP l) W) := fun W v h => refSegments_any h (fun _ hb => hb) hml
      clear hl hX6 hZ6 HCS hl06 hk hlt
      go_upto_region 13 with (first | (go_at_call 21; refine k21.mono ?_; rintro e W8 ⟨v8, he8, hi8, hl8⟩; subst he8) | (go_at_call 22; refine (kSg _ _ hi8).mono ?_; rintro e W9 ⟨v9, he9, hg9, hl9⟩; subst he9))
      clear k21 kSg hml
      have hl19 := hl8.tr' hl9
      have hX9 := hX7.lies hl19
      have hl09 := hl7.tr' hl19
      have HIL := Lib.hid ((HI.out.lies (hlw.tr' hl19)).mono' (G := fun b => b < W9.heap.size) (fun b hb => Nat.lt_of_lt_of_le (HF.out b hb) (hlw.tr' hl19).size))
      have hlw9 := hlw.tr' hl19
      obtain ⟨gs, hgs⟩ : ∃ gs, segP l = gs := ⟨_, rfl⟩
      rw [hgs] at hg9
      have HGS := Lib.hid hgs
      obtain ⟨og, cg, hv9⟩ := hg9.slice
      subst hv9
      have hgz := hg9.len
      have HG := Lib.hid hg9
      have HX9 := Lib.hid hX9
      have HW0 := Lib.hid hl09
      have HWW := Lib.hid hlw9
      have hbX := hX9.lt
      clear hg9 hgs hX9 hl09 hlw9 hX7 hl7 hlw hl19 hl8 hl9 hi8 hF HM HL0
      go_wp2_with fail
      go_loopw [15] (fun j wr => ∃ k : Nat, j = .int .i64 (k : Int) ∧ k ≤ 2 ∧ Hid (Sp W9.heap.size W9 wr)) (fun j _ => 2 - (intOf j).toNat)
      case atStart => exact ⟨0, rfl, Nat.zero_le _, Lib.hid (Sp.refl _ _)⟩
      case round =>
        obtain ⟨k, rfl, hk, hs⟩ := hrel
        by_cases hlt : k < 2
        case neg =>
          obtain rfl : k = 2 := by omega
          have hcX : ∀ i, wr.cell? ⟨w.heap.size, i, none⟩ = (#[.bool m, .int .u8 (pass : Int), .int .u8 (way : Int), .int .i64 rule, .slice op path.length cp, .int .i64 place] : Array Value)[i]? := fun i => (World.cell?_of_block (w := W9) (hs.out.low.block w.heap.size hbX)).trans (HX9.out.cell i)
          have hlX : w.heap.size < wr.heap.size := Nat.lt_of_lt_of_le hbX hs.out.low.size
          have kq := HKRS.out wr (below_up HW0.out hs.out.low HW0.out.size)
          have hlw1 : Lies w wr := below_up HWW.out hs.out.low HWW.out.size
          have kA := HKA.out
          go_wp2_with (first | (go_at_call 24; refine kq.mono ?_; rintro e W11 ⟨rfl, hl11⟩; have hl12 := hlw1.tr' hl11) | (go_at_call 8; refine (kA _ hl12).mono ?_; rintro e W12 ⟨rfl, hl13⟩))
          go_ret
          exact ⟨rfl, hl12.tr' hl13⟩
        have d2 : decide ((k : Int) < 2) = true := decide_eq_true (by omega)
        have hi1 := HIL.out.low hs.out.low (fun _ h => h)
        have hsz := hs.out.low.size
        have kSg := segments_any hi1 (fun b hb => Nat.lt_of_lt_of_le hb hsz) hwt
        rw [HGS.out] at kSg
        go_upto_region 17 with (first | (go_at_call 12; refine kSg.mono ?_; rintro e W10 ⟨v10, F10, he, hs10, hF10, hl10⟩; subst he; have kSt := steps_any (hi1.lies hl10) (fun b hb => Nat.lt_of_lt_of_le hb (Nat.le_trans hsz hl10.size)) hwt) | (go_at_call 14; refine kSt.mono ?_; rintro e W11 ⟨v11, F11, he, hs11, hF11, hl11⟩; subst he))
        obtain ⟨os, cs, hv10⟩ := hs10.slice
        obtain ⟨ot, ct, hv11⟩ := hs11.slice
        subst hv10 hv11
        have hz10 := hl10.size
        have hz11 := hl11.size
        have HS10 := Lib.hid (hs10.lies hl11)
        have HF10 : Hid (∀ b, F10 b → W9.heap.size ≤ b ∧ Free W11 b) := Lib.hid (fun b hb => ⟨Nat.le_trans hsz (hF10 b hb).1, (hF10 b hb).2.2.lies hl11⟩)
        have HF11 : Hid (∀ b, F11 b → W9.heap.size ≤ b ∧ Free W11 b) := Lib.hid (fun b hb => ⟨Nat.le_trans hsz (Nat.le_trans hz10 (hF11 b hb).1), (hF11 b hb).2.2⟩)
        have HSP : Hid (Sp W9.heap.size W9 W11) := Lib.hid (hs.out.trans ((Sp.lies hl10 hsz).trans (Sp.lies hl11 (Nat.le_trans hsz hz10))))
        have HGW := Lib.hid (HG.out.low HSP.out.low (fun _ h => h))
        obtain ⟨n, hn⟩ : ∃ n, (stepsP l).length = n := ⟨_, rfl⟩
        rw [hn] at hs11 ⊢
        have HN := Lib.hid hn
        have HS11 := Lib.hid hs11
        have hflat : gs.flatten = stepsP l := by rw [← HGS.out, segs_flat]
        have hfl : gs.flatten.length < 20000 := by rw [hflat]; exact Nat.lt_of_le_of_lt (stepsP_len l) (Nat.lt_of_le_of_lt (wt_len l) hwt)
        have hz9 : W9.heap.size ≤ W11.heap.size := by omega
        have HFL := Lib.hid hflat
        clear hs10 hs11 hF10 hF11 hl10 hl11 hs hi1 kSg kSt hflat hn hsz hz10 hz11
        go_upto_block 4 with (fail)
        go_wp2_with fail
        go_loopw [18, 19] (fun u j wq => ∃ (i : Nat) (qs : List (StepD × Value)), j = .int .i64 (i : Int) ∧ i ≤ gs.length ∧ qs.length < 20000 ∧ Hid (qs.map (·.1) = (gs.take i).flatten) ∧ Hid (wq.ownsRow W11.heap.size 35 5 u qs.length (cellsS qs)) ∧ Hid (Lies W11 wq) ∧ Hid (∀ p ∈ qs, IntsAt wq (fun b => b < W9.heap.size) p.2 p.1.path)) (fun _ j _ => gs.length - (intOf j).toNat)
        case atStart => exact ⟨0, [], rfl, Nat.zero_le _, by simp, Lib.hid rfl, Lib.hid (World.ownsRow_nil _ _ _ _), Lib.hid (Lies.start _), Lib.hid (by simp)⟩
        case round =>
          obtain ⟨i, qs, rfl, hi, hql, hqt, hqr, hl, hqp⟩ := hrel
          by_cases hilt : i < gs.length
          case neg =>
            obtain rfl : i = gs.length := by omega
            have d4 : decide (gs.length < gs.length) = false := decide_eq_false hilt
            have hqf : qs.map (·.1) = stepsP l := by rw [hqt.out, List.take_length, HFL.out]
            have hall := steps_of_row (F := fun _ => True) hqr.out rfl (by omega) (fun p hp => (hqp.out p hp).mono (fun _ _ => trivial)) (fun _ _ => trivial)
            rw [hqf] at hall
            obtain ⟨oq, nq, cq, hqv⟩ := row_slice hqr.out
            subst hqv
            have k13 := refSteps_any (HS11.out.lies hl.out) hall
            rw [decide_eq_true rfl] at k13
            have hsp1 := HSP.out.trans (Sp.lies hl.out hz9)
            have hs10 := HS10.out.lies hl.out
            have hs11 := HS11.out.lies hl.out
            have hf10 : Hid (∀ b, F10 b → W9.heap.size ≤ b ∧ Free wr b) := Lib.hid (fun b hb => ⟨(HF10.out b hb).1, (HF10.out b hb).2.lies hl.out⟩)
            have hf11 : Hid (∀ b, F11 b → W9.heap.size ≤ b ∧ Free wr b) := Lib.hid (fun b hb => ⟨(HF11.out b hb).1, (HF11.out b hb).2.lies hl.out⟩)
            have hz12 : W9.heap.size ≤ wr.heap.size := Nat.le_trans hz9 hl.out.size
            clear hall hqf hqr hqt hqp hl HS10 HS11 HF10 HF11 HGW HSP hz9
            go_upto_block 6 with (go_at_call 13; (with_reducible refine k13.mono ?_); rintro e W12 ⟨rfl, hl12⟩)
            have HQ10 := Lib.hid (hs10.lies hl12)
            have HQ11 := Lib.hid (hs11.lies hl12)
            have HE10 : Hid (∀ b, F10 b → W9.heap.size ≤ b ∧ Free W12 b) := Lib.hid (fun b hb => ⟨(hf10.out b hb).1, (hf10.out b hb).2.lies hl12⟩)
            have HE11 : Hid (∀ b, F11 b → W9.heap.size ≤ b ∧ Free W12 b) := Lib.hid (fun b hb => ⟨(hf11.out b hb).1, (hf11.out b hb).2.lies hl12⟩)
            have HSP := Lib.hid (hsp1.trans (Sp.lies hl12 hz12))
            clear hs10 hs11 hf10 hf11 hsp1 hl12 hz12 k13
            go_wp2_with fail
            go_loopw [20] (fun j wq => ∃ i : Nat, j = .int .i64 (i : Int) ∧ i ≤ gs.length ∧ Hid (Sp W9.heap.size W12 wq)) (fun j _ => gs.length - (intOf j).toNat)
            case atStart => exact ⟨0, rfl, Nat.zero_le _, Lib.hid (Sp.refl _ _)⟩
            case round =>
              obtain ⟨i, rfl, hi, hq⟩ := hrel
              by_cases hilt : i < gs.length
              case neg =>
                obtain rfl : i = gs.length := by omega
                have d5 : decide (gs.length < gs.length) = false := decide_eq_false hilt
                obtain ⟨l2, hl2, hst2⟩ := steps_sp HQ11.out hq.out
                have kp := spoil_any hst2 (fun b hb => ⟨(HE11.out b hb).1, hq.out.free b (HE11.out b hb).2⟩)
                go_wp2_with (go_at_call 23; (with_reducible refine kp.mono ?_); rintro e W13 ⟨rfl, hsp⟩)
                go_roundw
                case rel => exact ⟨k + 1, by go_num, by omega, Lib.hid ((HSP.out.trans hq.out).trans hsp)⟩
                case measure => simp [intOf]; omega
              have d5 : decide (i < gs.length) = true := decide_eq_true hilt
              obtain ⟨gs2, hgl2, hsg2⟩ := segs_sp HQ10.out hq.out
              obtain ⟨b1, c1, sv1, hv1, hF1, hSt1, cc1, hb1, hnz1⟩ := hsg2.cell (i := i) (by omega)
              rw [hgl2] at hv1
              injection hv1 with e1 e2 e3
              subst e1
              clear e2 e3
              have kp := spoil_any hSt1 (fun b hb => ⟨(HE10.out b hb).1, hq.out.free b (HE10.out b hb).2⟩)
              obtain ⟨o1, n1, hsv1⟩ := hSt1.slice
              generalize gs2[i] = g2 at *
              subst hsv1
              clear hSt1 hsg2 hnz1
              go_wp2_with (go_at_call 23; (with_reducible refine kp.mono ?_); rintro e W13 ⟨rfl, hsp⟩)
              go_roundw
              case rel => exact ⟨i + 1, by go_num, by omega, Lib.hid (hq.out.trans hsp)⟩
              case measure => simp [intOf]; omega
          have d4 : decide (i < gs.length) = true := decide_eq_true hilt
          obtain ⟨b1, c1, sv1, hv1, hF1, hSt1, cc1, hb1, hnz1⟩ := (HS10.out.lies hl.out).cell hilt
          obtain ⟨b2, c2, sv2, hv2, hF2, hSt2, cc2, hb2, hnz2⟩ := (HGW.out.lies hl.out).cell hilt
          injection hv1 with e1 e2 e3
          injection hv2 with f1 f2 f3
          subst e1 f1
          clear e2 e3 f2 f3
          have hst7 : (gs.take (i + 1)).flatten = (gs.take i).flatten ++ gs[i] := by rw [List.take_succ_eq_append_getElem hilt, List.flatten_append]; simp
          have hbd : ((gs.take (i + 1)).flatten).length < 20000 := Nat.lt_of_le_of_lt (flat_take gs (i + 1)) hfl
          rw [hst7, ← hqt.out, List.length_append, List.length_map] at hbd
          have HST7 := Lib.hid hst7
          clear hst7
          generalize gs[i] = g at *
          have k13 : ∀ W, Lies wr W → Calls Tryd.prog 13 #[sv1, sv2] W (Ret (.bool true) W) := fun W h => by
            have := refSteps_any (hSt1.lies h) (hSt2.lies h)
            rwa [decide_eq_true rfl] at this
          obtain ⟨o1, n1, hsv1⟩ := hSt1.slice
          obtain ⟨ou, cu, hsv⟩ := hSt2.slice
          subst hsv1 hsv
          have HST2 := Lib.hid hSt2
          clear hSt1 hSt2 hnz1
          go_upto_region 23 with (fail)
          (refine wp_region_quiet_all (C := Lies _) (by kernel_rfl) (by kernel_rfl) (Lies.drew (Lies.start _)) ?_; (repeat (first | (refine quiet_skip rfl ?_; simp only [Act.put, List.setIfInBounds_toArray, List.set_cons_zero, List.set_cons_succ]) | (apply quiet_op _ rfl; (focus (intro w1 hw1; have hc1 := hw1.cells; go_simp; (try go_bits); (try (rw [if_pos (by omega)]; go_simp)); first | (go_at_call 13; with_reducible exact Calls.lies hw1 (k13 _ hw1)) | (go_at_call 13; exact Calls.lies hw1 (k13 _ hw1)) | rfl)); simp only [Act.put, List.setIfInBounds_toArray, List.set_cons_zero, List.set_cons_succ]))); refine wpQuiet_nil ?_; intro w5 hw5)
          have hqr5 := Lib.hid (ownsRow_lies' hqr.out hw5)
          have hl5 := Lib.hid (hl.out.tr' hw5)
          have hqp5 : Hid (∀ p ∈ qs, IntsAt w5 (fun b => b < W9.heap.size) p.2 p.1.path) := Lib.hid (fun p hp => (hqp.out p hp).lies hw5)
          have hSt7 := HST2.out.lies hw5
          have cc3 := cell_stay cc2 (grown_lies hw5 none) (by simp)
          have hb3 := cell_lt cc3
          clear hqr hl hqp HST2 k13 cc1 cc2 hb1 hb2 hw5
          cases ou with
          | none =>
            obtain ⟨hg0, rfl⟩ := hnz2 _ _ rfl
            obtain rfl : g = [] := List.eq_nil_of_length_eq_zero hg0
            simp only [List.length_nil] at cc3
            clear hnz2 hg0 hbd hSt7
            go_wp2_with (at_builtin; refine wpList_append_none rfl _ _ 32 rfl W11.heap.size 35 (.agg zs5) 5 48 Tryd.underlying32 Tryd.info35' _ _ _ rfl hqr5.out rfl ?_)
            go_roundw
            case rel => exact ⟨i + 1, qs, by go_num, by omega, hql, Lib.hid (by rw [HST7.out, hqt.out]; simp), hqr5, hl5, hqp5⟩
            case measure => simp [intOf]; omega
          | some ad =>
            obtain ⟨ps7, hp1, hp2, hp3⟩ := steps_open hSt7
            have hgl : g.length = ps7.length := by rw [← hp1, List.length_map]
            have hone : ∀ u ∈ cellsS ps7, u.oneCell' = true := cellsS_one hp2
            have HP3 := Lib.hid (hp3 ad rfl)
            have HP2 := Lib.hid hp2
            have HP1 := Lib.hid hp1
            have HON := Lib.hid hone
            clear hp1 hp2 hp3 hnz2 hone hSt7
            rw [hgl] at cc3 hbd
            clear hgl
            go_wp2_with (at_builtin; refine wpList_append_fresh rfl _ _ 32 rfl W11.heap.size 35 (.agg zs5) 5 48 Tryd.underlying32 Tryd.info35' rfl (by decide) _ _ _ rfl hqr5.out ad ps7.length cu (cellsS ps7) rfl (by rw [cellsS_length]; omega) HP3.out HON.out (by omega) (by omega) hl5.out.size ?_; intro u1 W3 hown3 hg3 hnil3 hf3)
            go_roundw
            case measure => simp [intOf]; omega
            case rel =>
              have hks : ∀ p : StepD × Value, IntsAt w5 (fun b => b < W9.heap.size) p.2 p.1.path → IntsAt W3 (fun b => b < W9.heap.size) p.2 p.1.path := fun p hp => hp.kept hg3 (fun r hr hF => by have := (hqr5.out.lt r hr).1; omega)
              refine ⟨i + 1, qs ++ ps7, by go_num, by omega, by simp; omega, Lib.hid (by rw [HST7.out, List.map_append, hqt.out, HP1.out]), Lib.hid (by rw [cellsS_app, List.length_append]; exact hown3), Lib.hid (hl5.out.grown hg3 hl5.out.size (fun b e => (hqr5.out.lt b e).1)), Lib.hid (fun p hp => ?_)⟩
              rcases List.mem_append.1 hp with h | h
              · exact hks p (hqp5.out p h)
              · exact hks p (HP2.out p h)
    have d1 : decide ((k : Int) < 3) = true := decide_eq_true (by omega)
    obtain ⟨y, hy, hyz⟩ := HCS.out k hlt
    have cy := (hZ6.lies hl.out).cell k
    rw [hy] at cy
    have hlZ := (hZ6.lies hl.out).lt
    have kR := read_any (s := y) (w := wr) (by omega) (HM.out.lies ((HL0.out.tr' hl06).tr' hl.out))
    have kQ : ∀ W, Calls Tryd.prog 19 #[.string y] W (ReadRet W (readP y.data.toList)) := fun W => refRead_any (s := y) (w := W) (by omega)
    have hlr := hl.out
    obtain ⟨r, hr⟩ : ∃ r, readP y.data.toList = r := ⟨_, rfl⟩
    have hrk : r.1.step.ok := by rw [← hr]; exact readP_okS _
    rw [hr] at kR kQ
    obtain ⟨⟨rm, ⟨ra, rb, rc, rl, rz⟩⟩, re⟩ := r
    unfold ReadRet itemV at kR kQ
    simp only at kR kQ hrk
    clear hy hr
    go_upto_region 8 with (go_at_call 17; refine kR.mono ?_; rintro e W7 ⟨pv7, he7, hp7, hl7⟩; subst he7; obtain ⟨o7, c7, hv7⟩ := hp7.slice; subst hv7)
    obtain ⟨W8, hW8⟩ : ∃ W8, W7.alloc (.cells #[.bool rm, .int .u8 (ra : Int), .int .u8 (rb : Int), .int .i64 rc, .slice o7 rl.length c7, .int .i64 rz] 37) = W8 := ⟨_, rfl⟩
    have hA8 : Blk W8 W7.heap.size 37 #[.bool rm, .int .u8 (ra : Int), .int .u8 (rb : Int), .int .i64 rc, .slice o7 rl.length c7, .int .i64 rz] := by rw [← hW8]; exact Blk.new W7 37 _
    have hl78 : Lies W7 W8 := by rw [← hW8]; exact (Lies.start W7).alloc (Nat.le_refl _) _
    rw [hW8]
    have hp8 := (hp7.lies hl78).mono (G := fun _ => True) (fun _ _ => trivial)
    have hl8 := hlr.tr' (hl7.tr' hl78)
    obtain ⟨A, hA⟩ : ∃ A, W7.heap.size = A := ⟨_, rfl⟩
    rw [hA] at hA8
    try simp only [hA]
    clear kR hW8 hA hp7 hl7 hl78 cy hlZ hlr
    go_upto_region 9 with (go_at_call 19; refine (kQ _).mono ?_; rintro e W9 ⟨pv9, he9, hp9, hl9⟩; subst he9; obtain ⟨o9, c9, hv9⟩ := hp9.slice; subst hv9)
    obtain ⟨W10, hW10⟩ : ∃ W10, W9.alloc (.cells #[.bool rm, .int .u8 (ra : Int), .int .u8 (rb : Int), .int .i64 rc, .slice o9 rl.length c9, .int .i64 rz] 50) = W10 := ⟨_, rfl⟩
    have hB10 : Blk W10 W9.heap.size 50 #[.bool rm, .int .u8 (ra : Int), .int .u8 (rb : Int), .int .i64 rc, .slice o9 rl.length c9, .int .i64 rz] := by rw [← hW10]; exact Blk.new W9 50 _
    have hl910 : Lies W9 W10 := by rw [← hW10]; exact (Lies.start W9).alloc (Nat.le_refl _) _
    rw [hW10]
    have hA10 := (hA8.lies hl9).lies hl910
    have hpa := (hp8.lies hl9).lies hl910
    have hpb := (hp9.lies hl910).mono (G := fun _ => True) (fun _ _ => trivial)
    have hl10 := hl8.tr' (hl9.tr' hl910)
    obtain ⟨B, hB⟩ : ∃ B, W9.heap.size = B := ⟨_, rfl⟩
    rw [hB] at hB10
    try simp only [hB]
    clear hW10 hB hl910 hl9 hp9 hp8 hA8 hl8 kQ
    have a0 : W10.cell? ⟨A, 0, none⟩ = some (.bool rm) := hA10.cell 0
    have a1 : W10.cell? ⟨A, 1, none⟩ = some (.int .u8 (ra : Int)) := hA10.cell 1
    have a2 : W10.cell? ⟨A, 2, none⟩ = some (.int .u8 (rb : Int)) := hA10.cell 2
    have a3 : W10.cell? ⟨A, 3, none⟩ = some (.int .i64 rc) := hA10.cell 3
    have a4 : W10.cell? ⟨A, 4, none⟩ = some (.slice o7 rl.length c7) := hA10.cell 4
    have a5 : W10.cell? ⟨A, 5, none⟩ = some (.int .i64 rz) := hA10.cell 5
    have b0 : W10.cell? ⟨B, 0, none⟩ = some (.bool rm) := hB10.cell 0
    have b1 : W10.cell? ⟨B, 1, none⟩ = some (.int .u8 (ra : Int)) := hB10.cell 1
    have b2 : W10.cell? ⟨B, 2, none⟩ = some (.int .u8 (rb : Int)) := hB10.cell 2
    have b3 : W10.cell? ⟨B, 3, none⟩ = some (.int .i64 rc) := hB10.cell 3
    have b4 : W10.cell? ⟨B, 4, none⟩ = some (.slice o9 rl.length c9) := hB10.cell 4
    have b5 : W10.cell? ⟨B, 5, none⟩ = some (.int .i64 rz) := hB10.cell 5
    have na := World.new_ne W10 ⟨A, 0, none⟩ a0
    have nb := World.new_ne W10 ⟨B, 0, none⟩ b0
    have k21a := told_one (x := ⟨rm, ⟨ra, rb, rc, rl, rz⟩⟩) ((Blk.new W10 37 #[.bool rm, .int .u8 (ra : Int), .int .u8 (rb : Int), .int .i64 rc, .slice o7 rl.length c7, .int .i64 rz]).drew) hrk (hpa.lies (((Lies.start W10).alloc (Nat.le_refl _) _).drew))
    have k21b := told_one (x := ⟨rm, ⟨ra, rb, rc, rl, rz⟩⟩) (((Blk.new W10 37 #[.bool rm, .int .u8 (ra : Int), .int .u8 (rb : Int), .int .i64 rc, .slice o7 rl.length c7, .int .i64 rz]).alloc (.cells #[.bool rm, .int .u8 (ra : Int), .int .u8 (rb : Int), .int .i64 rc, .slice o9 rl.length c9, .int .i64 rz] 50)).drew) hrk (hpa.lies ((((Lies.start W10).alloc (Nat.le_refl _) _).alloc (by simp) _).drew))
    have hc2 := (Blk.new (W10.alloc (.cells #[.bool rm, .int .u8 (ra : Int), .int .u8 (rb : Int), .int .i64 rc, .slice o9 rl.length c9, .int .i64 rz] 50)) 37 #[.bool rm, .int .u8 (ra : Int), .int .u8 (rb : Int), .int .i64 rc, .slice o7 rl.length c7, .int .i64 rz]).drew
    rw [World.size_alloc] at hc2
    have k21c := told_one (x := ⟨rm, ⟨ra, rb, rc, rl, rz⟩⟩) hc2 hrk (hpa.lies ((((Lies.start W10).alloc (Nat.le_refl _) _).alloc (by simp) _).drew))
    have hd2 := (Blk.new (W10.alloc (.cells #[.bool rm, .int .u8 (ra : Int), .int .u8 (rb : Int), .int .i64 rc, .slice o7 rl.length c7, .int .i64 rz] 37)) 50 #[.bool rm, .int .u8 (ra : Int), .int .u8 (rb : Int), .int .i64 rc, .slice o9 rl.length c9, .int .i64 rz]).drew
    rw [World.size_alloc] at hd2
    have hd3 := ((Blk.new W10 50 #[.bool rm, .int .u8 (ra : Int), .int .u8 (rb : Int), .int .i64 rc, .slice o9 rl.length c9, .int .i64 rz]).alloc (.cells #[.bool rm, .int .u8 (ra : Int), .int .u8 (rb : Int), .int .i64 rc, .slice o7 rl.length c7, .int .i64 rz] 37)).drew
    have k20 : ∀ (W : World) (p q : Value) (F G : Nat → Prop), ItemsAt W F p [(⟨rm, ⟨ra, rb, rc, rl, rz⟩⟩ : ItemD)] → ItemsAt W G q [(⟨rm, ⟨ra, rb, rc, rl, rz⟩⟩ : ItemD)] → Calls Tryd.prog 20 #[p, q] W (Ret (.bool true) W) := fun W p q F G h1 h2 => by
      have := refSame_any h1 h2
      rwa [decide_eq_true rfl] at this
    go_region_held3 (fun w' => w'.cell? ⟨A, 0, none⟩ = some (.bool rm) ∧ w'.cell? ⟨A, 1, none⟩ = some (.int .u8 (ra : Int)) ∧ w'.cell? ⟨A, 2, none⟩ = some (.int .u8 (rb : Int)) ∧ w'.cell? ⟨A, 3, none⟩ = some (.int .i64 rc) ∧ w'.cell? ⟨A, 4, none⟩ = some (.slice o7 rl.length c7) ∧ w'.cell? ⟨A, 5, none⟩ = some (.int .i64 rz) ∧
        w'.cell? ⟨B, 0, none⟩ = some (.bool rm) ∧ w'.cell? ⟨B, 1, none⟩ = some (.int .u8 (ra : Int)) ∧ w'.cell? ⟨B, 2, none⟩ = some (.int .u8 (rb : Int)) ∧ w'.cell? ⟨B, 3, none⟩ = some (.int .i64 rc) ∧ w'.cell? ⟨B, 4, none⟩ = some (.slice o9 rl.length c9) ∧ w'.cell? ⟨B, 5, none⟩ = some (.int .i64 rz)) (first | go_keep | (refine ⟨?_, ?_, ?_, ?_, ?_, ?_, ?_, ?_, ?_, ?_, ?_, ?_⟩ <;> exact cell_stay (w := W10) (by assumption) (grown_lies hL12 none) (by simp)) | (refine ⟨?_, ?_, ?_, ?_, ?_, ?_, ?_, ?_, ?_, ?_, ?_, ?_⟩ <;> exact cell_stay (w := W10) (by assumption) (grown_lies hL11 none) (by simp))) ((first | (go_at_call 21; (first | (with_reducible refine k21a.mono ?_) | (with_reducible refine k21b.mono ?_) | (with_reducible refine k21c.mono ?_)); rintro e W11 ⟨o11, c11, he, hv11, hl11⟩; subst he; have hL11 : Lies W10 W11 := (by first | exact Lies.tr' (((Lies.start W10).alloc (Nat.le_refl _) _).drew) hl11 | exact Lies.tr' ((((Lies.start W10).alloc (Nat.le_refl _) _).alloc (by simp) _).drew) hl11); have hB11 := hB10.lies hL11; have hpb11 := hpb.lies hL11) | (go_at_call 20; (first | ((with_reducible refine (k20 _ _ _ _ _ (hv11.alloc _) (single_lt (x := ⟨rm, ⟨ra, rb, rc, rl, rz⟩⟩) (Blk.new W11 50 #[.bool rm, .int .u8 (ra : Int), .int .u8 (rb : Int), .int .i64 rc, .slice o9 rl.length c9, .int .i64 rz]) hrk (hpb11.alloc _))).mono ?_); rintro e w9 ⟨rfl, hl12⟩; have hL12 : Lies W10 w9 := Lies.tr' (hL11.alloc hL11.size _) hl12) | ((with_reducible refine (k20 _ _ _ _ _ hv11 (single_lt (x := ⟨rm, ⟨ra, rb, rc, rl, rz⟩⟩) (hd2.lies hl11) hrk hpb11)).mono ?_); rintro e w9 ⟨rfl, hl12⟩; have hL12 : Lies W10 w9 := Lies.tr' hL11 hl12) | ((with_reducible refine (k20 _ _ _ _ _ hv11 (single_lt (x := ⟨rm, ⟨ra, rb, rc, rl, rz⟩⟩) (hd3.lies hl11) hrk hpb11)).mono ?_); rintro e w9 ⟨rfl, hl12⟩; have hL12 : Lies W10 w9 := Lies.tr' hL11 hl12)))))
    all_goals (go_wp2_with fail; go_roundw; (case rel => exact ⟨k + 1, by go_num, by omega, Lib.hid (hl10.tr' hL12)⟩); (case measure => simp [intOf]; omega))
end Go.Proofs.YtbgmjlonbbmffaaDoor
