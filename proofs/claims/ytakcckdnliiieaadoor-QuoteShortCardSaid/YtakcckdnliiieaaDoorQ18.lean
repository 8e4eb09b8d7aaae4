/- quote.Unclass. -/
import Derived.Test.YtakcckdnliiieaaDoorQ17
import Derived.Test.YtakcckdnliiieaaDoorGrw
import Derived.Test.YtakcckdnliiieaaDoorStp
namespace Go.Proofs.YtakcckdnliiieaaDoor
open Go Go.RowKit Go.Shelf
attribute [local go_sem] Oper.semAt_some Oper.quietAt Oper.quietUpon
theorem nxC_ge {t : ByteArray} (x : Nat × Nat) (h : x.2 ≤ t.size) : x.2 ≤ nxC t x := by
  unfold nxC highP
  cases hs : seesB t x.2 45
  · exact Nat.le_refl _
  · have hlt : x.2 < t.size := by unfold seesB at hs; rw [beq_iff_eq] at hs; exact (byteAt_256 hs).2
    have := @signP_from t clsL (x.2 + 1) (by omega)
    simp only [if_true]
    omega
theorem unclsP_of {t : ByteArray} {bt : Bool} {i0 e0 : Nat} (h1 : bt = ((beginP t 91).2 == 0 && seesB t (beginP t 91).1 94)) (h2 : i0 = if bt then (beginP t 91).1 + 1 else (beginP t 91).1) (h3 : e0 = (beginP t 91).2)
    {s : BS} {i e : Nat} (h : clss t (t.size + 1) BS.zero i0 e0 = (s, i, e)) :
    unclsP t = if e ≠ 0 then (BS.zero, i, e) else (if bt then s.not else s, i + 1, 0) := by
  subst h1 h2 h3
  unfold unclsP
  simp only [h]
theorem ChC.nil {t : ByteArray} {i0 e0 : Nat} : ChC t i0 e0 [] := ⟨Chn.nil, by simp⟩
theorem ChC.snoc {t : ByteArray} {i0 e0 : Nat} {pre : List (Nat × Nat)} {x : Nat × Nat} (h : ChC t i0 e0 pre) (h1 : endAt t clsL 93 (headAt (nxC t) i0 pre) (headE e0 pre) = none) (h2 : signP t clsL (headAt (nxC t) i0 pre) = (x.1, x.2, 0))
    (h3 : (highP t clsL x.1 x.2).2.2 = 0) (h4 : ¬ (highP t clsL x.1 x.2).1 < x.1) : ChC t i0 e0 (pre ++ [x]) :=
  ⟨h.1.snoc h1 h2, fun y hy => by
    rcases List.mem_append.1 hy with hy | hy
    · exact h.2 y hy
    · obtain rfl := List.mem_singleton.1 hy; exact ⟨h3, h4⟩⟩
theorem clss_at {t : ByteArray} {pre : List (Nat × Nat)} {i0 e0 : Nat} (hc : ChC t i0 e0 pre) (hl : pre.length ≤ t.size) :
    ∃ f, clss t (t.size + 1) BS.zero i0 e0 = clss t (f + 1) (setC t pre) (headAt (nxC t) i0 pre) (headE e0 pre) := by
  refine ⟨t.size - pre.length, ?_⟩
  rw [clss_chn pre (t.size + 1) BS.zero i0 e0 hc (by omega), show t.size + 1 - pre.length = t.size - pre.length + 1 by omega]
  rfl
theorem clss_end {t : ByteArray} {pre : List (Nat × Nat)} {i0 e0 i e : Nat} (hc : ChC t i0 e0 pre) (hl : pre.length ≤ t.size) (h : endAt t clsL 93 (headAt (nxC t) i0 pre) (headE e0 pre) = some (i, e)) :
    clss t (t.size + 1) BS.zero i0 e0 = (setC t pre, i, e) := by
  obtain ⟨f, hf⟩ := clss_at hc hl
  rw [hf]; unfold clss; rw [h]
theorem clss_high {t : ByteArray} {pre : List (Nat × Nat)} {x : Nat × Nat} {i0 e0 : Nat} (hc : ChC t i0 e0 pre) (hl : pre.length ≤ t.size) (h1 : endAt t clsL 93 (headAt (nxC t) i0 pre) (headE e0 pre) = none) (h2 : signP t clsL (headAt (nxC t) i0 pre) = (x.1, x.2, 0))
    (h3 : (highP t clsL x.1 x.2).2.2 ≠ 0) : clss t (t.size + 1) BS.zero i0 e0 = (setC t pre, (highP t clsL x.1 x.2).2) := by
  obtain ⟨f, hf⟩ := clss_at hc hl
  rw [hf]; unfold clss; rw [h1]
  simp only [h2]
  rw [if_pos h3]
theorem clss_less {t : ByteArray} {pre : List (Nat × Nat)} {x : Nat × Nat} {i0 e0 : Nat} (hc : ChC t i0 e0 pre) (hl : pre.length ≤ t.size) (h1 : endAt t clsL 93 (headAt (nxC t) i0 pre) (headE e0 pre) = none) (h2 : signP t clsL (headAt (nxC t) i0 pre) = (x.1, x.2, 0))
    (h3 : (highP t clsL x.1 x.2).2.2 = 0) (h4 : (highP t clsL x.1 x.2).1 < x.1) : clss t (t.size + 1) BS.zero i0 e0 = (setC t pre, headAt (nxC t) i0 pre, 4) := by
  obtain ⟨f, hf⟩ := clss_at hc hl
  rw [hf]; unfold clss; rw [h1]
  simp only [h2]
  rw [if_neg (by simp [h3]), if_pos h4]
theorem chn_leC {t : ByteArray} {i0 e0 : Nat} (pre : List (Nat × Nat)) (hc : Chn t clsL 93 (nxC t) i0 e0 pre) (h : i0 ≤ t.size) : headAt (nxC t) i0 pre ≤ t.size := by
  rcases List.eq_nil_or_concat pre with rfl | ⟨q, x, rfl⟩
  · exact h
  · rw [List.concat_eq_append] at hc ⊢
    rw [headAt_snoc]
    have ih : headAt (nxC t) i0 q ≤ t.size := chn_leC q (fun k hk => by
      have := hc k (by simp; omega)
      rwa [List.take_append_of_le_length (by omega), List.getElem_append_left hk] at this) h
    have h2 := (hc q.length (by simp)).2
    simp only [List.take_left, List.getElem_append_right (Nat.le_refl _), Nat.sub_self, List.getElem_cons_zero] at h2
    have h3 := @signP_le t clsL _ ih
    rw [h2] at h3
    exact (highP_le h3.1 h3.2.1).1
  termination_by pre.length
  decreasing_by simp_all
set_option maxRecDepth 100000 in
set_option maxHeartbeats 2000000 in
theorem unclass_any {t : ByteArray} {w : World} (ht : t.size ≤ 1000000) :
    Calls Tryd.prog 51 #[.string t] w (Ret (.tuple #[.agg (unclsP t).1.cells, .int .i64 ((unclsP t).2.1 : Int), .int .i64 ((unclsP t).2.2 : Int)]) w) := by
  obtain ⟨r, hr⟩ : ∃ r, r = unclsP t := ⟨_, rfl⟩
  rw [← hr]
  have HRR := Lib.hid hr
  clear hr
  obtain ⟨bp, hbp⟩ : ∃ bp, bp = beginP t 91 := ⟨_, rfl⟩
  have k1 := @begin_any t ⟨#[93, 45, 94]⟩ 91 93 (w.alloc (.cells BS.zero.cells 24)) (by omega) (by show 3 ≤ _; omega) (by omega) (by omega)
  rw [← hbp] at k1
  have hbpl : bp.1 ≤ t.size ∧ bp.1 ≤ 1 := by rw [hbp]; unfold beginP; split <;> (try split) <;> simp <;> (try omega); rename_i b hb _; exact (byteAt_256 hb).2
  have hbpe : bp.2 = 0 → bp.1 = 1 := by rw [hbp]; unfold beginP; split <;> (try split) <;> simp
  have HBP := Lib.hid hbp
  clear hbp
  obtain ⟨b1, b2⟩ := bp
  simp only at k1 hbpl hbpe
  refine (callsIn_wide (n := 3)).1 ?_
  refine callsIn_of_wp_marks Tryd.func51 rfl trivial ?_ rfl
  refine wpIn_wide.2 ?_
  simp only [Tryd.ntmps51, List.size_toArray, List.length_cons, List.length_nil, Nat.reduceAdd, Nat.reduceSub, Array.replicate_succ, Array.replicate_zero, List.push_toArray, List.append_toArray, List.nil_append, List.cons_append]
  go_upto_region 2 with (go_at_call 67; refine k1.mono ?_; rintro x w1 ⟨g, mb, rfl, hmb, hmg, hB1, hE1, hb1⟩)
  have hs1 := hB1.lt
  simp only [World.size_alloc] at hmb hb1
  obtain ⟨W2, hW2⟩ : ∃ W2, w1.alloc (.cells #[.pointer (some ⟨g, 0, none⟩)] 80) = W2 := ⟨_, rfl⟩
  obtain ⟨br, hbr⟩ : ∃ br, br = w1.heap.size := ⟨_, rfl⟩
  have hB2 : Blk W2 g 84 (rdr t ⟨#[93, 45, 94]⟩ 93 mb b1 b2) := by rw [← hW2]; exact hB1.alloc _
  have hE2 : EscAt W2 mb (ByteArray.mk #[93, 45, 94]).data.toList := by rw [← hW2]; exact World.ownsMap.alloc hE1 _
  have hR2 : Blk W2 br 80 #[.pointer (some ⟨g, 0, none⟩)] := by rw [← hW2, hbr]; exact Blk.new w1 80 _
  have hS2 : Blk W2 w.heap.size 24 BS.zero.cells := by rw [← hW2]; exact ((Blk.new w 24 BS.zero.cells).below hb1 (by omega)).alloc _
  have hb2 : Below w.heap.size w W2 := by rw [← hW2]; exact (((Below.refl _ w).alloc (Nat.le_refl _) _).trans (hb1.mono (by omega))).alloc (by omega) _
  rw [hW2, ← hbr]
  have hwl : w.heap.size < br := by rw [hbr]; have := hb1.size; simp at this; omega
  have hgbr : g < br := by rw [hbr]; exact hs1
  have hmbw : w.heap.size < mb := by omega
  have hsz2 : W2.heap.size = br + 1 := by rw [← hW2, hbr]; simp
  clear hW2 hbr hB1 hE1 hb1 k1 hs1
  have hl2 := hB2.lt
  have hlr2 := hR2.lt
  have cr := hR2.cell 0
  have cr' : W2.cell? ⟨br, 0, none⟩ = some (.pointer (some ⟨g, 0, none⟩)) := cr
  have c4 : W2.cell? ⟨g, 4, none⟩ = some (.int .i64 (b1 : Int)) := hB2.cell 4
  have c5 : W2.cell? ⟨g, 5, none⟩ = some (.int .i64 (b2 : Int)) := hB2.cell 5
  clear cr
  have hsplit : b2 ≠ 0 ∨ (b2 = 0 ∧ seesB t 1 94 = false) ∨ (b2 = 0 ∧ seesB t 1 94 = true) := by
    by_cases h : b2 = 0
    · cases hs : seesB t 1 94
      · exact .inr (.inl ⟨h, rfl⟩)
      · exact .inr (.inr ⟨h, rfl⟩)
    · exact .inl h
  rcases hsplit with hne | ⟨rfl, hsee⟩ | ⟨rfl, hsee⟩
  case' inl =>
    have d1 : ((b2 : Int) == 0) = false := by simp; omega
    have HV : Hid (∀ s i e, clss t (t.size + 1) BS.zero b1 b2 = (s, i, e) → r = if e ≠ 0 then (BS.zero, i, e) else (s, i + 1, 0)) := Lib.hid (fun s i e h => by
      have hb := HBP.out
      have hbt : false = ((beginP t 91).2 == 0 && seesB t (beginP t 91).1 94) := by rw [← hb]; simp [hne]
      rw [HRR.out, unclsP_of hbt (i0 := b1) (e0 := b2) (by rw [← hb]; rfl) (by rw [← hb]) h]; rfl)
    go_upto_region 5 with (fail)
    clear d1 hne hbpe HBP c4 c5 cr'
    have hi1 := hbpl.1
    obtain ⟨W4, hB5, hE4, hR4, hS4, hb4, hz4, hW4⟩ : ∃ W4, Blk W4 g 84 (rdr t ⟨#[93, 45, 94]⟩ 93 mb b1 b2) ∧ EscAt W4 mb (ByteArray.mk #[93, 45, 94]).data.toList ∧ Blk W4 br 80 #[.pointer (some ⟨g, 0, none⟩)] ∧ Blk W4 w.heap.size 24 BS.zero.cells ∧ Below w.heap.size w W4 ∧ br < W4.heap.size ∧ W2 = W4 := ⟨W2, hB2, hE2, hR2, hS2, hb2, hlr2, rfl⟩
    rw [hW4]
    clear hW4 hB2 hE2 hR2 hS2 hb2 hlr2 hl2 hsz2 hbpl
    obtain ⟨i0, e0, hi0, hB4, HU⟩ : ∃ i0 e0, i0 ≤ t.size ∧ Blk W4 g 84 (rdr t ⟨#[93, 45, 94]⟩ 93 mb i0 e0) ∧ Hid (∀ s i e, clss t (t.size + 1) BS.zero i0 e0 = (s, i, e) → r = if e ≠ 0 then (BS.zero, i, e) else (s, i + 1, 0)) := ⟨_, _, hi1, hB5, HV⟩
    clear hi1 hB5 HV
  case' inr.inl =>
    obtain rfl : b1 = 1 := hbpe rfl
    have HV : Hid (∀ s i e, clss t (t.size + 1) BS.zero 1 0 = (s, i, e) → r = if e ≠ 0 then (BS.zero, i, e) else (s, i + 1, 0)) := Lib.hid (fun s i e h => by
      have hb := HBP.out
      have hbt : false = ((beginP t 91).2 == 0 && seesB t (beginP t 91).1 94) := by rw [← hb]; simp [hsee]
      rw [HRR.out, unclsP_of hbt (i0 := 1) (e0 := 0) (by rw [← hb]; rfl) (by rw [← hb]) h]; rfl)
    have k68 := @sees_any t ⟨#[93, 45, 94]⟩ 93 mb 1 0 g 94 W2 (by omega) hB2
    rw [hsee] at k68
    have c5' : W2.cell? ⟨g, 5, none⟩ = some (.int .i64 0) := c5
    clear c5
    go_upto_region 5 with (go_at_call 68; refine k68.mono ?_; rintro x W4 ⟨rfl, hw3⟩)
    have hB5 := hB2.lies hw3
    have hE4 := hE2.lies hw3
    have hR4 := hR2.lies hw3
    have hS4 := hS2.lies hw3
    have hb4 := Lies.below hw3 hb2.size hb2
    have hz4 := hR4.lt
    have hi1 := hbpl.1
    clear c5' k68 hbpe HBP c4 cr' hB2 hE2 hR2 hS2 hb2 hlr2 hl2 hsz2 hbpl hw3 hsee
    obtain ⟨i0, e0, hi0, hB4, HU⟩ : ∃ i0 e0, i0 ≤ t.size ∧ Blk W4 g 84 (rdr t ⟨#[93, 45, 94]⟩ 93 mb i0 e0) ∧ Hid (∀ s i e, clss t (t.size + 1) BS.zero i0 e0 = (s, i, e) → r = if e ≠ 0 then (BS.zero, i, e) else (s, i + 1, 0)) := ⟨_, _, hi1, hB5, HV⟩
    clear hi1 hB5 HV
  case' inr.inr =>
    obtain rfl : b1 = 1 := hbpe rfl
    have HV : Hid (∀ s i e, clss t (t.size + 1) BS.zero 2 0 = (s, i, e) → r = if e ≠ 0 then (BS.zero, i, e) else (s.not, i + 1, 0)) := Lib.hid (fun s i e h => by
      have hb := HBP.out
      have hbt : true = ((beginP t 91).2 == 0 && seesB t (beginP t 91).1 94) := by rw [← hb]; simp [hsee]
      rw [HRR.out, unclsP_of hbt (i0 := 2) (e0 := 0) (by rw [← hb]; rfl) (by rw [← hb]) h]; rfl)
    have hi1 : 2 ≤ t.size := by
      unfold seesB at hsee
      rw [beq_iff_eq] at hsee
      exact (byteAt_256 hsee).2
    have k68 := @sees_any t ⟨#[93, 45, 94]⟩ 93 mb 1 0 g 94 W2 (by omega) hB2
    rw [hsee] at k68
    have c5' : W2.cell? ⟨g, 5, none⟩ = some (.int .i64 0) := c5
    clear c5
    go_upto_region 4 with (go_at_call 68; refine k68.mono ?_; rintro x w3 ⟨rfl, hw3⟩)
    have hB3 := hB2.lies hw3
    have hE3 := hE2.lies hw3
    have hR3 := hR2.lies hw3
    have hS3 := hS2.lies hw3
    have hb3 := Lies.below hw3 hb2.size hb2
    have hz3 := hR3.lt
    clear c5' k68 hbpe HBP c4 cr' hB2 hE2 hR2 hS2 hb2 hlr2 hl2 hsz2 hbpl hw3 hsee
    have cr' : w3.cell? ⟨br, 0, none⟩ = some (.pointer (some ⟨g, 0, none⟩)) := hR3.cell 0
    have c4 : w3.cell? ⟨g, 4, none⟩ = some (.int .i64 1) := hB3.cell 4
    have f4 := hB3.free 4
    go_upto_region 5 with (fail)
    obtain ⟨W4, hW4⟩ : ∃ W4, w3.setCell ⟨g, 4, none⟩ (.int .i64 2) = W4 := ⟨_, rfl⟩
    have hB5 : Blk W4 g 84 (rdr t ⟨#[93, 45, 94]⟩ 93 mb 2 0) := by rw [← hW4]; exact hB3.set 4 (.int .i64 2)
    have hg4 : w3.grownBy W4 (some g) := by rw [← hW4]; exact grownBy_setCell _ _ _ _
    have hE4 := hE3.grown hg4 (by omega)
    have hR4 := hR3.grown hg4 (by simp; omega)
    have hS4 := hS3.grown hg4 (by simp; omega)
    have hb4 := below_grown hb3 hg4 (by omega) hb3.size
    have hz4 := hR4.lt
    rw [hW4]
    clear hW4 cr' c4 f4 hB3 hE3 hR3 hS3 hb3 hz3 hg4
    obtain ⟨i0, e0, hi0, hB4, HU⟩ : ∃ i0 e0, i0 ≤ t.size ∧ Blk W4 g 84 (rdr t ⟨#[93, 45, 94]⟩ 93 mb i0 e0) ∧ Hid (∀ s i e, clss t (t.size + 1) BS.zero i0 e0 = (s, i, e) → r = if e ≠ 0 then (BS.zero, i, e) else (s.not, i + 1, 0)) := ⟨_, _, hi1, hB5, HV⟩
    clear hi1 hB5 HV
  all_goals
    have cr4 : W4.cell? ⟨br, 0, none⟩ = some (.pointer (some ⟨g, 0, none⟩)) := hR4.cell 0
    have c44 : W4.cell? ⟨g, 4, none⟩ = some (.int .i64 (i0 : Int)) := hB4.cell 4
    have hl4 := hB4.lt
    go_wp2_with (go_at_call 69; refine (signs_any _ _).mono ?_; rintro x w5 ⟨rfl, rfl⟩)
    obtain ⟨bf, hbf⟩ : ∃ bf, bf = W4.heap.size := ⟨_, rfl⟩
    obtain ⟨W0, hW0⟩ : ∃ W0, ((W4.alloc (Obj.cells #[Value.int IntKind.i64 (i0 : Int)] 3)).alloc (Obj.cells #[Value.pointer (some { block := g, off := 0 })] 80)) = W0 := ⟨_, rfl⟩
    have hF0 : Blk W0 bf 3 #[.int .i64 (i0 : Int)] := by rw [← hW0, hbf]; exact (Blk.new W4 3 _).alloc _
    have hx0 : Blk W0 (bf + 1) 80 #[.pointer (some ⟨g, 0, none⟩)] := by rw [← hW0, hbf]; have := Blk.new (W4.alloc (Obj.cells #[Value.int IntKind.i64 (i0 : Int)] 3)) 80 #[.pointer (some ⟨g, 0, none⟩)]; rwa [World.size_alloc] at this
    have hRD0 : RD g mb (bf + 1) t ⟨#[93, 45, 94]⟩ 93 i0 e0 W0 := ⟨by rw [← hW0]; exact (hB4.alloc _).alloc _, by rw [← hW0]; exact World.ownsMap.alloc (World.ownsMap.alloc hE4 _) _, hx0⟩
    have hR0 : Blk W0 br 80 #[.pointer (some ⟨g, 0, none⟩)] := by rw [← hW0]; exact (hR4.alloc _).alloc _
    have hS0 : Blk W0 w.heap.size 24 BS.zero.cells := by rw [← hW0]; exact (hS4.alloc _).alloc _
    have hb0 : Below w.heap.size w W0 := by rw [← hW0]; exact (hb4.alloc hb4.size _).alloc (by have := hb4.size; simp; omega) _
    have hsz0 : W0.heap.size = bf + 2 := by rw [← hW0, hbf]; simp
    have hbrf : br < bf := by omega
    rw [hW0]
    try rw [← hbf]
    clear hW0 hbf hx0 hB4 hE4 hR4 hS4 hb4 hz4 cr4 c44 hl4
    refine (wpIn_wide (n := 3)).1 ?_
    refine wpIn_rangeFunc_rd (gr := g) rfl (by omega) (gf := 82) (lb := #[.pointer (some ⟨bf + 1, 0, none⟩)]) rfl trivial (enters_of Tryd.func82 (by kernel_rfl) rfl) (by omega)
      (signs_seq 2 (by omega) (nxC t) (mb := mb) (bx := bf + 1) (en := 93) (i0 := i0) (e0 := e0) (t := t) (L := ⟨#[93, 45, 94]⟩) (by omega) (by show 3 ≤ _; omega) (by omega) (by omega) (by omega) (fun x h => nxC_ge x h)) (fun _ => rfl)
      (fun pre W => (Blk W w.heap.size 24 (setC t pre).cells ∧ Blk W br 80 #[.pointer (some ⟨g, 0, none⟩)] ∧ Blk W bf 3 #[.int .i64 (headAt (nxC t) i0 pre : Int)] ∧ Hid (ChC t i0 e0 pre)) ∧ Below w.heap.size w W)
      (fun c pre W => (c = .exit 0 ∧ ∃ s j e, Blk W w.heap.size 24 (BS.cells s) ∧ Blk W br 80 #[.pointer (some ⟨g, 0, none⟩)] ∧ Blk W g 84 (rdr t ⟨#[93, 45, 94]⟩ 93 mb j e) ∧ e ≠ 0 ∧ Hid (r = (BS.zero, j, e))) ∧ Below w.heap.size w W)
      ?hU ?hUg ?hUx ?hR ?hR1 ?hE ⟨⟨hS0, hR0, hF0, Lib.hid ChC.nil⟩, hb0⟩ ?hR0 ?_ ?assign ?body ?done ?stop
    case assign =>
      intro l x W K hK
      gi_wp2
      exact hK
    case hU =>
      refine OwnFrom.and (fun s A B row hs hg' hr => ?_) (ownFrom_below (Nat.le_refl _) (by omega))
      have hn : ∀ k, k < W0.heap.size → some k ≠ row := fun k hk e => by have := (hr k e.symm).1; omega
      exact ⟨hs.1.grown hg' (hn _ (by omega)), hs.2.1.grown hg' (hn _ (by omega)), hs.2.2.1.grown hg' (hn _ (by omega)), hs.2.2.2⟩
    case hUg =>
      intro s A B hs hg'
      exact ⟨⟨hs.1.1.grown hg' (by simp; omega), hs.1.2.1.grown hg' (by simp; omega), hs.1.2.2.1.grown hg' (by simp; omega), hs.1.2.2.2⟩, below_grown hs.2 hg' (by omega) hs.2.size⟩
    case hUx =>
      intro c
      refine OwnFrom.and (fun s A B row hs hg' hr => ?_) (ownFrom_below (Nat.le_refl _) (by omega))
      have hn : ∀ k, k < W0.heap.size → some k ≠ row := fun k hk e => by have := (hr k e.symm).1; omega
      obtain ⟨h0, s', j, e, h1, h2, h3, h4⟩ := hs
      exact ⟨h0, s', j, e, h1.grown hg' (hn _ (by omega)), h2.grown hg' (hn _ (by omega)), h3.grown hg' (hn _ (by omega)), h4⟩
    case hR0 => exact ⟨by simpa [headAt, headE] using hRD0, by simpa [headAt] using hi0, by simp⟩
    case hR => exact RD.own (fun pre => headAt (nxC t) i0 pre) (fun pre => headE e0 pre) (fun pre => headAt (nxC t) i0 pre ≤ t.size ∧ pre.length ≤ headAt (nxC t) i0 pre) (by omega) (by omega) (by omega)
    case hR1 => exact RD.own (fun p : List (Nat × Nat) × (Nat × Nat) => p.2.2) (fun _ => 0) (fun p => endAt t clsL 93 (headAt (nxC t) i0 p.1) (headE e0 p.1) = none ∧ signP t clsL (headAt (nxC t) i0 p.1) = (p.2.1, p.2.2, 0) ∧ p.2.2 ≤ t.size ∧ p.1.length < p.2.2) (by omega) (by omega) (by omega)
    case hE =>
      rintro s A B row ⟨i, e, h1, h2, h3⟩ hg' hr
      exact ⟨i, e, h1, h2.kept hg' (fun r e => (hr r e).1) (by omega) (by omega) (by omega), h3⟩
    case body =>
      rintro l pre x W ⟨⟨hS, hR, hF, hch⟩, hB⟩ ⟨hRD, hend, hsg, hle, hpl⟩
      have hend' : endAt t clsL 93 (headAt (nxC t) i0 pre) (headE e0 pre) = none := hend
      have hsg' : signP t clsL (headAt (nxC t) i0 pre) = (x.1, x.2, 0) := hsg
      have hhd : headAt (nxC t) i0 pre ≤ t.size := chn_leC pre hch.out.1 hi0
      have hx1 : x.1 < 256 := by have := (@signP_le t clsL _ hhd).2.1; rw [hsg'] at this; exact this
      have hhl := @highP_le t clsL x.1 x.2 hle hx1
      have k70 := @high_rd t ⟨#[93, 45, 94]⟩ 93 mb x.2 g x.1 W (by omega) hle (by show 3 ≤ _; omega) hRD.1 hRD.2.1 (by omega)
      rw [show (ByteArray.mk #[93, 45, 94]).data.toList = clsL from rfl] at k70
      have hnx : nxC t x = (highP t clsL x.1 x.2).2.1 := rfl
      have hcn := fun h3 h4 => hch.out.snoc hend' hsg' h3 h4
      have u1 := fun h3 => HU.out _ _ _ (clss_high hch.out (by omega) hend' hsg' h3)
      have u2 := fun h3 h4 => HU.out _ _ _ (clss_less hch.out (by omega) hend' hsg' h3 h4)
      have hsc := setC_snoc t pre x
      have hnxle := nxC_ge x hle
      obtain ⟨q, hq⟩ : ∃ q, q = highP t clsL x.1 x.2 := ⟨_, rfl⟩
      rw [← hq] at hhl k70 hnx hcn u1 u2 hsc
      obtain ⟨hi, j, e2⟩ := q
      simp only at hhl k70 hnx hcn u1 u2 hsc
      obtain ⟨hj, hhi, hxj⟩ := hhl
      have HCN := Lib.hid hcn
      have U1 := Lib.hid u1
      have U2 := Lib.hid u2
      have HSC := Lib.hid hsc
      have HNX := Lib.hid hnx
      have cr : W.cell? ⟨br, 0, none⟩ = some (.pointer (some ⟨g, 0, none⟩)) := hR.cell 0
      have hlr := hR.lt
      have hlw := hB.size
      clear hcn u1 u2 hsc hnx hend hend' hsg hsg' hch hq hhd
      by_cases he2 : e2 = 0
      case neg =>
        have d2 : (e2 == 0) = false := by simpa using he2
        gi_wp2_with (refine ⟨trivial, ?_⟩; gi_at_call 70; refine (CallsIn.inRound l (callsIn_wide.2 k70)).mono ?_; rintro x3 W3 ⟨rfl, hB3, hg3⟩)
        refine ⟨KeepsFrom.of_grownBy hg3 (by rintro _ ⟨⟩; omega), ⟨rfl, _, j, e2, hS.grown hg3 (by simp; omega), hR.grown hg3 (by simp; omega), hB3, he2, Lib.hid (by rw [U1.out he2, if_pos he2])⟩, below_grown hB hg3 (by omega) hB.size⟩
      subst he2
      have k70' : Calls Tryd.prog 70 #[.pointer (some ⟨g, 0, none⟩), .int .u8 (x.1 : Int)] W fun e w' => e = .returned (.tuple #[.int .u8 (hi : Int), .bool true]) ∧ Blk w' g 84 (rdr t ⟨#[93, 45, 94]⟩ 93 mb j 0) ∧ W.grownBy w' (some g) := k70
      clear k70
      by_cases hlow : hi < x.1
      · have d3 : decide (hi < x.1) = true := decide_eq_true hlow
        gi_wp2_with (first
          | (refine ⟨trivial, ?_⟩; gi_at_call 70; refine (CallsIn.inRound l (callsIn_wide.2 k70')).mono ?_; rintro x3 W3 ⟨rfl, hB3, hg3⟩; have hR3 := hR.grown hg3 (by simp; omega); have hF3 := hF.grown hg3 (by simp; omega); have cr3 : W3.cell? ⟨br, 0, none⟩ = some (.pointer (some ⟨g, 0, none⟩)) := hR3.cell 0; have cf3 : W3.cell? ⟨bf, 0, none⟩ = some (.int .i64 (headAt (nxC t) i0 pre : Int)) := hF3.cell 0; have hlr3 := hR3.lt; have hlf3 := hF3.lt; have k71 := @fail_any t ⟨#[93, 45, 94]⟩ 93 mb j 0 g (headAt (nxC t) i0 pre) W3 hB3)
          | (refine ⟨trivial, ?_⟩; gi_at_call 71; refine (CallsIn.inRound l (callsIn_wide.2 k71)).mono ?_; rintro x4 W4' ⟨rfl, hB4', hg4⟩))
        refine ⟨(KeepsFrom.of_grownBy hg3 (by rintro _ ⟨⟩; omega)).trans (KeepsFrom.of_grownBy hg4 (by rintro _ ⟨⟩; omega)), ⟨rfl, _, headAt (nxC t) i0 pre, 4, (hS.grown hg3 (by simp; omega)).grown hg4 (by simp; omega), hR3.grown hg4 (by simp; omega), hB4', by omega, Lib.hid (by rw [U2.out (by trivial) hlow, if_pos (by omega)])⟩, below_grown (below_grown hB hg3 (by omega) hB.size) hg4 (by omega) (Nat.le_trans hB.size hg3.size)⟩
      have d3 : decide (hi < x.1) = false := decide_eq_false hlow
      gi_wp2_with (refine ⟨trivial, ?_⟩; gi_at_call 70; refine (CallsIn.inRound l (callsIn_wide.2 k70')).mono ?_; rintro x3 W3 ⟨rfl, hB3, hg3⟩)
      have hS3 := hS.grown hg3 (by simp; omega)
      have hR3 := hR.grown hg3 (by simp; omega)
      have hF3 := hF.grown hg3 (by simp; omega)
      have hE3 := hRD.2.1.grown hg3 (by omega)
      have hx3 := hRD.2.2.grown hg3 (by simp; omega)
      have hb3 := below_grown hB hg3 (by omega) hB.size
      have hcS := hS3.cell
      have hlS := hS3.lt
      have kf3 := KeepsFrom.of_grownBy (B := W0.heap.size) hg3 (by rintro _ ⟨⟩; omega)
      clear hS hR hF hRD hB hg3 cr k70' hlr hlw
      (refine wpIn_round_quiet_tail (C := Lies _) 5 (by kernel_rfl) (by kernel_rfl) (by kernel_rfl) (fun hL_ => by obtain ⟨_, _, hL_⟩ := hL_; exact hL_) (Lies.drew (Lies.start _)) ?_; simp only [List.take_succ_cons, List.take_zero, List.take_nil, List.drop_succ_cons, List.drop_zero, List.drop_nil]; (repeat (first | (have hX_ : True := trivial; refine quiet_skip ?_ ?_; (focus exact wanted_no rfl rfl rfl); clear hX_; simp only [Act.put, List.setIfInBounds_toArray, List.set_cons_zero, List.set_cons_succ]) | (apply quiet_op _ rfl; (focus (intro w1 hw1; have hc1 := hw1.cells; go_simp; (try go_bits); (try (rw [if_pos (by omega)]; go_simp)); first | (go_at_call 20; with_reducible exact Calls.lies hw1 (range_any x.1 hi _ hx1 hhi)) | (go_at_call 29; with_reducible exact Calls.lies hw1 (or_any (setC t pre) (BS.range x.1 hi) _)) | (go_at_call 20; exact Calls.lies hw1 (range_any x.1 hi _ hx1 hhi)) | (go_at_call 29; exact Calls.lies hw1 (or_any (setC t pre) (BS.range x.1 hi) _)) | rfl)); simp only [Act.put, List.setIfInBounds_toArray, List.set_cons_zero, List.set_cons_succ]))); refine wpQuiet_nil ?_; intro w4 hw4)
      have hS4 := hS3.lies hw4
      have hR4 := hR3.lies hw4
      have hF4 := hF3.lies hw4
      have hB4 := hB3.lies hw4
      have hE4 := hE3.lies hw4
      have hx4 := hx3.lies hw4
      have hb4 := Lies.below hw4 hb3.size hb3
      have kf4 := kf3.trans (KeepsFrom.of_grownBy (B := W0.heap.size) (grown_lies hw4 none) (by rintro _ ⟨⟩))
      clear hS3 hR3 hF3 hB3 hE3 hx3 hb3 kf3 hw4 hcS hlS
      refine wpList_store_set rfl 24 (.tmp 2) (.tmp 55) rfl _ rfl _ rfl (by kernel_rfl) hS4 ?_
      intro w5 hS5 hg5 hz5
      have hR5 := hR4.grown hg5 (by simp; omega)
      have hF5 := hF4.grown hg5 (by simp; omega)
      have hB5 := hB4.grown hg5 (by simp; omega)
      have hE5 := hE4.kept hg5 (by simp; omega)
      have hx5 := hx4.grown hg5 (by simp; omega)
      have hb5 := below_grown hb4 hg5 (Nat.le_refl _) hb4.size
      have kf5 := kf4.trans (KeepsFrom.of_grownBy (B := W0.heap.size) hg5 (by rintro _ ⟨⟩; omega))
      clear hS4 hR4 hF4 hB4 hE4 hx4 hb4 kf4 hg5
      have cr5 : w5.cell? ⟨br, 0, none⟩ = some (.pointer (some ⟨g, 0, none⟩)) := hR5.cell 0
      have c45 : w5.cell? ⟨g, 4, none⟩ = some (.int .i64 (j : Int)) := hB5.cell 4
      have cf5 := hF5.cell
      have ff5 := hF5.free
      have hlr5 := hR5.lt
      have hlg5 := hB5.lt
      have hlf5 := hF5.lt
      have hw5s := hb5.size
      refine wpList_nil ?_
      gi_wp2
      obtain ⟨W6, hW6⟩ : ∃ W6, w5.setCell ⟨bf, 0, none⟩ (.int .i64 (j : Int)) = W6 := ⟨_, rfl⟩
      have hF6 : Blk W6 bf 3 #[.int .i64 (j : Int)] := by rw [← hW6]; exact hF5.set 0 _
      have hg6 : w5.grownBy W6 (some bf) := by rw [← hW6]; exact grownBy_setCell _ _ _ _
      have hS6 := hS5.grown hg6 (by simp; omega)
      have hR6 := hR5.grown hg6 (by simp; omega)
      have hB6 := hB5.grown hg6 (by simp; omega)
      have hE6 := hE5.kept hg6 (by simp; omega)
      have hx6 := hx5.grown hg6 (by simp)
      have hb6 := below_grown hb5 hg6 (by omega) hb5.size
      have kf6 := kf5.trans (KeepsFrom.of_grownBy (B := W0.heap.size) hg6 (by rintro _ ⟨⟩; omega))
      rw [hW6]
      rw [hsz0] at kf6
      refine ⟨kf6, trivial, ⟨⟨by rw [HSC.out]; exact hS6, hR6, by rw [headAt_snoc, HNX.out]; exact hF6, Lib.hid (HCN.out (by trivial) hlow)⟩, hb6⟩, ?_, ?_, ?_⟩
      · rw [headAt_snoc, headE_snoc, HNX.out]
        exact ⟨hB6, hE6, hx6⟩
      · rw [headAt_snoc, HNX.out]; exact hj
      · rw [headAt_snoc, List.length_append, HNX.out]; simp; omega
    case done =>
      rintro D pre W hD ⟨⟨hS, hR, hF, hch⟩, hB⟩ ⟨i, e, hend, hRD, hpl⟩ hKD
      have hu := HU.out _ _ _ (clss_end hch.out hpl hend)
      have HUU := Lib.hid hu
      have hile : i ≤ t.size := endAt_le hend (chn_leC pre hch.out.1 hi0)
      clear hu hend
      have hBk := hRD.1
      have hl1 := hBk.lt
      have hlr := hR.lt
      have hlS := hS.lt
      have cr : W.cell? ⟨br, 0, none⟩ = some (.pointer (some ⟨g, 0, none⟩)) := hR.cell 0
      have c4 : W.cell? ⟨g, 4, none⟩ = some (.int .i64 (i : Int)) := hBk.cell 4
      have c5 : W.cell? ⟨g, 5, none⟩ = some (.int .i64 (e : Int)) := hBk.cell 5
      have hDl := (Array.getElem?_eq_some_iff.1 hKD).1
      have hcS := hS.cell
      by_cases he : e = 0
      case neg =>
        obtain rfl : r = (BS.zero, i, e) := by rw [HUU.out, if_pos he]
        clear HRR HU HUU
        have d1 : ((e : Int) != 0) = true := by simp; omega
        clear he
        go_wp2
        have hnb : br ≠ w.heap.size := by omega
        have hng : g ≠ w.heap.size := by omega
        (refine wp_region_lay (id := 15) (C := GrwE W w.heap.size 24) [(true, 0), (true, 1), (true, 2), (true, 3), (true, 4), (true, 5), (true, 6), (true, 7), (true, 8), (false, 9), (true, 10), (true, 11)] (by kernel_rfl) (by kernel_rfl) (GrwE.start hS).drew ?_; simp only [layOps, List.filterMap_cons, List.filterMap_nil, List.getElem?_cons_succ, List.getElem?_cons_zero, Option.map_some, List.append_eq, List.cons_append, List.nil_append]; (repeat (first | (have hX_ : True := trivial; refine lay_skip ?_ ?_; (focus exact wanted_no rfl rfl rfl); clear hX_; simp only [Act.put, List.setIfInBounds_toArray, List.set_cons_zero, List.set_cons_succ]) | (apply lay_free _ rfl; (focus (intro C1 hs1 w1 hw0; have hw1 := hs1 _ hw0; have hc1 := hw1.cells; go_simp; (try go_bits); (try (rw [if_pos (by omega)]; go_simp)); first | rfl)); simp only [Act.put, List.setIfInBounds_toArray, List.set_cons_zero, List.set_cons_succ]) | (apply lay_quiet _ rfl; (focus (intro w1 hw1; have hc1 := hw1.cells; go_simp; (try go_bits); (try (rw [if_pos (by omega)]; go_simp)); first | rfl)); simp only [Act.put, List.setIfInBounds_toArray, List.set_cons_zero, List.set_cons_succ]) | (refine lay_loud rfl ?_; intro K hK w1 hw1; have hc1 := hw1.cells; go_simp; obtain ⟨s1, hb1⟩ := hw1.2; refine loud_store_set 24 (.tmp 2) (.tmp 65) rfl w.heap.size rfl BS.zero rfl (by kernel_rfl) hb1 ?_; intro w3 hS3 hg3 hz3; refine ⟨GrwB W w.heap.size 24 BS.zero.cells, ⟨hw1.1.more hg3, hS3⟩, fun _ h => GrwE.of h, ?_⟩; (try simp only [Act.put, List.setIfInBounds_toArray, List.set_cons_zero, List.set_cons_succ]); apply hK))); refine lay_nil ?_; intro w5 hw5)
        have hS5 := hw5.2
        have hg5 : W.grownBy w5 (some w.heap.size) := hw5.1
        have hK5 : w5.heap[D]? = some (.deferred (some [])) := (hg5.block D hDl (by simp; omega)).trans hKD
        have hSP : Blk (w5.putObj D (.deferred none)) w.heap.size 24 BS.zero.cells := (World.putObj_heap_other (by omega)).trans hS5
        have hcs := hSP.cell
        have hB5 := below_grown hB hg5 (Nat.le_refl _) hB.size
        go_wp2
        refine ⟨by simp, .inl ⟨_, _, rfl, run_takeDeferred hK5, ?_⟩⟩
        exact ⟨.tuple #[.agg BS.zero.cells, .int .i64 (i : Int), .int .i64 (e : Int)], by simp [results, Tryd.results51, go_sem, hcs], rfl, hB5.trans (belowK_b (w := w) (Nat.le_refl _) w5 D _ _ (by omega) hK5 rfl rfl)⟩
      subst he
      obtain rfl : r = (_, i + 1, 0) := by rw [HUU.out, if_neg (by omega)]
      have c5' : W.cell? ⟨g, 5, none⟩ = some (.int .i64 0) := c5
      clear c5 HRR HU HUU
      have hnb : br ≠ w.heap.size := by omega
      have hng : g ≠ w.heap.size := by omega
      first
      | (go_wp2
         (refine wp_region_lay (id := 18) (C := GrwB W w.heap.size 24 (setC t pre).cells) [(true, 0), (true, 1), (true, 2), (true, 3), (true, 4), (true, 5), (false, 6), (true, 7), (true, 8)] (by kernel_rfl) (by kernel_rfl) (GrwB.start hS).drew ?_; simp only [layOps, List.filterMap_cons, List.filterMap_nil, List.getElem?_cons_succ, List.getElem?_cons_zero, Option.map_some, List.append_eq, List.cons_append, List.nil_append]; (repeat (first | (have hX_ : True := trivial; refine lay_skip ?_ ?_; (focus exact wanted_no rfl rfl rfl); clear hX_; simp only [Act.put, List.setIfInBounds_toArray, List.set_cons_zero, List.set_cons_succ]) | (apply lay_free _ rfl; (focus (intro C1 hs1 w1 hw0; have hw1 := hs1 _ hw0; have hc1 := hw1.cells; go_simp; (try go_bits); (try (rw [if_pos (by omega)]; go_simp)); first | (have hck := hw1.2.cell; go_simp; rfl) | rfl)); simp only [Act.put, List.setIfInBounds_toArray, List.set_cons_zero, List.set_cons_succ]) | (apply lay_quiet _ rfl; (focus (intro w1 hw1; have hc1 := hw1.cells; go_simp; (try go_bits); (try (rw [if_pos (by omega)]; go_simp)); first | (have hck := hw1.2.cell; go_simp; rfl) | rfl)); simp only [Act.put, List.setIfInBounds_toArray, List.set_cons_zero, List.set_cons_succ]) | (refine lay_loud rfl ?_; intro K hK w1 hw1; have hc1 := hw1.cells; go_simp; refine loud_store_set 24 (.tmp 2) (.tmp 77) rfl w.heap.size rfl (setC t pre) rfl (by kernel_rfl) hw1.2 ?_; intro wz hSz hgz hzz; refine ⟨GrwB W w.heap.size 24 (setC t pre).cells, ⟨hw1.1.more hgz, hSz⟩, fun _ h => h, ?_⟩; (try simp only [Act.put, List.setIfInBounds_toArray, List.set_cons_zero, List.set_cons_succ]); apply hK))); refine lay_nil ?_; intro w5 hw5)
         have hS5 := hw5.2
         have hg5 : World.grownBy W w5 (some w.heap.size) := hw5.1
         have hK5 : w5.heap[D]? = some (.deferred (some [])) := (hg5.block D (Array.getElem?_eq_some_iff.1 hKD).1 (by simp; omega)).trans hKD
         have hSP : Blk (w5.putObj D (.deferred none)) w.heap.size 24 (setC t pre).cells := (World.putObj_heap_other (by omega)).trans hS5
         have hcs := hSP.cell
         have hB5 := below_grown hB hg5 (Nat.le_refl _) hB.size
         go_wp2
         refine ⟨by simp, .inl ⟨_, _, rfl, run_takeDeferred hK5, ?_⟩⟩
         exact ⟨.tuple #[.agg (setC t pre).cells, .int .i64 ((i : Int) + 1), .int .i64 0], by simp [results, Tryd.results51, go_sem, hcs], rfl, hB5.trans (belowK_b (w := w) (Nat.le_refl _) w5 D _ _ (by omega) hK5 rfl rfl)⟩)
      | (go_wp2_with (first | (go_at_call 30; refine (not_any (setC t pre) _).mono ?_; rintro x2 w2 ⟨rfl, hw2⟩; have hS2 := hS.lies hw2; have hR2 := hR.lies hw2; have hBk2 := hBk.lies hw2; have hB2 := Lies.below hw2 hB.size hB; have hK2 : w2.heap[D]? = some (.deferred (some [])) := (hw2.block D hDl).trans hKD; clear hw2) | (refine wpList_store_set rfl 24 (.tmp 2) (.tmp 76) rfl _ rfl _ rfl (by kernel_rfl) hS2 ?_; intro w6 hS6 hg6 hz6))
         have hR6 := hR2.grown hg6 (by simp; omega)
         have hBk6 := hBk2.grown hg6 (by simp; omega)
         have hB6 := below_grown hB2 hg6 (Nat.le_refl _) hB2.size
         have hK6 : w6.heap[D]? = some (.deferred (some [])) := (hg6.block D (Array.getElem?_eq_some_iff.1 hK2).1 (by simp; omega)).trans hK2
         clear cr c4 c5' hlr hl1 hlS hcS hS2 hR2 hBk2 hB2 hK2 hg6 hz6
         have hl1 := hBk6.lt
         have hlr := hR6.lt
         have cr : w6.cell? ⟨br, 0, none⟩ = some (.pointer (some ⟨g, 0, none⟩)) := hR6.cell 0
         have c4 : w6.cell? ⟨g, 4, none⟩ = some (.int .i64 (i : Int)) := hBk6.cell 4
         have c5 : w6.cell? ⟨g, 5, none⟩ = some (.int .i64 0) := hBk6.cell 5
         go_wp2
         (refine wp_region_lay (id := 18) (C := GrwB w6 w.heap.size 24 ((setC t pre).not).cells) [(true, 0), (true, 1), (true, 2), (true, 3), (true, 4), (true, 5), (false, 6), (true, 7), (true, 8)] (by kernel_rfl) (by kernel_rfl) (GrwB.start hS6).drew ?_; simp only [layOps, List.filterMap_cons, List.filterMap_nil, List.getElem?_cons_succ, List.getElem?_cons_zero, Option.map_some, List.append_eq, List.cons_append, List.nil_append]; (repeat (first | (have hX_ : True := trivial; refine lay_skip ?_ ?_; (focus exact wanted_no rfl rfl rfl); clear hX_; simp only [Act.put, List.setIfInBounds_toArray, List.set_cons_zero, List.set_cons_succ]) | (apply lay_free _ rfl; (focus (intro C1 hs1 w1 hw0; have hw1 := hs1 _ hw0; have hc1 := hw1.cells; go_simp; (try go_bits); (try (rw [if_pos (by omega)]; go_simp)); first | (have hck := hw1.2.cell; go_simp; rfl) | rfl)); simp only [Act.put, List.setIfInBounds_toArray, List.set_cons_zero, List.set_cons_succ]) | (apply lay_quiet _ rfl; (focus (intro w1 hw1; have hc1 := hw1.cells; go_simp; (try go_bits); (try (rw [if_pos (by omega)]; go_simp)); first | (have hck := hw1.2.cell; go_simp; rfl) | rfl)); simp only [Act.put, List.setIfInBounds_toArray, List.set_cons_zero, List.set_cons_succ]) | (refine lay_loud rfl ?_; intro K hK w1 hw1; have hc1 := hw1.cells; go_simp; refine loud_store_set 24 (.tmp 2) (.tmp 77) rfl w.heap.size rfl ((setC t pre).not) rfl (by kernel_rfl) hw1.2 ?_; intro wz hSz hgz hzz; refine ⟨GrwB w6 w.heap.size 24 ((setC t pre).not).cells, ⟨hw1.1.more hgz, hSz⟩, fun _ h => h, ?_⟩; (try simp only [Act.put, List.setIfInBounds_toArray, List.set_cons_zero, List.set_cons_succ]); apply hK))); refine lay_nil ?_; intro w5 hw5)
         have hS5 := hw5.2
         have hg5 : World.grownBy w6 w5 (some w.heap.size) := hw5.1
         have hK5 : w5.heap[D]? = some (.deferred (some [])) := (hg5.block D (Array.getElem?_eq_some_iff.1 hK6).1 (by simp; omega)).trans hK6
         have hSP : Blk (w5.putObj D (.deferred none)) w.heap.size 24 ((setC t pre).not).cells := (World.putObj_heap_other (by omega)).trans hS5
         have hcs := hSP.cell
         have hB5 := below_grown hB6 hg5 (Nat.le_refl _) hB6.size
         go_wp2
         refine ⟨by simp, .inl ⟨_, _, rfl, run_takeDeferred hK5, ?_⟩⟩
         exact ⟨.tuple #[.agg ((setC t pre).not).cells, .int .i64 ((i : Int) + 1), .int .i64 0], by simp [results, Tryd.results51, go_sem, hcs], rfl, hB5.trans (belowK_b (w := w) (Nat.le_refl _) w5 D _ _ (by omega) hK5 rfl rfl)⟩)
    case stop =>
      rintro D c pre W hD ⟨⟨rfl, s, i, e, hS, hR, hBk, he, HRr⟩, hB⟩ hKD
      have hl1 := hBk.lt
      have hlr := hR.lt
      have hlS := hS.lt
      have cr : W.cell? ⟨br, 0, none⟩ = some (.pointer (some ⟨g, 0, none⟩)) := hR.cell 0
      have c4 : W.cell? ⟨g, 4, none⟩ = some (.int .i64 (i : Int)) := hBk.cell 4
      have c5 : W.cell? ⟨g, 5, none⟩ = some (.int .i64 (e : Int)) := hBk.cell 5
      have hDl := (Array.getElem?_eq_some_iff.1 hKD).1
      have hcS := hS.cell
      obtain rfl : r = (BS.zero, i, e) := HRr.out
      have d1 : ((e : Int) != 0) = true := by simp; omega
      clear HRR HU HRr he
      refine wpIn_wide.2 ?_
      go_wp2
      have hnb : br ≠ w.heap.size := by omega
      have hng : g ≠ w.heap.size := by omega
      (refine wp_region_lay (id := 15) (C := GrwE W w.heap.size 24) [(true, 0), (true, 1), (true, 2), (true, 3), (true, 4), (true, 5), (true, 6), (true, 7), (true, 8), (false, 9), (true, 10), (true, 11)] (by kernel_rfl) (by kernel_rfl) (GrwE.start hS).drew ?_; simp only [layOps, List.filterMap_cons, List.filterMap_nil, List.getElem?_cons_succ, List.getElem?_cons_zero, Option.map_some, List.append_eq, List.cons_append, List.nil_append]; (repeat (first | (have hX_ : True := trivial; refine lay_skip ?_ ?_; (focus exact wanted_no rfl rfl rfl); clear hX_; simp only [Act.put, List.setIfInBounds_toArray, List.set_cons_zero, List.set_cons_succ]) | (apply lay_free _ rfl; (focus (intro C1 hs1 w1 hw0; have hw1 := hs1 _ hw0; have hc1 := hw1.cells; go_simp; (try go_bits); (try (rw [if_pos (by omega)]; go_simp)); first | rfl)); simp only [Act.put, List.setIfInBounds_toArray, List.set_cons_zero, List.set_cons_succ]) | (apply lay_quiet _ rfl; (focus (intro w1 hw1; have hc1 := hw1.cells; go_simp; (try go_bits); (try (rw [if_pos (by omega)]; go_simp)); first | rfl)); simp only [Act.put, List.setIfInBounds_toArray, List.set_cons_zero, List.set_cons_succ]) | (refine lay_loud rfl ?_; intro K hK w1 hw1; have hc1 := hw1.cells; go_simp; obtain ⟨s1, hb1⟩ := hw1.2; refine loud_store_set 24 (.tmp 2) (.tmp 65) rfl w.heap.size rfl BS.zero rfl (by kernel_rfl) hb1 ?_; intro w3 hS3 hg3 hz3; refine ⟨GrwB W w.heap.size 24 BS.zero.cells, ⟨hw1.1.more hg3, hS3⟩, fun _ h => GrwE.of h, ?_⟩; (try simp only [Act.put, List.setIfInBounds_toArray, List.set_cons_zero, List.set_cons_succ]); apply hK))); refine lay_nil ?_; intro w5 hw5)
      have hS5 := hw5.2
      have hg5 : W.grownBy w5 (some w.heap.size) := hw5.1
      have hK5 : w5.heap[D]? = some (.deferred (some [])) := (hg5.block D hDl (by simp; omega)).trans hKD
      have hSP : Blk (w5.putObj D (.deferred none)) w.heap.size 24 BS.zero.cells := (World.putObj_heap_other (by omega)).trans hS5
      have hcs := hSP.cell
      have hB5 := below_grown hB hg5 (Nat.le_refl _) hB.size
      go_wp2
      refine ⟨by simp, .inl ⟨_, _, rfl, run_takeDeferred hK5, ?_⟩⟩
      exact ⟨.tuple #[.agg BS.zero.cells, .int .i64 (i : Int), .int .i64 (e : Int)], by simp [results, Tryd.results51, go_sem, hcs], rfl, hB5.trans (belowK_b (w := w) (Nat.le_refl _) w5 D _ _ (by omega) hK5 rfl rfl)⟩
end Go.Proofs.YtakcckdnliiieaaDoor
