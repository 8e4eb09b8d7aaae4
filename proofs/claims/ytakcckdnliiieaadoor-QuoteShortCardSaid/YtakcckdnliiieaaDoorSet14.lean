import Derived.Test.YtakcckdnliiieaaDoorSet13
namespace Go.Proofs.YtakcckdnliiieaaDoor
open Go Go.RowKit
attribute [local go_sem] Oper.quietAt Oper.quietUpon Oper.loudAt Oper.loudUpon
theorem RunsAt.lies {w w1 : World} {v : Value} {rs : List (Nat × Nat)} (h : RunsAt w v rs) (hb : Lies w w1) : RunsAt w1 v rs := by
  rcases h with h | ⟨g, cap, h1, h2⟩
  · exact .inl h
  · refine .inr ⟨g, cap, h1, fun k hk => ?_⟩
    have h3 := h2 k hk
    have hg := cell_lt h3.1
    exact ⟨(hb.cells g _ hg).trans h3.1, (hb.cells g _ hg).trans h3.2⟩
theorem same_true {v1 v2 : Value} {rs : List (Nat × Nat)} {w : World} (h1 : RunsAt w v1 rs) (h2 : RunsAt w v2 rs) (hl : rs.length ≤ 256) : Calls Tryd.prog 37 #[v1, v2] w (Ret (.bool true) w) := by
  have := same_any v1 v2 rs rs w h1 h2 hl hl
  rwa [decide_eq_true rfl] at this
theorem BS.runs_len (s : BS) : s.runs.length ≤ 256 := by
  have h1 := rsB_len s.bytes
  have h2 := BS.len_le s
  have h3 : s.bytes.length = s.len := BS.bytes_length s
  unfold BS.runs; omega
set_option maxRecDepth 100000 in
set_option maxHeartbeats 4000000 in
theorem parts_any (s t : BS) (w : World) (he : Env w) : Calls Tryd.prog 8 #[.agg s.cells, .agg t.cells] w (Ret (.bool true) w) := by
  have hS0 : Blk ((w.alloc (.cells s.cells 24)).alloc (.cells t.cells 24)) w.heap.size 24 s.cells := (Blk.new w 24 _).alloc _
  have hT0 : Blk ((w.alloc (.cells s.cells 24)).alloc (.cells t.cells 24)) (w.heap.size + 1) 24 t.cells := by have := Blk.new (w.alloc (.cells s.cells 24)) 24 t.cells; rwa [World.size_alloc] at this
  obtain ⟨W0, hW0⟩ : ∃ W0, (w.alloc (.cells s.cells 24)).alloc (.cells t.cells 24) = W0 := ⟨_, rfl⟩
  have hB0 : Below w.heap.size w W0 := by rw [← hW0]; (repeat' first | exact Below.refl _ _ | assumption | refine Below.alloc ?_ (by simp <;> omega) _ | refine Below.setCell ?_ (by simp <;> omega) _ | refine Below.drew ?_)
  have hsz0 : W0.heap.size = w.heap.size + 2 := by rw [← hW0]; simp
  rw [hW0] at hS0 hT0
  have he0 : Env W0 := he.below hB0 he.1
  have hcS0 := hS0.cell
  have hlen := BS.runs_len s
  go_enter Tryd.func8, Tryd.ntmps8
  go_upto_region 1 with (fail)
  clear hW0
  go_upto_region 2 with (go_at_call 28; refine (runs_any s _ he0).mono ?_; rintro e w2 ⟨v, rfl, hrow, hnil, hb2⟩)
  have hS2 := hS0.lies hb2
  have hT2 := hT0.lies hb2
  have he2 := he0.lies hb2
  have hB2 : Below w.heap.size w w2 := Lies.below hb2 hB0.size hB0
  have hcS2 := hS2.cell
  have hR2 := RunsAt.of hrow
  clear hS0 hT0 he0 hB0 hb2 hcS0
  go_upto_region 3 with (first | (go_at_call 38; refine (refRuns_any s _).mono ?_; rintro e w3 ⟨v2, rfl, hrow2, hb3⟩; have hR3 := RunsAt.of hrow2; have hb3' : Lies w2 w3 := hb3; have hR2' := hR2.lies hb3') | (go_at_call 37; refine (same_true hR2' hR3 hlen).mono ?_; rintro e w4 ⟨rfl, hb4⟩))
  have hS4 := (hS2.lies hb3').lies hb4
  have hT4 := (hT2.lies hb3').lies hb4
  have he4 := (he2.lies hb3').lies hb4
  have hB3 : Below w.heap.size w w3 := Lies.below hb3' hB2.size hB2
  have hB4 : Below w.heap.size w w4 := Lies.below hb4 hB3.size hB3
  have hrow4 : w4.ownsRow W0.heap.size 36 2 v s.runs.length (rcells s.runs) := ownsRow_lies (ownsRow_lies hrow hb3') hb4
  obtain ⟨n, hn⟩ : ∃ n, n = s.runs.length := ⟨_, rfl⟩
  obtain ⟨xs, hxs⟩ : ∃ xs, xs = rcells s.runs := ⟨_, rfl⟩
  have hv : (v = .slice none 0 0 ∧ n = 0) ∨ ∃ g cap, v = .slice (some ⟨g, 0, none⟩) n cap := by
    rcases hrow.2 with ⟨h1, h2⟩ | ⟨g, cap, _, h1, _⟩
    · exact .inl ⟨h1, by omega⟩
    · exact .inr ⟨g, cap, by rw [hn]; exact h1⟩
  rw [← hn, ← hxs] at hrow4
  rw [← hn] at hlen
  clear hn hxs hrow hnil hS2 hT2 he2 hB2 hcS2 hR2 hrow2 hb3 hR3 hb3' hR2' hb4 hB3
  -- the loop that overwrites what List handed back
  have hloop : ∃ a, (∃ i, v = .slice a n i) := by rcases hv with ⟨h1, h2⟩ | ⟨g, cap, h1⟩; exact ⟨_, _, by rw [h1, h2]⟩; exact ⟨_, _, h1⟩
  go_upto_region 3 with (fail)
  go_wp2_with fail
  go_loopw [7] (fun i wr => ∃ (k : Nat) (ys : List Value), k ≤ n ∧ i = .int .i64 (k : Int) ∧ Below w.heap.size w wr ∧ Blk wr w.heap.size 24 s.cells ∧ Blk wr (w.heap.size + 1) 24 t.cells ∧ Env wr ∧ wr.ownsRow W0.heap.size 36 2 v n ys) (fun i _ => n - (intOf i).toNat)
  case atStart => exact ⟨0, xs, by omega, rfl, hB4, hS4, hT4, he4, hrow4⟩
  case round =>
    obtain ⟨k, ys, hk, rfl, hbr, hSr, hTr, her, hrowr⟩ := hrel
    clear hB4 hS4 hT4 he4 hrow4
    by_cases hlt : k < n
    · rcases hv with ⟨_, h0⟩ | ⟨g, cap, rfl⟩
      · omega
      have hd : decide ((k : Int) < (n : Int)) = true := by simp; omega
      have hc1 : wr.cell? ⟨g, k * 2, none⟩ = some (ys[k * 2]'(by rw [hrowr.1]; omega)) := by rw [hrowr.cellAt _ (by omega), List.getElem?_eq_getElem]
      have hf1 := hrowr.frozenAt (k * 2)
      have hgl := (hrowr.lt g rfl).1
      obtain ⟨hst1, hst2⟩ := hrowr.stored (k * 2) (.int .u8 77)
      go_wp2_with fail
      go_roundw
      case rel => exact ⟨k + 1, _, by omega, by go_num, hbr.setCell (p := ⟨g, k * 2, none⟩) (by simp; omega) _, hSr.far (p := ⟨g, k * 2, none⟩) (by simp; omega) _, hTr.far (p := ⟨g, k * 2, none⟩) (by simp; omega) _, her.below (B := 1) ((Below.refl 1 wr).setCell (p := ⟨g, k * 2, none⟩) (by simp; omega) _) (by omega), hst1⟩
      case measure => simp [intOf]; omega
    · obtain rfl : k = n := by omega
      obtain ⟨a, i0, rfl⟩ := hloop
      have hd : decide ((k : Int) < (k : Int)) = false := by simp
      have hlS := hSr.lt
      have hlT := hTr.lt
      have hcS := hSr.cell
      have hcT := hTr.cell
      have hlen := BS.runs_len s
      clear hrowr hsz0
      go_upto_region 7 with (fail)
      (refine wp_region_lay (id := 7) (C := Lies _) [(true, 0), (true, 1), (true, 2), (true, 4), (false, 3), (false, 5), (false, 6), (true, 7), (true, 8), (true, 9), (true, 10), (true, 12), (true, 13), (false, 11), (false, 14), (true, 15), (true, 16), (true, 17), (true, 18), (true, 19), (true, 21), (true, 22), (false, 20), (false, 23), (true, 24), (true, 25), (true, 26), (true, 27), (true, 28), (true, 30), (true, 31), (false, 29), (false, 32), (true, 33), (true, 34), (true, 35), (true, 36), (true, 38), (false, 37), (false, 39), (true, 40), (true, 41), (true, 42), (true, 43), (true, 44), (true, 46), (true, 47), (false, 45), (false, 48), (true, 49), (true, 50), (true, 51), (true, 52), (true, 53), (true, 55), (true, 56), (false, 54), (false, 57), (true, 58), (true, 59), (true, 60), (true, 61), (true, 62), (true, 64), (true, 65), (false, 63), (false, 66), (true, 67), (true, 68), (true, 69), (false, 70), (true, 71), (true, 72)] (by kernel_rfl) (by kernel_rfl) (Lies.drew (Lies.start _)) ?_; simp only [layOps, List.filterMap_cons, List.filterMap_nil, List.getElem?_cons_succ, List.getElem?_cons_zero, Option.map_some, List.append_eq, List.cons_append, List.nil_append]; (repeat (first | (refine lay_skip rfl ?_; simp only [Act.put, List.setIfInBounds_toArray, List.set_cons_zero, List.set_cons_succ]) | (apply lay_free _ rfl; (focus (intro C1 hs1 w1 hw0; have hw1 := hs1 _ hw0; have hc1 := hw1.cells; go_simp; (try go_bits); (try (rw [if_pos (by omega)]; go_simp)); first | (go_at_call 37; with_reducible exact Calls.lies hw1 (same_true (hR2'.lies hw1) (hR3.lies hw1) hlen)) | (go_at_call 29; with_reducible exact Calls.lies hw1 (or_any s t _)) | (go_at_call 39; with_reducible exact Calls.lies hw1 (refOr_any s t _)) | (go_at_call 35; with_reducible exact Calls.lies hw1 (and_any s t _)) | (go_at_call 40; with_reducible exact Calls.lies hw1 (refAnd_any s t _)) | (go_at_call 36; with_reducible exact Calls.lies hw1 (minus_any s t _)) | (go_at_call 41; with_reducible exact Calls.lies hw1 (refMinus_any s t _)) | (go_at_call 30; with_reducible exact Calls.lies hw1 (not_any s _)) | (go_at_call 42; with_reducible exact Calls.lies hw1 (refNot_any s _)) | (go_at_call 32; with_reducible exact Calls.lies hw1 (subset_any s t _)) | (go_at_call 43; with_reducible exact Calls.lies hw1 (refSubset_any s t _)) | (go_at_call 33; with_reducible exact Calls.lies hw1 (meets_any s t _)) | (go_at_call 44; with_reducible exact Calls.lies hw1 (refMeets_any s t _)) | (go_at_call 34; with_reducible exact Calls.lies hw1 (compare_any s t _ (he3.lies hw1))) | (go_at_call 45; with_reducible exact Calls.lies hw1 (refCompare_any s t _)) | (go_at_call 15; with_reducible exact Calls.lies hw1 (awake_any _ (he3.lies hw1))) | (go_at_call 37; exact Calls.lies hw1 (same_true (hR2'.lies hw1) (hR3.lies hw1) hlen)) | (go_at_call 29; exact Calls.lies hw1 (or_any s t _)) | (go_at_call 39; exact Calls.lies hw1 (refOr_any s t _)) | (go_at_call 35; exact Calls.lies hw1 (and_any s t _)) | (go_at_call 40; exact Calls.lies hw1 (refAnd_any s t _)) | (go_at_call 36; exact Calls.lies hw1 (minus_any s t _)) | (go_at_call 41; exact Calls.lies hw1 (refMinus_any s t _)) | (go_at_call 30; exact Calls.lies hw1 (not_any s _)) | (go_at_call 42; exact Calls.lies hw1 (refNot_any s _)) | (go_at_call 32; exact Calls.lies hw1 (subset_any s t _)) | (go_at_call 43; exact Calls.lies hw1 (refSubset_any s t _)) | (go_at_call 33; exact Calls.lies hw1 (meets_any s t _)) | (go_at_call 44; exact Calls.lies hw1 (refMeets_any s t _)) | (go_at_call 34; exact Calls.lies hw1 (compare_any s t _ (he3.lies hw1))) | (go_at_call 45; exact Calls.lies hw1 (refCompare_any s t _)) | (go_at_call 15; exact Calls.lies hw1 (awake_any _ (he3.lies hw1))) | rfl)); simp only [Act.put, List.setIfInBounds_toArray, List.set_cons_zero, List.set_cons_succ]) | (apply lay_quiet _ rfl; (focus (intro w1 hw1; have hc1 := hw1.cells; go_simp; (try go_bits); (try (rw [if_pos (by omega)]; go_simp)); first | (go_at_call 37; with_reducible exact Calls.lies hw1 (same_true (hR2'.lies hw1) (hR3.lies hw1) hlen)) | (go_at_call 29; with_reducible exact Calls.lies hw1 (or_any s t _)) | (go_at_call 39; with_reducible exact Calls.lies hw1 (refOr_any s t _)) | (go_at_call 35; with_reducible exact Calls.lies hw1 (and_any s t _)) | (go_at_call 40; with_reducible exact Calls.lies hw1 (refAnd_any s t _)) | (go_at_call 36; with_reducible exact Calls.lies hw1 (minus_any s t _)) | (go_at_call 41; with_reducible exact Calls.lies hw1 (refMinus_any s t _)) | (go_at_call 30; with_reducible exact Calls.lies hw1 (not_any s _)) | (go_at_call 42; with_reducible exact Calls.lies hw1 (refNot_any s _)) | (go_at_call 32; with_reducible exact Calls.lies hw1 (subset_any s t _)) | (go_at_call 43; with_reducible exact Calls.lies hw1 (refSubset_any s t _)) | (go_at_call 33; with_reducible exact Calls.lies hw1 (meets_any s t _)) | (go_at_call 44; with_reducible exact Calls.lies hw1 (refMeets_any s t _)) | (go_at_call 34; with_reducible exact Calls.lies hw1 (compare_any s t _ (he3.lies hw1))) | (go_at_call 45; with_reducible exact Calls.lies hw1 (refCompare_any s t _)) | (go_at_call 15; with_reducible exact Calls.lies hw1 (awake_any _ (he3.lies hw1))) | (go_at_call 37; exact Calls.lies hw1 (same_true (hR2'.lies hw1) (hR3.lies hw1) hlen)) | (go_at_call 29; exact Calls.lies hw1 (or_any s t _)) | (go_at_call 39; exact Calls.lies hw1 (refOr_any s t _)) | (go_at_call 35; exact Calls.lies hw1 (and_any s t _)) | (go_at_call 40; exact Calls.lies hw1 (refAnd_any s t _)) | (go_at_call 36; exact Calls.lies hw1 (minus_any s t _)) | (go_at_call 41; exact Calls.lies hw1 (refMinus_any s t _)) | (go_at_call 30; exact Calls.lies hw1 (not_any s _)) | (go_at_call 42; exact Calls.lies hw1 (refNot_any s _)) | (go_at_call 32; exact Calls.lies hw1 (subset_any s t _)) | (go_at_call 43; exact Calls.lies hw1 (refSubset_any s t _)) | (go_at_call 33; exact Calls.lies hw1 (meets_any s t _)) | (go_at_call 44; exact Calls.lies hw1 (refMeets_any s t _)) | (go_at_call 34; exact Calls.lies hw1 (compare_any s t _ (he3.lies hw1))) | (go_at_call 45; exact Calls.lies hw1 (refCompare_any s t _)) | (go_at_call 15; exact Calls.lies hw1 (awake_any _ (he3.lies hw1))) | rfl)); simp only [Act.put, List.setIfInBounds_toArray, List.set_cons_zero, List.set_cons_succ]) | (refine lay_loud rfl ?_; intro K hK w1 hw1; have hc1 := hw1.cells; go_simp; go_at_call 28; refine (runs_any s _ (her.lies hw1)).mono ?_; rintro e w2 ⟨v1, rfl, hrow1, _, hb2⟩; have hb2' : Lies w1 w2 := hb2; have hS2 := (hSr.lies hw1).lies hb2'; have hT2 := (hTr.lies hw1).lies hb2'; have hcS2 := hS2.cell; have hcT2 := hT2.cell; have hlS2 := hS2.lt; have hlT2 := hT2.lt; have he2 := (her.lies hw1).lies hb2'; have hB2 := Lies.below hb2' (Lies.below hw1 hbr.size hbr).size (Lies.below hw1 hbr.size hbr); have hR2 := RunsAt.of hrow1; refine ⟨_, rfl, Lies w2, Lies.start _, lies_sub (Below.trans hw1 (Below.mono hb2' hw1.size)), ?_⟩; (try simp only [Act.put, List.setIfInBounds_toArray, List.set_cons_zero, List.set_cons_succ]); apply hK) | (refine lay_loud rfl ?_; intro K hK w1 hw1; have hc1 := hw1.cells; go_simp; go_at_call 38; refine (refRuns_any s _).mono ?_; rintro e w3 ⟨v3, rfl, hrow3, hb3⟩; have hb3' : Lies w1 w3 := hb3; have hS3 := (hS2.lies hw1).lies hb3'; have hT3 := (hT2.lies hw1).lies hb3'; have hcS3 := hS3.cell; have hcT3 := hT3.cell; have hlS3 := hS3.lt; have hlT3 := hT3.lt; have he3 := (he2.lies hw1).lies hb3'; have hB3 := Lies.below hb3' (Lies.below hw1 hB2.size hB2).size (Lies.below hw1 hB2.size hB2); have hR3 := RunsAt.of hrow3; have hR2' := (hR2.lies hw1).lies hb3'; refine ⟨_, rfl, Lies w3, Lies.start _, lies_sub (Below.trans hw1 (Below.mono hb3' hw1.size)), ?_⟩; (try simp only [Act.put, List.setIfInBounds_toArray, List.set_cons_zero, List.set_cons_succ]); apply hK))); refine lay_nil ?_; intro w8 hw8)
      go_wp2
      go_ret
      exact ⟨rfl, Lies.below hw8 hB3.size hB3⟩
end Go.Proofs.YtakcckdnliiieaaDoor
