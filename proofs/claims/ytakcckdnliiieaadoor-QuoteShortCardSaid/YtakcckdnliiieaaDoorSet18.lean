/- SetRuns: the walk. -/
import Derived.Test.YtakcckdnliiieaaDoorSet14
import Derived.Test.YtakcckdnliiieaaDoorSet16
import Derived.Test.YtakcckdnliiieaaDoorStp
namespace Go.Proofs.YtakcckdnliiieaaDoor
open Go Go.RowKit
attribute [local go_sem] Oper.quietAt Oper.quietUpon Oper.loudAt Oper.loudUpon
def accR (rs : List (Nat × Nat)) : BS := rs.foldl (fun u r => u.or (BS.range r.1 r.2)) BS.zero
theorem accR_snoc (q : List (Nat × Nat)) (r : Nat × Nat) : accR (q ++ [r]) = (accR q).or (BS.range r.1 r.2) := by simp [accR]
theorem foldl_has (rs : List (Nat × Nat)) (m : Nat) (hm : m < 256) : ∀ u : BS, (rs.foldl (fun u r => u.or (BS.range r.1 r.2)) u).has m = (u.has m || inRuns rs m) := by
  induction rs with
  | nil => intro u; simp [inRuns]
  | cons r rs ih =>
    intro u
    rw [List.foldl_cons, ih, BS.has_or, BS.has_range _ _ _ hm, Bool.or_assoc]
    simp [inRuns]
theorem accR_runs (s : BS) : accR s.runs = s := BS.ext_has fun m hm => by
  unfold accR
  rw [foldl_has _ m hm, BS.has_zero, BS.runs_eq, BS.list_eq, (runs_good s 256 (Nat.le_refl _)).2.1 m]
  simp [hm]
theorem sumRuns_runs (s : BS) : sumRuns s.runs = s.len := by
  rw [BS.runs_eq, BS.list_eq, (runs_good s 256 (Nat.le_refl _)).2.2]; rfl
theorem apart_runs (s : BS) : Apart s.runs := by
  rw [BS.runs_eq, BS.list_eq]; exact (runs_good s 256 (Nat.le_refl _)).1
theorem sumRuns_take (rs : List (Nat × Nat)) (k : Nat) : sumRuns (rs.take k) ≤ sumRuns rs := by
  conv => rhs; rw [← List.take_append_drop k rs, sumRuns_append]
  omega
theorem sum_step (rs : List (Nat × Nat)) (k : Nat) (h : k < rs.length) : sumRuns (rs.take (k + 1)) = sumRuns (rs.take k) + (rs[k].2 + 1 - rs[k].1) := by
  rw [List.take_succ_eq_append_getElem h, sumRuns_append]; simp [sumRuns]
theorem acc_step (rs : List (Nat × Nat)) (k : Nat) (h : k < rs.length) : accR (rs.take (k + 1)) = (accR (rs.take k)).or (BS.range rs[k].1 rs[k].2) := by
  rw [List.take_succ_eq_append_getElem h, accR_snoc]
theorem ownsRow_grown {w w' : World} {base g0 n : Nat} {v : Value} {xs : List Value} {e : TypeId} {z : Nat} (h : w.ownsRow base e z v n xs) (hg : w.grownBy w' (some g0)) (h0 : g0 < base) : w'.ownsRow base e z v n xs := by
  refine h.kept hg ?_
  cases hv : v.ownBlock with
  | none => exact .inl rfl
  | some b =>
    refine .inr fun e => ?_
    have := (h.lt b hv).1
    cases e; omega
theorem grown_cell {w w' : World} {g0 g o : Nat} (h : w.grownBy w' (some g0)) (hne : g < w.heap.size ∧ g ≠ g0) : w'.cell? ⟨g, o, none⟩ = w.cell? ⟨g, o, none⟩ := by
  have := h.block g hne.1 (by simp; exact hne.2)
  unfold World.cell?
  rw [this]
theorem Env.grown0 {w w' : World} {g0 : Nat} (h : Env w) (hg : w.grownBy w' (some g0)) (h0 : 0 < g0) : Env w' :=
  ⟨Nat.lt_of_lt_of_le h.1 hg.size, fun i hi => (grown_cell hg ⟨h.1, by omega⟩).trans (h.2 i hi)⟩
set_option maxRecDepth 100000 in
set_option maxHeartbeats 4000000 in
theorem setRuns_any (s : BS) (w : World) (he : Env w) : Calls Tryd.prog 4 #[.agg s.cells] w (Ret (.bool true) w) := by
  obtain ⟨W0, hW0⟩ : ∃ W0, w.alloc (.cells s.cells 24) = W0 := ⟨_, rfl⟩
  have hS0 : Blk W0 w.heap.size 24 s.cells := by rw [← hW0]; exact Blk.new w 24 _
  have hB0 : Below w.heap.size w W0 := by rw [← hW0]; (repeat' first | exact Below.refl _ _ | assumption | refine Below.alloc ?_ (by simp <;> omega) _ | refine Below.setCell ?_ (by simp <;> omega) _ | refine Below.drew ?_)
  have hz0 : w.heap.size < W0.heap.size := hS0.lt
  have he0 : Env W0 := he.below hB0 he.1
  obtain ⟨rs, hrs⟩ : ∃ rs, rs = s.runs := ⟨_, rfl⟩
  have hap : Apart rs := by rw [hrs]; exact apart_runs s
  have hsum : sumRuns rs = s.len := by rw [hrs]; exact sumRuns_runs s
  have hacc : accR rs = s := by rw [hrs]; exact accR_runs s
  have hlen := BS.len_le s
  have hrl := BS.runs_len s
  rw [← hrs] at hrl
  have HR := Lib.hid hrs
  have HS := Lib.hid hsum
  have HA := Lib.hid hacc
  clear hrs hsum hacc
  obtain ⟨m, hm⟩ : ∃ m, m = rs.length := ⟨_, rfl⟩
  have HM := Lib.hid hm
  rw [← hm] at hrl
  clear hm
  go_enter Tryd.func4, Tryd.ntmps4
  go_upto_region 1 with (fail)
  clear hW0
  go_upto_region 3 with (go_at_call 15; refine (awake_any _ he0).mono ?_; rintro e w2 ⟨rfl, hw2⟩)
  have hS2 := hS0.lies hw2
  have hB2 := Lies.below hw2 hB0.size hB0
  have he2 := he0.lies hw2
  have hz2 := hS2.lt
  clear hS0 hB0 hz0 he0 hw2
  obtain ⟨W3, hW3⟩ : ∃ W3, w2.alloc (.cells BS.zero.cells 24) = W3 := ⟨_, rfl⟩
  have hS3 : Blk W3 w.heap.size 24 s.cells := by rw [← hW3]; exact hS2.alloc _
  have hU3 : Blk W3 w2.heap.size 24 BS.zero.cells := by rw [← hW3]; exact Blk.new w2 24 _
  have hB3 : Below w.heap.size w W3 := by rw [← hW3]; exact hB2.alloc (by omega) _
  have he3 : Env W3 := by rw [← hW3]; exact he2.alloc _
  have hz3 : W3.heap.size = w2.heap.size + 1 := by rw [← hW3]; simp
  have hcS3 := hS3.cell
  go_upto_region 5 with (fail)
  clear hW3 hS2 hB2 he2
  go_upto_region 6 with (go_at_call 28; refine (runs_any s _ he3).mono ?_; rintro e w4 ⟨v, rfl, hrow, hnil, hb4⟩)
  have hb4' : Lies W3 w4 := hb4
  have hS4 := hS3.lies hb4'
  have hU4 := hU3.lies hb4'
  have hB4 : Below w.heap.size w w4 := Lies.below hb4' hB3.size hB3
  have he4 := he3.lies hb4'
  rw [← HR.out, ← HM.out] at hrow
  have hv : (v = .slice none 0 0 ∧ m = 0) ∨ ∃ g cap, v = .slice (some ⟨g, 0, none⟩) m cap := by
    rcases hrow.2 with ⟨h1, h2⟩ | ⟨g, cap, _, h1, _⟩
    · exact .inl ⟨h1, by omega⟩
    · exact .inr ⟨g, cap, h1⟩
  have hloop : ∃ a, (∃ i, v = .slice a m i) := by rcases hv with ⟨h1, h2⟩ | ⟨g, cap, h1⟩; exact ⟨_, _, by rw [h1, h2]⟩; exact ⟨_, _, h1⟩
  have hzb : w2.heap.size < W3.heap.size := by omega
  clear hS3 hU3 hB3 he3 hz3 hcS3 hnil hb4 hb4'
  go_upto_region 7 with (fail)
  go_loopw [4, 6] (fun n i wr => ∃ k : Nat, k ≤ m ∧ i = .int .i64 (k : Int) ∧ n = .int .i64 ((sumRuns (rs.take k) : Nat) : Int) ∧ Below w.heap.size w wr ∧ Blk wr w.heap.size 24 s.cells ∧ Blk wr w2.heap.size 24 (accR (rs.take k)).cells ∧ Env wr ∧ wr.ownsRow W3.heap.size 36 2 v m (rcells rs)) (fun _ i _ => m - (intOf i).toNat)
  case atStart => exact ⟨0, by omega, rfl, rfl, hB4, hS4, hU4, he4, hrow⟩
  case round =>
    obtain ⟨k, hk, rfl, rfl, hbr, hSr, hUr, her, hrowr⟩ := hrel
    clear hB4 hS4 hU4 he4 hrow
    by_cases hlt : k < m
    · rcases hv with ⟨_, h0⟩ | ⟨g, cap, rfl⟩
      · omega
      have hlt' : k < rs.length := by rw [← HM.out]; exact hlt
      obtain ⟨a, ha⟩ : ∃ a, a = rs[k].1 := ⟨_, rfl⟩
      obtain ⟨z, hz⟩ : ∃ z, z = rs[k].2 := ⟨_, rfl⟩
      have hc1 : wr.cell? ⟨g, k * 2, none⟩ = some (.int .u8 (a : Int)) := by rw [hrowr.cellAt _ (by omega), (rcells_at rs k hlt').1, ha]; rfl
      have hc2 : wr.cell? ⟨g, k * 2 + 1, none⟩ = some (.int .u8 (z : Int)) := by rw [hrowr.cellAt _ (by omega), (rcells_at rs k hlt').2, hz]; rfl
      have hgl := (hrowr.lt g rfl).2
      have hgb := (hrowr.lt g rfl).1
      have haz := hap.each k hlt'
      rw [← ha, ← hz] at haz
      obtain ⟨haz1, haz2⟩ := haz
      have hst := sum_step rs k hlt'
      have hac := acc_step rs k hlt'
      rw [← ha, ← hz] at hst hac
      have hsl : sumRuns (rs.take k) ≤ 256 := by have := sumRuns_take rs k; have := HS.out; omega
      obtain ⟨n, hn⟩ : ∃ n, n = sumRuns (rs.take k) := ⟨_, rfl⟩
      obtain ⟨U, hU⟩ : ∃ U, U = accR (rs.take k) := ⟨_, rfl⟩
      rw [← hn] at hst hsl ⊢
      rw [← hU] at hac hUr
      have HST := Lib.hid hst
      have HAC := Lib.hid hac
      have hd1 : decide (z < a) = false := decide_eq_false (by omega)
      have hlU := hUr.lt
      have hcU := hUr.cell
      rcases Nat.eq_zero_or_pos k with hk0 | hk0
      · clear ha hz hst hac hn hU
        have hd0 : decide (0 < k) = false := decide_eq_false (by omega)
        clear hk0
        go_upto_region 9 with (fail)
        (refine wp_region_quiet_all (C := Lies _) (by kernel_rfl) (by kernel_rfl) (Lies.drew (Lies.start _)) ?_; (repeat (first | (have hX_ : True := trivial; refine quiet_skip ?_ ?_; (focus exact wanted_no rfl rfl rfl); clear hX_; simp only [Act.put, List.setIfInBounds_toArray, List.set_cons_zero, List.set_cons_succ]) | (apply quiet_op _ rfl; (focus (intro w1 hw1; have hc1 := hw1.cells; go_simp; (try go_bits); (try (rw [if_pos (by omega)]; go_simp)); first | rfl)); simp only [Act.put, List.setIfInBounds_toArray, List.set_cons_zero, List.set_cons_succ]))); refine wpQuiet_nil ?_; intro w5 hw5)
        have hS5 := hSr.lies hw5
        have hU5 := hUr.lies hw5
        have he5 := her.lies hw5
        have hr5 := ownsRow_lies hrowr hw5
        have hb5 := Lies.below hw5 hbr.size hbr
        have hc1' : w5.cell? ⟨g, k * 2, none⟩ = some (.int .u8 (a : Int)) := (Lies.cells hw5 _ _ hgl).trans hc1
        have hc2' : w5.cell? ⟨g, k * 2 + 1, none⟩ = some (.int .u8 (z : Int)) := (Lies.cells hw5 _ _ hgl).trans hc2
        have hg5 := (hr5.lt g rfl).2
        have hlU5 := hU5.lt
        have hcU5 := hU5.cell
        clear hc1 hc2 hgl hSr hUr her hrowr hbr hlU hcU hw5
        go_upto_region 11 with (fail)
        (refine wp_region_quiet_tail (C := Lies _) 13 (by kernel_rfl) (by kernel_rfl) (Lies.drew (Lies.start _)) ?_; simp only [List.take_succ_cons, List.take_zero, List.take_nil, List.drop_succ_cons, List.drop_zero, List.drop_nil]; (repeat (first | (have hX_ : True := trivial; refine quiet_skip ?_ ?_; (focus exact wanted_no rfl rfl rfl); clear hX_; simp only [Act.put, List.setIfInBounds_toArray, List.set_cons_zero, List.set_cons_succ]) | (apply quiet_op _ rfl; (focus (intro w1 hw1; have hc1 := hw1.cells; go_simp; (try go_bits); (try (rw [if_pos (by omega)]; go_simp)); first | (go_at_call 20; with_reducible exact Calls.lies hw1 (range_any a z _ (by omega) haz2)) | (go_at_call 29; with_reducible exact Calls.lies hw1 (or_any U (BS.range a z) _)) | (go_at_call 20; exact Calls.lies hw1 (range_any a z _ (by omega) haz2)) | (go_at_call 29; exact Calls.lies hw1 (or_any U (BS.range a z) _)) | rfl)); simp only [Act.put, List.setIfInBounds_toArray, List.set_cons_zero, List.set_cons_succ]))); refine wpQuiet_nil ?_; intro w6 hw6)
        have hS6 := hS5.lies hw6
        have hU6 := hU5.lies hw6
        have he6 := he5.lies hw6
        have hr6 := ownsRow_lies hr5 hw6
        have hb6 := Lies.below hw6 hb5.size hb5
        have hc1'' : w6.cell? ⟨g, k * 2, none⟩ = some (.int .u8 (a : Int)) := (Lies.cells hw6 _ _ hg5).trans hc1'
        have hc2'' : w6.cell? ⟨g, k * 2 + 1, none⟩ = some (.int .u8 (z : Int)) := (Lies.cells hw6 _ _ hg5).trans hc2'
        have hg6 := (hr6.lt g rfl).2
        clear hc1' hc2' hS5 hU5 he5 hr5 hb5 hlU5 hcU5 hw6
        refine wpList_store_set rfl 24 (.tmp 3) (.tmp 61) rfl _ rfl _ rfl (by kernel_rfl) hU6 ?_
        intro w7 hU7 hg7 hz7
        have hS7 := hS6.grown hg7 (by simp <;> omega)
        have hr7 := ownsRow_grown hr6 hg7 hzb
        have hb7 := below_grown hb6 hg7 (by omega) hb6.size
        have he7 := he6.grown0 hg7 (by omega)
        have hc1 : w7.cell? ⟨g, k * 2, none⟩ = some (.int .u8 (a : Int)) := (grown_cell hg7 (by omega)).trans hc1''
        have hc2 : w7.cell? ⟨g, k * 2 + 1, none⟩ = some (.int .u8 (z : Int)) := (grown_cell hg7 (by omega)).trans hc2''
        have hg8 := (hr7.lt g rfl).2
        clear hc1'' hc2'' hS6 hU6 he6 hr6 hb6 hg7 hz7 hg5 hg6
        go_upto_region 12 with (fail)
        (refine wp_region_quiet_all (C := Lies _) (by kernel_rfl) (by kernel_rfl) (Lies.drew (Lies.start _)) ?_; (repeat (first | (have hX_ : True := trivial; refine quiet_skip ?_ ?_; (focus exact wanted_no rfl rfl rfl); clear hX_; simp only [Act.put, List.setIfInBounds_toArray, List.set_cons_zero, List.set_cons_succ]) | (apply quiet_op _ rfl; (focus (intro w1 hw1; have hc1 := hw1.cells; go_simp; (try go_bits); (try (rw [if_pos (by omega)]; go_simp)); first | rfl)); simp only [Act.put, List.setIfInBounds_toArray, List.set_cons_zero, List.set_cons_succ]))); refine wpQuiet_nil ?_; intro w8 hw8)
        go_wp2
        go_roundw
        case rel => exact ⟨k + 1, by omega, by go_num, by rw [HST.out]; go_num, Lies.below hw8 hb7.size hb7, hS7.lies hw8, by rw [HAC.out]; exact hU7.lies hw8, he7.lies hw8, ownsRow_lies hr7 hw8⟩
        case measure => simp [intOf]; omega
      · obtain ⟨j, rfl⟩ : ∃ j, k = j + 1 := ⟨k - 1, by omega⟩
        obtain ⟨y, hy⟩ : ∃ y, y = rs[j].2 := ⟨_, rfl⟩
        have hcp : wr.cell? ⟨g, j * 2 + 1, none⟩ = some (.int .u8 (y : Int)) := by rw [hrowr.cellAt _ (by omega), (rcells_at rs j (by omega)).2, hy]; rfl
        have hya := hap.gap j hlt'
        rw [← ha, ← hy] at hya
        clear ha hz hst hac hn hU hy
        have hd0 : decide (0 < j + 1) = true := decide_eq_true (by omega)
        have hd2 : decide ((a : Int) < (y : Int) + 2) = false := decide_eq_false (by omega)
        clear hk0
        go_upto_region 9 with (fail)
        (refine wp_region_quiet_all (C := Lies _) (by kernel_rfl) (by kernel_rfl) (Lies.drew (Lies.start _)) ?_; (repeat (first | (have hX_ : True := trivial; refine quiet_skip ?_ ?_; (focus exact wanted_no rfl rfl rfl); clear hX_; simp only [Act.put, List.setIfInBounds_toArray, List.set_cons_zero, List.set_cons_succ]) | (apply quiet_op _ rfl; (focus (intro w1 hw1; have hc1 := hw1.cells; go_simp; (try go_bits); (try (rw [if_pos (by omega)]; go_simp)); first | rfl)); simp only [Act.put, List.setIfInBounds_toArray, List.set_cons_zero, List.set_cons_succ]))); refine wpQuiet_nil ?_; intro w5 hw5)
        have hS5 := hSr.lies hw5
        have hU5 := hUr.lies hw5
        have he5 := her.lies hw5
        have hr5 := ownsRow_lies hrowr hw5
        have hb5 := Lies.below hw5 hbr.size hbr
        have hc1' : w5.cell? ⟨g, (j + 1) * 2, none⟩ = some (.int .u8 (a : Int)) := (Lies.cells hw5 _ _ hgl).trans hc1
        have hc2' : w5.cell? ⟨g, (j + 1) * 2 + 1, none⟩ = some (.int .u8 (z : Int)) := (Lies.cells hw5 _ _ hgl).trans hc2
        have hg5 := (hr5.lt g rfl).2
        have hlU5 := hU5.lt
        have hcU5 := hU5.cell
        clear hc1 hc2 hgl hSr hUr her hrowr hbr hlU hcU hw5
        go_upto_region 11 with (fail)
        (refine wp_region_quiet_tail (C := Lies _) 13 (by kernel_rfl) (by kernel_rfl) (Lies.drew (Lies.start _)) ?_; simp only [List.take_succ_cons, List.take_zero, List.take_nil, List.drop_succ_cons, List.drop_zero, List.drop_nil]; (repeat (first | (have hX_ : True := trivial; refine quiet_skip ?_ ?_; (focus exact wanted_no rfl rfl rfl); clear hX_; simp only [Act.put, List.setIfInBounds_toArray, List.set_cons_zero, List.set_cons_succ]) | (apply quiet_op _ rfl; (focus (intro w1 hw1; have hc1 := hw1.cells; go_simp; (try go_bits); (try (rw [if_pos (by omega)]; go_simp)); first | (go_at_call 20; with_reducible exact Calls.lies hw1 (range_any a z _ (by omega) haz2)) | (go_at_call 29; with_reducible exact Calls.lies hw1 (or_any U (BS.range a z) _)) | (go_at_call 20; exact Calls.lies hw1 (range_any a z _ (by omega) haz2)) | (go_at_call 29; exact Calls.lies hw1 (or_any U (BS.range a z) _)) | rfl)); simp only [Act.put, List.setIfInBounds_toArray, List.set_cons_zero, List.set_cons_succ]))); refine wpQuiet_nil ?_; intro w6 hw6)
        have hS6 := hS5.lies hw6
        have hU6 := hU5.lies hw6
        have he6 := he5.lies hw6
        have hr6 := ownsRow_lies hr5 hw6
        have hb6 := Lies.below hw6 hb5.size hb5
        have hc1'' : w6.cell? ⟨g, (j + 1) * 2, none⟩ = some (.int .u8 (a : Int)) := (Lies.cells hw6 _ _ hg5).trans hc1'
        have hc2'' : w6.cell? ⟨g, (j + 1) * 2 + 1, none⟩ = some (.int .u8 (z : Int)) := (Lies.cells hw6 _ _ hg5).trans hc2'
        have hg6 := (hr6.lt g rfl).2
        clear hc1' hc2' hS5 hU5 he5 hr5 hb5 hlU5 hcU5 hw6
        refine wpList_store_set rfl 24 (.tmp 3) (.tmp 61) rfl _ rfl _ rfl (by kernel_rfl) hU6 ?_
        intro w7 hU7 hg7 hz7
        have hS7 := hS6.grown hg7 (by simp <;> omega)
        have hr7 := ownsRow_grown hr6 hg7 hzb
        have hb7 := below_grown hb6 hg7 (by omega) hb6.size
        have he7 := he6.grown0 hg7 (by omega)
        have hc1 : w7.cell? ⟨g, (j + 1) * 2, none⟩ = some (.int .u8 (a : Int)) := (grown_cell hg7 (by omega)).trans hc1''
        have hc2 : w7.cell? ⟨g, (j + 1) * 2 + 1, none⟩ = some (.int .u8 (z : Int)) := (grown_cell hg7 (by omega)).trans hc2''
        have hg8 := (hr7.lt g rfl).2
        clear hc1'' hc2'' hS6 hU6 he6 hr6 hb6 hg7 hz7 hg5 hg6
        go_upto_region 12 with (fail)
        (refine wp_region_quiet_all (C := Lies _) (by kernel_rfl) (by kernel_rfl) (Lies.drew (Lies.start _)) ?_; (repeat (first | (have hX_ : True := trivial; refine quiet_skip ?_ ?_; (focus exact wanted_no rfl rfl rfl); clear hX_; simp only [Act.put, List.setIfInBounds_toArray, List.set_cons_zero, List.set_cons_succ]) | (apply quiet_op _ rfl; (focus (intro w1 hw1; have hc1 := hw1.cells; go_simp; (try go_bits); (try (rw [if_pos (by omega)]; go_simp)); first | rfl)); simp only [Act.put, List.setIfInBounds_toArray, List.set_cons_zero, List.set_cons_succ]))); refine wpQuiet_nil ?_; intro w8 hw8)
        go_wp2
        go_roundw
        case rel => exact ⟨(j + 1) + 1, by omega, by go_num, by rw [HST.out]; go_num, Lies.below hw8 hb7.size hb7, hS7.lies hw8, by rw [HAC.out]; exact hU7.lies hw8, he7.lies hw8, ownsRow_lies hr7 hw8⟩
        case measure => simp [intOf]; omega
    · obtain rfl : k = m := by omega
      have hd : decide ((k : Int) < (k : Int)) = false := by simp
      rw [List.take_of_length_le (by rw [← HM.out]; exact Nat.le_refl _), HA.out] at hUr
      rw [List.take_of_length_le (by rw [← HM.out]; exact Nat.le_refl _), HS.out]
      obtain ⟨a, i0, rfl⟩ := hloop
      have hcS := hSr.cell
      have hcU := hUr.cell
      have hlS := hSr.lt
      have hlU := hUr.lt
      clear hrowr
      go_upto_region 13 with (fail)
      go_wp2_with (go_at_call 24; refine (len_any s _).mono ?_; rintro e w9 ⟨rfl, hw9⟩)
      go_ret
      exact ⟨rfl, Lies.below hw9 hbr.size hbr⟩
end Go.Proofs.YtakcckdnliiieaaDoor
