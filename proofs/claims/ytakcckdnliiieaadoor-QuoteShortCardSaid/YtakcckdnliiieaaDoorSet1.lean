/- Package set and its reference, the functions without an iterator: a contract a function. -/
import Derived.Test.YtakcckdnliiieaaDoorRows
import Derived.Test.YtakcckdnliiieaaDoorRul
namespace Go.Proofs.YtakcckdnliiieaaDoor
open Go Go.RowKit
theorem Tryd.isBS24 : isBS Tryd.prog 24 = true := by kernel_rfl
theorem Tryd.eqg24 : Tryd.prog.eqGuardType Tryd.prog.depth 24 = false := by kernel_rfl
attribute [go_sem] Tryd.isBS24 Tryd.eqg24
attribute [local go_sem] Oper.quietAt Oper.quietUpon

set_option maxHeartbeats 1000000 in
theorem and_any (s t : BS) (w : World) :
    Calls Tryd.prog 35 #[.agg s.cells, .agg t.cells] w (Ret (.agg (s.and t).cells) w) := by
  go_enter Tryd.func35, Tryd.ntmps35
  go_wp2
  refine wp_loop_rounds 5 ?_
  iterate 5 (rw [rounds_succ]; go_wp2)
  refine bodyPost_ret (v := .agg (s.and t).cells) (by simp [results, Tryd.results35, go_sem]; rfl) rfl ⟨rfl, ?_⟩
  (repeat' first | exact Below.refl _ _ | assumption | refine Below.alloc ?_ (by simp <;> omega) _ | refine Below.setCell ?_ (by simp <;> omega) _ | refine Below.drew ?_)
set_option maxHeartbeats 1000000 in
theorem or_any (s t : BS) (w : World) :
    Calls Tryd.prog 29 #[.agg s.cells, .agg t.cells] w (Ret (.agg (s.or t).cells) w) := by
  go_enter Tryd.func29, Tryd.ntmps29
  go_wp2
  refine wp_loop_rounds 5 ?_
  iterate 5 (rw [rounds_succ]; go_wp2)
  refine bodyPost_ret (v := .agg (s.or t).cells) (by simp [results, Tryd.results29, go_sem]; rfl) rfl ⟨rfl, ?_⟩
  (repeat' first | exact Below.refl _ _ | assumption | refine Below.alloc ?_ (by simp <;> omega) _ | refine Below.setCell ?_ (by simp <;> omega) _ | refine Below.drew ?_)
set_option maxHeartbeats 1000000 in
theorem minus_any (s t : BS) (w : World) :
    Calls Tryd.prog 36 #[.agg s.cells, .agg t.cells] w (Ret (.agg (s.minus t).cells) w) := by
  go_enter Tryd.func36, Tryd.ntmps36
  go_wp2
  refine wp_loop_rounds 5 ?_
  iterate 5 (rw [rounds_succ]; go_wp2)
  refine bodyPost_ret (v := .agg (s.minus t).cells) (by simp [results, Tryd.results36, go_sem]; rfl) rfl ⟨rfl, ?_⟩
  (repeat' first | exact Below.refl _ _ | assumption | refine Below.alloc ?_ (by simp <;> omega) _ | refine Below.setCell ?_ (by simp <;> omega) _ | refine Below.drew ?_)
set_option maxHeartbeats 1000000 in
theorem not_any (s : BS) (w : World) :
    Calls Tryd.prog 30 #[.agg s.cells] w (Ret (.agg s.not.cells) w) := by
  go_enter Tryd.func30, Tryd.ntmps30
  go_wp2
  refine wp_loop_rounds 5 ?_
  iterate 5 (rw [rounds_succ]; go_wp2)
  refine bodyPost_ret (v := .agg s.not.cells) (by simp [results, Tryd.results30, go_sem]; rfl) rfl ⟨rfl, ?_⟩
  (repeat' first | exact Below.refl _ _ | assumption | refine Below.alloc ?_ (by simp <;> omega) _ | refine Below.setCell ?_ (by simp <;> omega) _ | refine Below.drew ?_)
set_option maxHeartbeats 1000000 in
theorem subset_any (s t : BS) (w : World) :
    Calls Tryd.prog 32 #[.agg s.cells, .agg t.cells] w (Ret (.bool (decide (s.and t = s))) w) := by
  go_enter Tryd.func32, Tryd.ntmps32
  go_wp2
  (refine wp_region_quiet_all (C := Lies _) (by kernel_rfl) (by kernel_rfl) (Lies.drew (Lies.start _)) ?_; (repeat (first | (refine quiet_skip rfl ?_; simp only [Act.put, List.setIfInBounds_toArray, List.set_cons_zero, List.set_cons_succ]) | (apply quiet_op _ rfl; (focus (intro w1 hw1; have hc1 := hw1.cells; go_simp; (try go_bits); (try (rw [if_pos (by omega)]; go_simp)); first | (go_at_call 35; with_reducible exact Calls.lies hw1 (and_any _ _ _)) | (go_at_call 35; exact Calls.lies hw1 (and_any _ _ _)) | rfl)); simp only [Act.put, List.setIfInBounds_toArray, List.set_cons_zero, List.set_cons_succ]))); refine wpQuiet_nil ?_; intro w2 hw2)
  go_wp2
  go_ret
  refine ⟨rfl, Lies.below hw2 (by simp <;> omega) ?_⟩
  (repeat' first | exact Below.refl _ _ | assumption | refine Below.alloc ?_ (by simp <;> omega) _ | refine Below.setCell ?_ (by simp <;> omega) _ | refine Below.drew ?_)
set_option maxHeartbeats 1000000 in
theorem meets_any (s t : BS) (w : World) :
    Calls Tryd.prog 33 #[.agg s.cells, .agg t.cells] w (Ret (.bool (!decide (s.and t = BS.zero))) w) := by
  go_enter Tryd.func33, Tryd.ntmps33
  go_wp2_with (go_at_call 35; refine (and_any _ _ _).mono ?_; rintro e w2 ⟨rfl, hw2⟩)
  go_ret
  refine ⟨rfl, Lies.below hw2 (by simp <;> omega) ?_⟩
  (repeat' first | exact Below.refl _ _ | assumption | refine Below.alloc ?_ (by simp <;> omega) _ | refine Below.setCell ?_ (by simp <;> omega) _ | refine Below.drew ?_)
set_option maxHeartbeats 1000000 in
theorem all_any (w : World) : Calls Tryd.prog 31 #[] w (Ret (.agg BS.full.cells) w) := by
  go_enter Tryd.func31, Tryd.ntmps31
  go_wp2_with (go_at_call 30; refine (not_any BS.zero _).mono ?_; rintro e w2 ⟨rfl, hw2⟩; have hc2 := Lies.cells hw2; have hf2 := Lies.frees hw2)
  refine bodyPost_ret (v := .agg BS.full.cells) (by simp [results, Tryd.results31, go_sem, hc2]; rfl) rfl ⟨rfl, ?_⟩
  have hb : Below w.heap.size w w2 := Lies.below hw2 (by simp) ((Below.refl _ _).alloc (Nat.le_refl _) _)
  (repeat' first | exact Below.refl _ _ | assumption | refine Below.alloc ?_ (by simp <;> omega) _ | refine Below.setCell ?_ (by simp <;> omega) _ | refine Below.drew ?_)

set_option maxHeartbeats 1000000 in
theorem has_any (s : BS) (b : Nat) (w : World) (hb : b < 256) :
    Calls Tryd.prog 22 #[.agg s.cells, .int .u8 (b : Int)] w (Ret (.bool (s.has b)) w) := by
  have hb4 : b / 64 < 4 := by omega
  go_enter Tryd.func22, Tryd.ntmps22
  go_wp2
  go_ret
  refine ⟨?_, ?_⟩
  · simp only [shr_has]; rfl
  (repeat' first | exact Below.refl _ _ | assumption | refine Below.alloc ?_ (by simp <;> omega) _ | refine Below.setCell ?_ (by simp <;> omega) _ | refine Below.drew ?_)

set_option maxHeartbeats 1000000 in
theorem power_any (n : Nat) (w : World) (hn : n < 64) :
    Calls Tryd.prog 61 #[.int .i64 (n : Int)] w (Ret (.int .u64 (tn (1#64 <<< n))) w) := by
  go_enter Tryd.func61, Tryd.ntmps61
  go_wp2
  go_loop [3, 4] (fun p i => ∃ k : Nat, k ≤ n ∧ i = .int .i64 (k : Int) ∧ p = .int .u64 (tn (1#64 <<< k))) (fun _ i => n - (intOf i).toNat)
  case atStart => exact ⟨0, by omega, rfl, rfl⟩
  case round =>
    obtain ⟨k, hk, rfl, rfl⟩ := hrel
    by_cases hlt : k < n
    · go_wp2
      go_round
      case rel => exact ⟨k + 1, by omega, by go_num, by rw [wrap_mul_two, ← BitVec.shiftLeft_add]⟩
      case measure => simp [intOf]; omega
    · obtain rfl : k = n := by omega
      go_wp2
      go_ret
      exact ⟨rfl, Below.refl _ _⟩

set_option maxHeartbeats 1000000 in
theorem refHas_any (s : BS) (b : Nat) (w : World) (hb : b < 256) :
    Calls Tryd.prog 23 #[.agg s.cells, .int .u8 (b : Int)] w (Ret (.bool (s.has b)) w) := by
  have hb4 : b / 64 < 4 := by omega
  have hbm : b % 64 < 64 := by omega
  go_enter Tryd.func23, Tryd.ntmps23
  go_wp2_with fail
  (refine wp_region_quiet_all (C := Lies _) (by kernel_rfl) (by kernel_rfl) (Lies.drew (Lies.start _)) ?_; (repeat (first | (refine quiet_skip rfl ?_; simp only [Act.put, List.setIfInBounds_toArray, List.set_cons_zero, List.set_cons_succ]) | (apply quiet_op _ rfl; (focus (intro w1 hw1; have hc1 := hw1.cells; go_simp; (try go_bits); (try (rw [if_pos (by omega)]; go_simp)); first | (go_at_call 61; with_reducible exact Calls.lies hw1 (power_any (b % 64) _ (by omega))) | (go_at_call 61; exact Calls.lies hw1 (power_any (b % 64) _ (by omega))) | rfl)); simp only [Act.put, List.setIfInBounds_toArray, List.set_cons_zero, List.set_cons_succ]))); refine wpQuiet_nil ?_; intro w2 hw2)
  go_wp2
  go_ret
  refine ⟨?_, Lies.below hw2 (by simp) (by (repeat' first | exact Below.refl _ _ | assumption | refine Below.alloc ?_ (by simp <;> omega) _ | refine Below.setCell ?_ (by simp <;> omega) _ | refine Below.drew ?_))⟩
  simp only [shr_has]
  rfl
set_option maxHeartbeats 1000000 in
theorem setOf_any (s : ByteArray) (w : World) (hs : s.size ≤ 140737488351232) :
    Calls Tryd.prog 18 #[.string s] w (Ret (.agg (BS.ofBytes s.data.toList).cells) w) := by
  go_enter Tryd.func18, Tryd.ntmps18
  go_wp2_with fail
  go_loopw [4] (fun i wr => ∃ k : Nat, k ≤ s.size ∧ i = .int .i64 (k : Int) ∧ Below (w.heap.size + 1) (w.alloc (.cells BS.zero.cells 24)) wr ∧ Blk wr (w.heap.size + 1) 24 (BS.ofBytes (s.data.toList.take k)).cells) (fun i _ => s.size - (intOf i).toNat)
  case atStart => exact ⟨0, by omega, rfl, (Below.refl _ _).alloc (by simp) _, by have := Blk.new (w.alloc (.cells BS.zero.cells 24)) 24 BS.zero.cells; simp only [World.size_alloc] at this; exact this⟩
  case round =>
    obtain ⟨k, hk, rfl, hb, hB⟩ := hrel
    have hf := hB.free
    have hz := hB.lt
    by_cases hlt : k < s.size
    · have hc := hB.cell
      have hby := s[k].toNat_lt
      have hbym : s[k].toNat % 64 < 64 := by omega
      have hby4 : s[k].toNat / 64 < 4 := by omega
      go_wp2
      (refine wp_region_quiet_tail (C := Lies _) 12 (by kernel_rfl) (by kernel_rfl) (Lies.drew (Lies.start _)) ?_; simp only [List.take_succ_cons, List.take_zero, List.take_nil, List.drop_succ_cons, List.drop_zero, List.drop_nil]; (repeat (first | (refine quiet_skip rfl ?_; simp only [Act.put, List.setIfInBounds_toArray, List.set_cons_zero, List.set_cons_succ]) | (apply quiet_op _ rfl; (focus (intro w1 hw1; have hc1 := hw1.cells; go_simp; (try go_bits); (try (rw [if_pos (by omega)]; go_simp)); first | rfl)); simp only [Act.put, List.setIfInBounds_toArray, List.set_cons_zero, List.set_cons_succ]))); refine wpQuiet_nil ?_; intro w2 hw2)
      have hB2 := hB.lies hw2
      have hc2 := hB2.cell
      have hf2 := hB2.free
      go_wp2
      go_roundw
      case rel =>
        refine ⟨k + 1, by omega, by go_num, ?_, ?_⟩
        · exact (hb.trans (Below.mono hw2 (by omega))).setCell (Nat.le_refl _) _
        · rw [take_snoc s k hlt, BS.ofBytes_snoc]
          exact BS.ins_cells hB2 _ (by omega)
      case measure => simp [intOf]; omega
    · have hR : Blk wr w.heap.size 24 BS.zero.cells := (Blk.new w 24 _).below hb (by omega)
      have hcr := hR.cell
      have hfr := hR.free
      obtain rfl : k = s.size := by omega
      rw [take_all] at hB
      have hc := hB.cell
      go_wp2
      refine bodyPost_ret (v := .agg (BS.ofBytes s.data.toList).cells) (by simp [results, Tryd.results18, go_sem, hcr, take_all] <;> rfl) rfl ⟨rfl, ?_⟩
      have hb' : Below w.heap.size w wr := ((Below.refl _ _).alloc (Nat.le_refl _) _).trans (hb.mono (by omega))
      (repeat' first | exact Below.refl _ _ | assumption | refine Below.alloc ?_ (by simp <;> omega) _ | refine Below.setCell ?_ (by simp <;> omega) _ | refine Below.drew ?_)
end Go.Proofs.YtakcckdnliiieaaDoor
