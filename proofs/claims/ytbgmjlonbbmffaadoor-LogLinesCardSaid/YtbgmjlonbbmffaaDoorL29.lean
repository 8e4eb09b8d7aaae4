/- The document's word whether an item may be. -/
import Derived.Test.YtbgmjlonbbmffaaDoorL3
namespace Go.Proofs.YtbgmjlonbbmffaaDoor
open Go Go.RowKit
set_option maxRecDepth 100000 in
set_option maxHeartbeats 1000000 in
theorem numOk_any (n : Int) (w : World) : Calls Tryd.prog 54 #[.int .i64 n] w fun e w' => e = .returned (.bool (fitsB n)) ∧ w = w' := by
  by_cases h : 0 ≤ n
  · have d1 : decide (0 ≤ n) = true := decide_eq_true h
    have hf : fitsB n = decide (n ≤ 2147483647) := by unfold fitsB; rw [d1]; rfl
    rw [hf]
    clear hf
    go_enter Tryd.func54, Tryd.ntmps54
    go_wp2
    go_ret
    exact ⟨rfl, rfl⟩
  · have d1 : decide (0 ≤ n) = false := decide_eq_false h
    have hf : fitsB n = false := by unfold fitsB; rw [d1]; rfl
    rw [hf]
    clear hf
    go_enter Tryd.func54, Tryd.ntmps54
    go_wp2
    go_ret
    exact ⟨rfl, rfl⟩
theorem numOk_eq {n : Int} {b : Bool} (h : fitsB n = b) (w : World) : Calls Tryd.prog 54 #[.int .i64 n] w fun e w' => e = .returned (.bool b) ∧ w = w' := by rw [← h]; exact numOk_any n w
set_option maxRecDepth 100000 in
set_option maxHeartbeats 1000000 in
theorem refMay_any {x : ItemD} {pv : Value} {w : World} {F : Nat → Prop} (hp : IntsAt w F pv x.step.path) :
    Calls Tryd.prog 42 #[.agg #[.bool x.mark, .int .u8 (x.step.pass : Int), .int .u8 (x.step.way : Int), .int .i64 x.step.rule, pv, .int .i64 x.step.place]] w (Ret (.bool (mayB x)) w) := by
  obtain ⟨r, hr⟩ : ∃ r, r = mayB x := ⟨_, rfl⟩
  rw [← hr]
  obtain ⟨m, ⟨pass, way, rule, path, place⟩⟩ := x
  simp only at hp ⊢
  obtain ⟨oa, cap, hv⟩ := hp.slice
  have hml := hp.len
  have HP := Lib.hid hp
  have HR := Lib.hid hr
  clear hp hr
  subst hv
  cases m
  case true =>
    go_enter Tryd.func42, Tryd.ntmps42
    go_wp2
    all_goals
      go_ret
      refine ⟨ret_b ?_, below_boxes _ _⟩
      rw [HR.out, Bool.eq_iff_iff]
      simp only [mayB, if_true, Bool.and_eq_true, decide_eq_true_eq, beq_iff_eq, Bool.false_eq_true]
      constructor
      · intro h; first | exact h.elim | omega
      · rintro ⟨⟨⟨⟨h1, h2⟩, h3⟩, h4⟩, h5⟩; omega
  have hE : r = (path.all fitsB && (decide (pass ≠ 0) && fitsB rule && fitsB place && decide (path.length ≤ 32))) := by
    rw [HR.out]
    show (decide (pass ≠ 0) && fitsB rule && fitsB place && decide (path.length ≤ 32) && path.all fitsB) = _
    rw [Bool.and_comm]
  clear HR
  have HR := Lib.hid hE
  clear hE
  go_enter Tryd.func42, Tryd.ntmps42
  go_wp2
  obtain ⟨W0, hW0⟩ : ∃ W0, (w.alloc (.cells #[.bool false, .int .u8 (pass : Int), .int .u8 (way : Int), .int .i64 rule, .slice oa path.length cap, .int .i64 place] 50)).alloc (.cells #[.int .u8 (pass : Int), .int .u8 (way : Int), .int .i64 rule, .slice oa path.length cap, .int .i64 place] 35) = W0 := ⟨_, rfl⟩
  have HP0 : Hid (IntsAt W0 F (.slice oa path.length cap) path) := Lib.hid (by rw [← hW0]; exact (HP.out.alloc _).alloc _)
  have hb0 : Below w.heap.size w W0 := by rw [← hW0]; exact below_boxes _ _
  have hsz : W0.heap.size = w.heap.size + 2 := by rw [← hW0]; simp
  have hB0 : Blk W0 (w.heap.size + 1) 35 #[.int .u8 (pass : Int), .int .u8 (way : Int), .int .i64 rule, .slice oa path.length cap, .int .i64 place] := by
    rw [← hW0]
    have := Blk.new (w.alloc (.cells #[.bool false, .int .u8 (pass : Int), .int .u8 (way : Int), .int .i64 rule, .slice oa path.length cap, .int .i64 place] 50)) 35 #[.int .u8 (pass : Int), .int .u8 (way : Int), .int .i64 rule, .slice oa path.length cap, .int .i64 place]
    simpa using this
  have c0 : W0.cell? ⟨w.heap.size + 1, 0, none⟩ = some (.int .u8 (pass : Int)) := hB0.cell 0
  have c2 : W0.cell? ⟨w.heap.size + 1, 2, none⟩ = some (.int .i64 rule) := hB0.cell 2
  have c3 : W0.cell? ⟨w.heap.size + 1, 3, none⟩ = some (.slice oa path.length cap) := hB0.cell 3
  have c4 : W0.cell? ⟨w.heap.size + 1, 4, none⟩ = some (.int .i64 place) := hB0.cell 4
  rw [hW0]
  clear hW0 HP hB0
  go_loop [4] (fun j => ∃ k : Nat, j = .int .i64 (k : Int) ∧ k ≤ path.length ∧ (path.take k).all fitsB = true) (fun j => path.length - (intOf j).toNat)
  case atStart => exact ⟨0, rfl, by omega, rfl⟩
  case round =>
    obtain ⟨k, rfl, hk, hal⟩ := hrel
    by_cases hlt : k < path.length
    case neg =>
      have d1 : decide (k < path.length) = false := decide_eq_false hlt
      rw [List.take_of_length_le (by omega)] at hal
      have hr := HR.out
      rw [hal, Bool.true_and] at hr
      clear hal HR
      by_cases h1 : pass = 0
      · subst h1
        obtain rfl : r = false := by rw [hr]; simp
        clear hr
        go_wp2
        go_ret
        exact ⟨rfl, hb0⟩
      have d2 : decide (0 < (pass : Int)) = true := decide_eq_true (by omega)
      cases h2 : fitsB rule
      · obtain rfl : r = false := by rw [hr]; simp [h2]
        have k2 := numOk_eq h2
        clear hr h2
        go_wp2_with (go_at_call 54; (with_reducible refine (k2 _).mono ?_); rintro e w' ⟨rfl, rfl⟩)
        go_ret
        exact ⟨rfl, hb0⟩
      cases h3 : fitsB place
      · obtain rfl : r = false := by rw [hr]; simp [h3]
        have k2 := numOk_eq h2
        have k3 := numOk_eq h3
        clear hr h2 h3
        go_wp2_with (first | (go_at_call 54; (with_reducible refine (k2 _).mono ?_); rintro e w' ⟨rfl, rfl⟩) | (go_at_call 54; (with_reducible refine (k3 _).mono ?_); rintro e w' ⟨rfl, rfl⟩))
        go_ret
        exact ⟨rfl, hb0⟩
      obtain rfl : r = decide ((path.length : Int) ≤ 32) := by rw [hr]; simp [h1, h2, h3]; omega
      have k2 := numOk_eq h2
      have k3 := numOk_eq h3
      clear hr h2 h3
      go_wp2_with (first | (go_at_call 54; (with_reducible refine (k2 _).mono ?_); rintro e w' ⟨rfl, rfl⟩) | (go_at_call 54; (with_reducible refine (k3 _).mono ?_); rintro e w' ⟨rfl, rfl⟩))
      go_ret
      exact ⟨ret_b rfl, hb0⟩
    have d1 : decide (k < path.length) = true := decide_eq_true hlt
    obtain ⟨b, off, cap', hv, _, hc, hb⟩ := HP0.out.cell hlt
    injection hv with e1 e2 e3
    subst e1
    clear e2 e3
    cases hf : fitsB path[k]
    · obtain rfl : r = false := by
        rw [HR.out, show path.all fitsB = false from List.all_eq_false.2 ⟨_, List.getElem_mem hlt, by rw [hf]; simp⟩]; rfl
      have k2 := numOk_eq hf
      clear hal hf
      go_wp2_with (go_at_call 54; refine (k2 _).mono ?_; rintro e w' ⟨rfl, rfl⟩)
      go_ret
      exact ⟨rfl, hb0⟩
    · have k2 := numOk_eq hf
      have HN : Hid ((path.take (k + 1)).all fitsB = true) := Lib.hid (by rw [List.take_succ_eq_append_getElem hlt, List.all_append, hal]; simp [hf])
      clear hal hf
      go_wp2_with (go_at_call 54; refine (k2 _).mono ?_; rintro e w' ⟨rfl, rfl⟩)
      go_round
      case rel => exact ⟨k + 1, by go_num, by omega, HN.out⟩
      case measure => simp [intOf]; omega
end Go.Proofs.YtbgmjlonbbmffaaDoor
