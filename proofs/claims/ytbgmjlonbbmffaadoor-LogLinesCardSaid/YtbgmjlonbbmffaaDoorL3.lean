/- Whether an item may be. -/
import Derived.Test.YtbgmjlonbbmffaaDoorL2
namespace Go.Proofs.YtbgmjlonbbmffaaDoor
open Go Go.RowKit
def fitsB (n : Int) : Bool := decide (0 ≤ n) && decide (n ≤ 2147483647)
def mayB (x : ItemD) : Bool :=
  if x.mark then decide (x.step.pass = 0) && decide (x.step.way = 0) && decide (x.step.rule = 0) && decide (x.step.place = 0) && decide (x.step.path.length = 0)
  else decide (x.step.pass ≠ 0) && fitsB x.step.rule && fitsB x.step.place && decide (x.step.path.length ≤ 32) && x.step.path.all fitsB
set_option maxRecDepth 100000 in
set_option maxHeartbeats 1000000 in
theorem fits_any (n : Int) (w : World) : Calls Tryd.prog 31 #[.int .i64 n] w fun e w' => e = .returned (.bool (fitsB n)) ∧ w = w' := by
  by_cases h : 0 ≤ n
  · have d1 : decide (0 ≤ n) = true := decide_eq_true h
    have hf : fitsB n = decide (n ≤ 2147483647) := by unfold fitsB; rw [d1]; rfl
    rw [hf]
    clear hf
    go_enter Tryd.func31, Tryd.ntmps31
    go_wp2
    go_ret
    exact ⟨rfl, rfl⟩
  · have d1 : decide (0 ≤ n) = false := decide_eq_false h
    have hf : fitsB n = false := by unfold fitsB; rw [d1]; rfl
    rw [hf]
    clear hf
    go_enter Tryd.func31, Tryd.ntmps31
    go_wp2
    go_ret
    exact ⟨rfl, rfl⟩
theorem fits_eq {n : Int} {b : Bool} (h : fitsB n = b) (w : World) : Calls Tryd.prog 31 #[.int .i64 n] w fun e w' => e = .returned (.bool b) ∧ w = w' := by rw [← h]; exact fits_any n w
theorem ret_b {b c : Bool} (h : b = c) : Ending.returned (.bool b) = .returned (.bool c) := by rw [h]
theorem below_boxes {w : World} (o1 o2 : Obj) : Below w.heap.size w ((w.alloc o1).alloc o2) := ((Below.refl _ _).alloc (Nat.le_refl _) _).alloc (by simp) _
set_option maxRecDepth 100000 in
set_option maxHeartbeats 1000000 in
theorem may_any {x : ItemD} {pv : Value} {w : World} {F : Nat → Prop} (hp : IntsAt w F pv x.step.path) :
    Calls Tryd.prog 15 #[.agg #[.bool x.mark, .int .u8 (x.step.pass : Int), .int .u8 (x.step.way : Int), .int .i64 x.step.rule, pv, .int .i64 x.step.place]] w (Ret (.bool (mayB x)) w) := by
  obtain ⟨r, hr⟩ : ∃ r, r = mayB x := ⟨_, rfl⟩
  rw [← hr]
  obtain ⟨m, ⟨pass, way, rule, path, place⟩⟩ := x
  simp only at hp ⊢
  obtain ⟨oa, cap, hv⟩ := hp.slice
  have hml := hp.len
  have HP := Lib.hid hp
  have HR := Lib.hid hr
  clear hp hr
  subst hv
  cases m
  case true =>
    go_enter Tryd.func15, Tryd.ntmps15
    go_wp2
    all_goals
      go_ret
      refine ⟨ret_b ?_, below_boxes _ _⟩
      rw [HR.out, Bool.eq_iff_iff]
      simp only [mayB, if_true, Bool.and_eq_true, decide_eq_true_eq, beq_iff_eq, Bool.false_eq_true]
      constructor
      · intro h; first | exact h.elim | omega
      · rintro ⟨⟨⟨⟨h1, h2⟩, h3⟩, h4⟩, h5⟩; omega
  have hcase : (r = false ∧ (pass = 0 ∨ (pass ≠ 0 ∧ fitsB rule = false) ∨ (pass ≠ 0 ∧ fitsB rule = true ∧ fitsB place = false) ∨ (pass ≠ 0 ∧ fitsB rule = true ∧ fitsB place = true ∧ 32 < path.length))) ∨ (pass ≠ 0 ∧ fitsB rule = true ∧ fitsB place = true ∧ path.length ≤ 32 ∧ r = path.all fitsB) := by
    rw [HR.out]
    unfold mayB
    by_cases h1 : pass = 0
    · exact .inl ⟨by simp [h1], .inl h1⟩
    cases h2 : fitsB rule
    · exact .inl ⟨by simp [h2], .inr (.inl ⟨h1, rfl⟩)⟩
    cases h3 : fitsB place
    · exact .inl ⟨by simp [h3], .inr (.inr (.inl ⟨h1, rfl, rfl⟩))⟩
    by_cases h4 : path.length ≤ 32
    · exact .inr ⟨h1, rfl, rfl, h4, by simp [h1, h2, h3, h4]⟩
    · exact .inl ⟨by simp [h4], .inr (.inr (.inr ⟨h1, rfl, rfl, by omega⟩))⟩
  rcases hcase with ⟨rfl, h1 | ⟨h1, h2⟩ | ⟨h1, h2, h3⟩ | ⟨h1, h2, h3, h4⟩⟩ | ⟨h1, h2, h3, h4, hall⟩
  · subst h1
    clear HR
    go_enter Tryd.func15, Tryd.ntmps15
    go_wp2
    go_ret
    exact ⟨rfl, below_boxes _ _⟩
  · have d1 : ((pass : Int) == 0) = false := by simp; omega
    have k2 := fits_eq h2
    clear h1 h2 HR
    go_enter Tryd.func15, Tryd.ntmps15
    go_wp2_with (go_at_call 31; refine (k2 _).mono ?_; rintro e w' ⟨rfl, rfl⟩)
    go_ret
    exact ⟨rfl, below_boxes _ _⟩
  · have d1 : ((pass : Int) == 0) = false := by simp; omega
    have k2 := fits_eq h2
    have k3 := fits_eq h3
    clear h1 h2 h3 HR
    go_enter Tryd.func15, Tryd.ntmps15
    go_wp2_with (first | (go_at_call 31; (with_reducible refine (k2 _).mono ?_); rintro e w' ⟨rfl, rfl⟩) | (go_at_call 31; (with_reducible refine (k3 _).mono ?_); rintro e w' ⟨rfl, rfl⟩))
    go_ret
    exact ⟨rfl, below_boxes _ _⟩
  · have d1 : ((pass : Int) == 0) = false := by simp; omega
    have d2 : decide (32 < (path.length : Int)) = true := decide_eq_true (by omega)
    have k2 := fits_eq h2
    have k3 := fits_eq h3
    clear h1 h2 h3 HR
    go_enter Tryd.func15, Tryd.ntmps15
    go_wp2_with (first | (go_at_call 31; (with_reducible refine (k2 _).mono ?_); rintro e w' ⟨rfl, rfl⟩) | (go_at_call 31; (with_reducible refine (k3 _).mono ?_); rintro e w' ⟨rfl, rfl⟩))
    go_ret
    exact ⟨rfl, below_boxes _ _⟩
  · have d1 : ((pass : Int) == 0) = false := by simp; omega
    have d2 : decide (32 < (path.length : Int)) = false := decide_eq_false (by omega)
    have k2 := fits_eq h2
    have k3 := fits_eq h3
    have HALL := Lib.hid hall
    clear h1 h2 h3 HR hall
    go_enter Tryd.func15, Tryd.ntmps15
    go_wp2_with (first | (go_at_call 31; (with_reducible refine (k2 _).mono ?_); rintro e w' ⟨rfl, rfl⟩) | (go_at_call 31; (with_reducible refine (k3 _).mono ?_); rintro e w' ⟨rfl, rfl⟩))
    obtain ⟨W0, hW0⟩ : ∃ W0, (w.alloc (.cells #[.bool false, .int .u8 (pass : Int), .int .u8 (way : Int), .int .i64 rule, .slice oa path.length cap, .int .i64 place] 37)).alloc (.cells #[.int .u8 (pass : Int), .int .u8 (way : Int), .int .i64 rule, .slice oa path.length cap, .int .i64 place] 35) = W0 := ⟨_, rfl⟩
    have HP0 : Hid (IntsAt W0 F (.slice oa path.length cap) path) := Lib.hid (by rw [← hW0]; exact (HP.out.alloc _).alloc _)
    have hb0 : Below w.heap.size w W0 := by rw [← hW0]; exact below_boxes _ _
    rw [hW0]
    clear hW0 HP k2 k3 d1 d2
    go_loop [58] (fun j => ∃ k : Nat, j = .int .i64 (k : Int) ∧ k ≤ path.length ∧ (path.take k).all fitsB = true) (fun j => path.length - (intOf j).toNat)
    case atStart => exact ⟨0, rfl, by omega, rfl⟩
    case round =>
      obtain ⟨k, rfl, hk, hal⟩ := hrel
      by_cases hlt : k < path.length
      case neg =>
        have d1 : decide (k < path.length) = false := decide_eq_false hlt
        obtain rfl : r = true := by rw [HALL.out]; rwa [List.take_of_length_le (by omega)] at hal
        clear hal
        go_wp2
        go_ret
        exact ⟨rfl, hb0⟩
      have d1 : decide (k < path.length) = true := decide_eq_true hlt
      obtain ⟨b, off, cap', hv, _, hc, hb⟩ := HP0.out.cell hlt
      injection hv with e1 e2 e3
      subst e1
      clear e2 e3
      cases hf : fitsB path[k]
      · obtain rfl : r = false := by
          rw [HALL.out, List.all_eq_false]
          exact ⟨_, List.getElem_mem hlt, by rw [hf]; simp⟩
        have k2 := fits_eq hf
        clear hal hf
        go_wp2_with (go_at_call 31; refine (k2 _).mono ?_; rintro e w' ⟨rfl, rfl⟩)
        go_ret
        exact ⟨rfl, hb0⟩
      · have k2 := fits_eq hf
        have HN : Hid ((path.take (k + 1)).all fitsB = true) := Lib.hid (by rw [List.take_succ_eq_append_getElem hlt, List.all_append, hal]; simp [hf])
        clear hal hf
        go_wp2_with (go_at_call 31; refine (k2 _).mono ?_; rintro e w' ⟨rfl, rfl⟩)
        go_round
        case rel => exact ⟨k + 1, by go_num, by omega, HN.out⟩
        case measure => simp [intOf]; omega
end Go.Proofs.YtbgmjlonbbmffaaDoor
