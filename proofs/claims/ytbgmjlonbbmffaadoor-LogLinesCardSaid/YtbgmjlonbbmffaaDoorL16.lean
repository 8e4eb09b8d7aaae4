/- slices.Equal and slices.Clone at ints, in plain words; sameItem, EqualFunc, Same. -/
import Derived.Test.YtbgmjlonbbmffaaDoorL12
import Derived.Test.YtbgmjlonbbmffaaDoorShelf
import Derived.Deep.Cut
import Derived.Lib.AppendIntMem
namespace Go.Proofs.YtbgmjlonbbmffaaDoor
open Go Go.RowKit
attribute [local go_sem] Oper.quietAt Oper.quietUpon
theorem below_drewN (w : World) (q : Nat) : Below w.heap.size w (w.drewN q) := by
  have := Lib.below_grow w.heap.size w (Nat.le_refl _) q #[]
  rwa [Sort.grow_empty] at this
theorem equal_any {w : World} {F G : Nat → Prop} {p q : Value} {l m : List Int} (hp : IntsAt w F p l) (hq : IntsAt w G q m) : Calls Tryd.prog 44 #[p, q] w (Ret (.bool (decide (l = m))) w) := by
  have h1 := hp.len
  have h2 := hq.len
  obtain ⟨oa, c, rfl, _, hp⟩ := hp
  obtain ⟨ob, d, rfl, _, hq⟩ := hq
  by_cases hlen : l.length = m.length
  case neg =>
    refine (Tryd.slices_Equal_int_lens oa ob l.length c m.length d w hlen).mono ?_
    rintro e w' ⟨rfl, rfl⟩
    exact ⟨by rw [decide_eq_false (fun e => hlen (by rw [e]))], Below.refl _ _⟩
  by_cases hl : l = []
  · subst hl
    have hm : m = [] := List.eq_nil_of_length_eq_zero hlen.symm
    subst hm
    refine (Tryd.slices_Equal_int_empty oa ob c 0 d w (by omega)).mono ?_
    rintro e w' ⟨rfl, rfl⟩
    exact ⟨rfl, Below.refl _ _⟩
  · have hm : m ≠ [] := fun e => hl (List.eq_nil_of_length_eq_zero (by rw [hlen, e]; rfl))
    obtain ⟨b1, o1, rfl, _, c1⟩ := hp hl
    obtain ⟨b2, o2, rfl, _, c2⟩ := hq hm
    refine (Tryd.slices_Equal_int b1 o1 l.length c b2 o2 m.length d l m w (Nat.le_refl _) (Nat.le_refl _) h1 h2 (fun j hj => ?_) (fun j hj => ?_)).mono ?_
    · exact c1 j _ (by rw [List.getElem?_eq_getElem hj, List.getD_eq_getElem?_getD, List.getElem?_eq_getElem hj]; rfl)
    · exact c2 j _ (by rw [List.getElem?_eq_getElem hj, List.getD_eq_getElem?_getD, List.getElem?_eq_getElem hj]; rfl)
    · rintro e w' ⟨rfl, q, rfl⟩
      refine ⟨?_, below_drewN w q⟩
      rw [List.take_length, List.take_length]
      congr 2
      rw [Bool.eq_iff_iff]
      simp
/-- slices.Clone: a copy in memory of its own. -/
theorem clone_any {w : World} {F : Nat → Prop} {p : Value} {l : List Int} (hp : IntsAt w F p l) (hl : l.length ≤ 100000) :
    Calls Tryd.prog 45 #[p] w fun x w' => ∃ v, x = .returned v ∧ w'.ownsRow w.heap.size 3 1 v l.length (l.map (Value.int .i64)) ∧ Lies w w' := by
  obtain ⟨oa, c, rfl, _, hp⟩ := hp
  cases oa with
  | none =>
    have hl : l = [] := by
      rcases Classical.em (l = []) with h | h
      · exact h
      · obtain ⟨b, o, h1, _⟩ := hp h; cases h1
    subst hl
    refine (Tryd.slices_Clone_nil 0 c w).mono ?_
    rintro e w' ⟨rfl, rfl⟩
    exact ⟨_, rfl, World.ownsRow_nil _ _ _ _, Below.refl _ _⟩
  | some a =>
    by_cases hl0 : l = []
    · subst hl0
      refine (Tryd.slices_Clone_int_zero a c w).mono ?_
      rintro e w' ⟨v, rfl, h1, _, h2⟩
      exact ⟨v, rfl, h1, h2⟩
    · obtain ⟨b, o, h1, _, h2⟩ := hp hl0
      injection h1 with h1
      subst h1
      refine (Tryd.slices_Clone_int b o l.length c l w (Nat.le_refl _) (by omega) (fun j hj => h2 j _ (by rw [List.getElem?_eq_getElem hj, List.getD_eq_getElem?_getD, List.getElem?_eq_getElem hj]; rfl))).mono ?_
      rintro e w' ⟨v, rfl, h1, _, h2⟩
      rw [List.take_length] at h1
      exact ⟨v, rfl, h1, h2⟩
set_option maxRecDepth 100000 in
set_option maxHeartbeats 2000000 in
theorem sameItem_any {x y : ItemD} {p q : Value} {w : World} {F G : Nat → Prop} (hp : IntsAt w F p x.step.path) (hq : IntsAt w G q y.step.path) :
    Calls Tryd.prog 28 #[.agg #[.bool x.mark, .int .u8 (x.step.pass : Int), .int .u8 (x.step.way : Int), .int .i64 x.step.rule, p, .int .i64 x.step.place], .agg #[.bool y.mark, .int .u8 (y.step.pass : Int), .int .u8 (y.step.way : Int), .int .i64 y.step.rule, q, .int .i64 y.step.place]] w (Ret (.bool (decide (x = y))) w) := by
  obtain ⟨r, hr⟩ : ∃ r, r = decide (x = y) := ⟨_, rfl⟩
  rw [← hr]
  obtain ⟨m, ⟨a1, b1, c1, l1, d1⟩⟩ := x
  obtain ⟨n, ⟨a2, b2, c2, l2, d2⟩⟩ := y
  simp only at hp hq ⊢
  simp only [ItemD.mk.injEq, StepD.mk.injEq] at hr
  have HR := Lib.hid hr
  clear hr
  obtain ⟨oa, c, hv⟩ := hp.slice
  obtain ⟨ob, d, hu⟩ := hq.slice
  have hz1 := hp.len
  have hz2 := hq.len
  subst hv hu
  have HP := Lib.hid hp
  have HQ := Lib.hid hq
  clear hp hq
  go_enter Tryd.func28, Tryd.ntmps28
  go_upto_region 1 with (fail)
  go_region
  all_goals
    by_cases h1 : m = n
    · subst h1
      by_cases h2 : a1 = a2
      · subst h2
        by_cases h3 : b1 = b2
        · subst h3
          by_cases h4 : c1 = c2
          · subst h4
            by_cases h5 : d1 = d2
            · subst h5
              obtain rfl : r = decide (l1 = l2) := by rw [HR.out]; simp
              clear HR
              go_wp2_with (go_at_call 44; refine (equal_any (F := F) (G := G) (HP.out.lies (by (try unfold Lies); (repeat' first | exact Below.refl _ _ | assumption | refine Below.alloc ?_ (by simp <;> omega) _ | refine Below.setCell ?_ (by simp <;> omega) _ | refine Below.drew ?_))) (HQ.out.lies (by (try unfold Lies); (repeat' first | exact Below.refl _ _ | assumption | refine Below.alloc ?_ (by simp <;> omega) _ | refine Below.setCell ?_ (by simp <;> omega) _ | refine Below.drew ?_)))).mono ?_; rintro e w' ⟨rfl, hl'⟩)
              go_ret
              refine ⟨rfl, Lies.below hl' (by simp; omega) ?_⟩
              (try unfold Lies)
              (repeat' first | exact Below.refl _ _ | assumption | refine Below.alloc ?_ (by simp <;> omega) _ | refine Below.setCell ?_ (by simp <;> omega) _ | refine Below.drew ?_)
            · obtain rfl : r = false := by rw [HR.out]; simp [h5]
              have e5 : (d1 == d2) = false := by simp [h5]
              clear HR h5
              go_wp2
              go_ret
              refine ⟨rfl, ?_⟩
              (repeat' first | exact Below.refl _ _ | assumption | refine Below.alloc ?_ (by simp <;> omega) _ | refine Below.setCell ?_ (by simp <;> omega) _ | refine Below.drew ?_)
          · obtain rfl : r = false := by rw [HR.out]; simp [h4]
            have e4 : (c1 == c2) = false := by simp [h4]
            clear HR h4
            go_wp2
            go_ret
            refine ⟨rfl, ?_⟩
            (repeat' first | exact Below.refl _ _ | assumption | refine Below.alloc ?_ (by simp <;> omega) _ | refine Below.setCell ?_ (by simp <;> omega) _ | refine Below.drew ?_)
        · obtain rfl : r = false := by rw [HR.out]; simp [h3]
          have e3 : ((b1 : Int) == (b2 : Int)) = false := by simp; omega
          clear HR h3
          go_wp2
          go_ret
          refine ⟨rfl, ?_⟩
          (repeat' first | exact Below.refl _ _ | assumption | refine Below.alloc ?_ (by simp <;> omega) _ | refine Below.setCell ?_ (by simp <;> omega) _ | refine Below.drew ?_)
      · obtain rfl : r = false := by rw [HR.out]; simp [h2]
        have e2 : ((a1 : Int) == (a2 : Int)) = false := by simp; omega
        clear HR h2
        go_wp2
        go_ret
        refine ⟨rfl, ?_⟩
        (repeat' first | exact Below.refl _ _ | assumption | refine Below.alloc ?_ (by simp <;> omega) _ | refine Below.setCell ?_ (by simp <;> omega) _ | refine Below.drew ?_)
    · obtain rfl : r = false := by rw [HR.out]; simp [h1]
      have e1 : (m == n) = false := by simp [h1]
      clear HR h1
      go_wp2
      go_ret
      refine ⟨rfl, ?_⟩
      (repeat' first | exact Below.refl _ _ | assumption | refine Below.alloc ?_ (by simp <;> omega) _ | refine Below.setCell ?_ (by simp <;> omega) _ | refine Below.drew ?_)
set_option maxRecDepth 100000 in
set_option maxHeartbeats 1500000 in
theorem equalFunc_any {p q : Value} {l m : List ItemD} {w : World} {F G : Nat → Prop} (hI : ItemsAt w F p l) (hJ : ItemsAt w G q m) (hF : ∀ b, F b → b < w.heap.size) (hG : ∀ b, G b → b < w.heap.size) :
    Calls Tryd.prog 27 #[p, q, .func (.func 28) #[] #[]] w (Ret (.bool (decide (l = m))) w) := by
  obtain ⟨r, hr⟩ : ∃ r, r = decide (l = m) := ⟨_, rfl⟩
  rw [← hr]
  obtain ⟨oa, c, hv⟩ := hI.slice
  obtain ⟨ob, d, hu⟩ := hJ.slice
  have hz1 := hI.len
  have hz2 := hJ.len
  have HI := Lib.hid hI
  have HJ := Lib.hid hJ
  have HR := Lib.hid hr
  clear hI hJ hr
  subst hv hu
  by_cases hlen : l.length = m.length
  case neg =>
    have d1 : decide (l.length = m.length) = false := decide_eq_false hlen
    obtain rfl : r = false := by rw [HR.out]; exact decide_eq_false (fun e => hlen (by rw [e]))
    go_enter Tryd.func27, Tryd.ntmps27
    go_wp2
    go_ret
    exact ⟨rfl, Below.refl _ _⟩
  rw [hlen]
  have HL := Lib.hid hlen
  clear hlen
  go_enter Tryd.func27, Tryd.ntmps27
  go_wp2_with fail
  go_loopw [17] (fun j wr => ∃ k : Nat, j = .int .i64 (k : Int) ∧ k ≤ m.length ∧ Lies w wr ∧ Hid (l.take k = m.take k)) (fun j _ => m.length - (intOf j).toNat)
  case atStart => exact ⟨0, rfl, by omega, Lies.start w, Lib.hid (by simp)⟩
  case round =>
    obtain ⟨k, rfl, hk, hl, ht⟩ := hrel
    by_cases hlt : k < m.length
    case neg =>
      have d1 : decide (k < m.length) = false := decide_eq_false hlt
      obtain rfl : r = true := by
        have := ht.out
        rw [List.take_of_length_le (by rw [HL.out]; omega), List.take_of_length_le (by omega)] at this
        rw [HR.out]; exact decide_eq_true this
      go_wp2
      go_ret
      exact ⟨rfl, hl⟩
    have d1 : decide (k < m.length) = true := decide_eq_true hlt
    have hlt' : k < l.length := by rw [HL.out]; omega
    obtain ⟨b1, f1, c1, pv, hv, hF1, hb1, hp, hx, a0, a1, a2, a3, a4, a5⟩ := (HI.out.lies hl).cell hlt'
    obtain ⟨b2, f2, c2, qv, hu, hG1, hb2, hq, hy, e0, e1, e2, e3, e4, e5⟩ := (HJ.out.lies hl).cell hlt
    injection hv with i1 i2 i3
    injection hu with j1 j2 j3
    subst i1 j1
    clear i2 i3 j2 j3
    obtain ⟨oa2, cap2, hpv⟩ := hp.slice
    obtain ⟨ob2, cap3, hqv⟩ := hq.slice
    have HT : Hid (l.take (k + 1) = m.take (k + 1) ↔ l[k] = m[k]) := Lib.hid (by
      rw [List.take_succ_eq_append_getElem hlt', List.take_succ_eq_append_getElem hlt, ht.out, List.append_cancel_left_eq]; simp)
    have HNE : Hid (l[k] ≠ m[k] → l ≠ m) := Lib.hid (fun h e => h (by subst e; rfl))
    generalize l[k] = x at *
    generalize m[k] = y at *
    clear hlt'
    have HP := Lib.hid hp
    have HQ := Lib.hid hq
    clear hp hq
    subst hpv hqv
    cases hxy : decide (x = y)
    · obtain rfl : r = false := by rw [HR.out]; exact decide_eq_false (HNE.out (of_decide_eq_false hxy))
      go_wp2_with (go_at_call 28; refine (sameItem_any (F := F) (G := G) (x := x) (y := y) (HP.out.lies (by (try unfold Lies); (repeat' first | exact Below.refl _ _ | assumption | refine Below.alloc ?_ (by simp <;> omega) _ | refine Below.setCell ?_ (by simp <;> omega) _ | refine Below.drew ?_))) (HQ.out.lies (by (try unfold Lies); (repeat' first | exact Below.refl _ _ | assumption | refine Below.alloc ?_ (by simp <;> omega) _ | refine Below.setCell ?_ (by simp <;> omega) _ | refine Below.drew ?_)))).mono ?_; rw [hxy]; rintro e w' ⟨rfl, hl'⟩)
      go_ret
      refine ⟨rfl, Lies.below hl' (by have := hl.size; simp; omega) (Below.alloc (Below.alloc hl (by have := hl.size; omega) _) (by have := hl.size; simp; omega) _)⟩
    · go_wp2_with (go_at_call 28; refine (sameItem_any (F := F) (G := G) (x := x) (y := y) (HP.out.lies (by (try unfold Lies); (repeat' first | exact Below.refl _ _ | assumption | refine Below.alloc ?_ (by simp <;> omega) _ | refine Below.setCell ?_ (by simp <;> omega) _ | refine Below.drew ?_))) (HQ.out.lies (by (try unfold Lies); (repeat' first | exact Below.refl _ _ | assumption | refine Below.alloc ?_ (by simp <;> omega) _ | refine Below.setCell ?_ (by simp <;> omega) _ | refine Below.drew ?_)))).mono ?_; rw [hxy]; rintro e w' ⟨rfl, hl'⟩)
      go_roundw
      case rel =>
        exact ⟨k + 1, by go_num, by omega, Lies.below hl' (by have := hl.size; simp; omega) (Below.alloc (Below.alloc hl (by have := hl.size; omega) _) (by have := hl.size; simp; omega) _), Lib.hid (HT.out.2 (of_decide_eq_true hxy))⟩
      case measure => simp [intOf]; omega
set_option maxHeartbeats 1000000 in
theorem same_any {p q : Value} {l m : List ItemD} {w : World} {F G : Nat → Prop} (hI : ItemsAt w F p l) (hJ : ItemsAt w G q m) (hF : ∀ b, F b → b < w.heap.size) (hG : ∀ b, G b → b < w.heap.size) :
    Calls Tryd.prog 10 #[p, q] w (Ret (.bool (decide (l = m))) w) := by
  have k := equalFunc_any hI hJ hF hG
  obtain ⟨oa, c, hv⟩ := hI.slice
  obtain ⟨ob, d, hu⟩ := hJ.slice
  subst hv hu
  clear hI hJ
  obtain ⟨r, hr⟩ : ∃ r, r = decide (l = m) := ⟨_, rfl⟩
  rw [← hr] at k ⊢
  clear hr
  go_enter Tryd.func10, Tryd.ntmps10
  go_wp2_with (go_at_call 27; refine k.mono ?_; rintro e w' ⟨rfl, hl⟩)
  go_ret
  exact ⟨rfl, hl⟩
end Go.Proofs.YtbgmjlonbbmffaaDoor
