/- QuotePlain, walked. -/
import Derived.Test.YtakcckdnliiieaaDoorQ32
namespace Go.Proofs.YtakcckdnliiieaaDoor
open Go Go.RowKit
attribute [local go_sem] Oper.quietAt Oper.quietUpon Oper.loudAt Oper.loudUpon
/-- What a text has to be: the statement's three tests. -/
structure PlainT (X : ByteArray) : Prop where
  pos : 1 ≤ X.size
  one : X.size = 1 → X = ⟨#[46]⟩
  size : X.size ≤ 30000
  seen : ∀ i (h : i < X.size), 32 ≤ X[i].toNat ∧ X[i].toNat ≤ 126
  lit : ∀ i (h : i + 1 < X.size) (h0 : 0 < i), X[0].toNat = 34 → X[i].toNat = 34 → X[i - 1].toNat = 92
  cls : ∀ i (h : i + 1 < X.size) (h0 : 0 < i), X[0].toNat ≠ 34 → X[i].toNat = 93 → X[i - 1].toNat = 92
theorem get_list {l : List UInt8} {i : Nat} (h : i < (ByteArray.mk l.toArray).size) : l[i]? = some (ByteArray.mk l.toArray)[i] := by
  have h2 : i < l.length := by rwa [arr_size] at h
  rw [List.getElem?_eq_getElem h2]; rfl
theorem plain_lit (l : List UInt8) (hl : l.length ≤ 5000) : PlainT ⟨(litB l).toArray⟩ := by
  obtain ⟨h1, h2, h3, h4⟩ := litB_plain l
  have h5 : (litB l).length ≤ 4 * l.length + 2 := by have := sgns_len [34] l; unfold litB; simp; omega
  have g0 : ∀ (h : 0 < (ByteArray.mk (litB l).toArray).size), (ByteArray.mk (litB l).toArray)[0].toNat = 34 := fun h => by
    have := get_list h; rw [h2] at this; injection this with this; rw [← this]; rfl
  refine ⟨by rw [arr_size]; omega, fun h => by rw [arr_size] at h; omega, by rw [arr_size]; omega, fun i h => h3 _ (List.mem_of_getElem? (get_list h)), fun i h h0 _ hz => ?_, fun i h h0 hn _ => absurd (g0 (by omega)) hn⟩
  have e1 := get_list (l := litB l) (i := i) (by omega)
  have e2 := get_list (l := litB l) (i := i - 1) (by omega)
  have e3 := h4 i h0 (by rw [arr_size] at h; exact h) (by rw [e1]; congr 1; exact UInt8.toNat_inj.1 (by rw [hz]; rfl))
  rw [e3] at e2
  injection e2 with e2
  rw [← e2]; rfl
theorem plain_cls (x : BS) : PlainT ⟨(classB x).toArray⟩ := by
  have h5 := classB_bd x
  by_cases hx : x = BS.full
  · rw [hx, classB_full]
    exact ⟨by decide, fun _ => rfl, by decide, fun i h => by
      have : i = 0 := by have h2 : (ByteArray.mk #[46]).size = 1 := rfl; rw [h2] at h; omega
      subst this; exact ⟨by show 32 ≤ 46; omega, by show 46 ≤ 126; omega⟩, fun i h h0 => by have h2 : (ByteArray.mk #[46]).size = 1 := rfl; rw [h2] at h; omega, fun i h h0 => by have h2 : (ByteArray.mk #[46]).size = 1 := rfl; rw [h2] at h; omega⟩
  obtain ⟨h1, h2, h3, h4⟩ := classB_plain hx
  have g0 : ∀ (h : 0 < (ByteArray.mk (classB x).toArray).size), (ByteArray.mk (classB x).toArray)[0].toNat = 91 := fun h => by
    have := get_list h; rw [h2] at this; injection this with this; rw [← this]; rfl
  refine ⟨by rw [arr_size]; omega, fun h => by rw [arr_size] at h; omega, by rw [arr_size]; omega, fun i h => h3 _ (List.mem_of_getElem? (get_list h)), fun i h h0 hn _ => by have := g0 (by omega); omega, fun i h h0 _ hz => ?_⟩
  have e1 := get_list (l := classB x) (i := i) (by omega)
  have e2 := get_list (l := classB x) (i := i - 1) (by omega)
  have e3 := h4 i h0 (by rw [arr_size] at h; exact h) (by rw [e1]; congr 1; exact UInt8.toNat_inj.1 (by rw [hz]; rfl))
  rw [e3] at e2
  injection e2 with e2
  rw [← e2]; rfl
set_option maxRecDepth 100000 in
set_option maxHeartbeats 4000000 in
theorem quotePlain_any (s : ByteArray) (x : BS) (w : World) (he : Env w) (hs0 : s.size ≤ 140737488351232) :
    Calls Tryd.prog 13 #[.string s, .agg x.cells] w (Ret (.bool true) w) := by
  have hX0 := Blk.new w 24 x.cells
  have hb0 : Below w.heap.size w (w.alloc (.cells x.cells 24)) := (Below.refl _ w).alloc (Nat.le_refl _) _
  have he0 : Env (w.alloc (.cells x.cells 24)) := he.alloc _
  by_cases hs : s.size ≤ 5000
  case neg =>
    have d1 : decide (5000 < (s.size : Int)) = true := decide_eq_true (by omega)
    clear hs
    go_enter Tryd.func13, Tryd.ntmps13
    go_wp2_with (go_at_call 46; refine (awake3_any _ he0).mono ?_; rintro x w2 ⟨rfl, hw2⟩)
    go_ret
    exact ⟨rfl, Lies.below hw2 hb0.size hb0⟩
  have d1 : decide (5000 < (s.size : Int)) = false := decide_eq_false (by omega)
  obtain ⟨A, hA⟩ : ∃ A : ByteArray, A = ⟨(litB s.data.toList).toArray⟩ := ⟨_, rfl⟩
  obtain ⟨C, hC⟩ : ∃ C : ByteArray, C = ⟨(classB x).toArray⟩ := ⟨_, rfl⟩
  have PA : PlainT A := by rw [hA]; exact plain_lit _ (by rw [Array.length_toList]; exact hs)
  have PC : PlainT C := by rw [hC]; exact plain_cls x
  have k47 : ∀ w, Calls Tryd.prog 47 #[.string s] w (Ret (.string A) w) := fun w => by rw [hA]; exact literal_any s w (by omega)
  have k48 : ∀ w, Env w → Calls Tryd.prog 48 #[.agg x.cells] w (Ret (.string C) w) := fun w he => by rw [hC]; exact class_any x w he
  clear hA hC
  go_enter Tryd.func13, Tryd.ntmps13
  go_upto_region 3 with (go_at_call 46; refine (awake3_any _ he0).mono ?_; rintro x w2 ⟨rfl, hw2⟩)
  have hX2 := hX0.lies hw2
  have he2 := he0.lies hw2
  have hb2 := Lies.below hw2 hb0.size hb0
  clear hX0 he0 hb0 hw2 d1
  have hcX := hX2.cell
  have hlX := hX2.lt
  (refine wp_region_lay (id := 3) (C := Lies _) [(true, 0), (true, 2), (true, 6), (false, 1), (false, 3), (false, 4), (true, 5)] (by kernel_rfl) (by kernel_rfl) (Lies.drew (Lies.start _)) ?_; simp only [layOps, List.filterMap_cons, List.filterMap_nil, List.getElem?_cons_succ, List.getElem?_cons_zero, Option.map_some, List.append_eq, List.cons_append, List.nil_append]; (repeat (first | (refine lay_skip rfl ?_; simp only [Act.put, List.setIfInBounds_toArray, List.set_cons_zero, List.set_cons_succ]) | (apply lay_free _ rfl; (focus (intro C1 hs1 w1 hw0; have hw1 := hs1 _ hw0; have hc1 := hw1.cells; go_simp; (try go_bits); (try (rw [if_pos (by omega)]; go_simp)); first | (go_at_call 47; with_reducible exact Calls.lies hw1 (k47 _)) | (go_at_call 48; with_reducible exact Calls.lies hw1 (k48 _ (he2.lies hw1))) | (go_at_call 47; exact Calls.lies hw1 (k47 _)) | (go_at_call 48; exact Calls.lies hw1 (k48 _ (he2.lies hw1))) | rfl)); simp only [Act.put, List.setIfInBounds_toArray, List.set_cons_zero, List.set_cons_succ]) | (apply lay_quiet _ rfl; (focus (intro w1 hw1; have hc1 := hw1.cells; go_simp; (try go_bits); (try (rw [if_pos (by omega)]; go_simp)); first | (go_at_call 47; with_reducible exact Calls.lies hw1 (k47 _)) | (go_at_call 48; with_reducible exact Calls.lies hw1 (k48 _ (he2.lies hw1))) | (go_at_call 47; exact Calls.lies hw1 (k47 _)) | (go_at_call 48; exact Calls.lies hw1 (k48 _ (he2.lies hw1))) | rfl)); simp only [Act.put, List.setIfInBounds_toArray, List.set_cons_zero, List.set_cons_succ]) | (refine lay_loud rfl ?_; intro K hK w1 hw1; have hc1 := hw1.cells; go_simp; obtain ⟨Wn, hWn⟩ : ∃ Wn, w1.alloc (.cells #[Value.string A, Value.string C] 9) = Wn := ⟨_, rfl⟩; rw [hWn]; have hWl : Lies w2 Wn := hWn ▸ Below.alloc hw1 (Below.size hw1) _; have hN : Blk Wn w1.heap.size 9 #[Value.string A, Value.string C] := hWn ▸ Blk.new w1 9 _; clear hWn; refine ⟨_, Lies.start Wn, lies_sub hWl, ?_⟩; (try simp only [Act.put, List.setIfInBounds_toArray, List.set_cons_zero, List.set_cons_succ]); apply hK))); refine lay_nil ?_; intro w3 hw3)
  have hC3 := hN.lies hw3
  have he3 := (he2.lies hWl).lies hw3
  have hb3 := Lies.below hw3 (Lies.below hWl hb2.size hb2).size (Lies.below hWl hb2.size hb2)
  obtain ⟨g, hg⟩ : ∃ g, g = w1.heap.size := ⟨_, rfl⟩
  rw [← hg] at hC3 ⊢
  clear hX2 he2 hb2 hw1 hWl hN hw3 hcX hlX k47 k48 hg
  go_wp2_with fail
  go_loopw [22] (fun j wr => ∃ k : Nat, j = .int .i64 (k : Int) ∧ k ≤ 2 ∧ Blk wr g 9 #[.string A, .string C] ∧ Below w.heap.size w wr) (fun j _ => 2 - (intOf j).toNat)
  case atStart => exact ⟨0, rfl, by omega, hC3, hb3⟩
  case round =>
    clear hC3 he3 hb3
    obtain ⟨k, rfl, hk, hC, hbr⟩ := hrel
    by_cases hlt : k < 2
    case neg =>
      have d1 : decide (k < 2) = false := decide_eq_false hlt
      obtain rfl : k = 2 := by omega
      go_wp2
      go_ret
      exact ⟨rfl, hbr⟩
    obtain ⟨X, PX, hX⟩ : ∃ X : ByteArray, PlainT X ∧ (#[Value.string A, .string C] : Array Value)[k]? = some (.string X) := by
      have : k = 0 ∨ k = 1 := by omega
      rcases this with rfl | rfl
      · exact ⟨A, PA, rfl⟩
      · exact ⟨C, PC, rfl⟩
    have hc : wr.cell? ⟨g, k, none⟩ = some (.string X) := by rw [hC.cell]; exact hX
    have hl := hC.lt
    have d1 : decide ((k : Int) < 2) = true := decide_eq_true (by omega)
    have hXs := PX.size
    have hXp := PX.pos
    have d2 : decide ((X.size : Int) < 1) = false := decide_eq_false (by omega)
    have PXH := Lib.hid PX
    clear PA PC hX PX
    have hone : ((X.size : Int) == 1) = false ∨ X = ⟨#[46]⟩ := by
      by_cases h : X.size = 1
      · exact .inr (PXH.out.one h)
      · exact .inl (by simp; omega)
    rcases hone with d3 | rfl
    case' inr =>
      clear hXs hXp d2 PXH
      go_wp2_with fail
      refine wp_loop_rounds 2 ?_
      iterate 2 (rw [rounds_succ]; go_wp2)
      go_roundw
      case rel => exact ⟨k + 1, by go_num, by omega, hC, hbr⟩
      case measure => simp [intOf]; omega
    go_upto_region 8 with (fail)
    clear d3
    go_wp2_with fail
    go_loopw [7] (fun j wr => ∃ i : Nat, j = .int .i64 (i : Int) ∧ i ≤ X.size ∧ Blk wr g 9 #[.string A, .string C] ∧ Below w.heap.size w wr) (fun j _ => X.size - (intOf j).toNat)
    case atStart => exact ⟨0, rfl, by omega, hC, hbr⟩
    case round =>
      clear hC hbr hc hl
      rename_i wr2
      obtain ⟨i, rfl, hi, hC, hbr⟩ := hrel
      by_cases hilt : i < X.size
      case neg =>
        have d6 : decide (i < X.size) = false := decide_eq_false hilt
        go_wp2
        go_roundw
        case rel => exact ⟨k + 1, by go_num, by omega, hC, hbr⟩
        case measure => simp [intOf]; omega
      have d6 : decide (i < X.size) = true := decide_eq_true hilt
      obtain ⟨hs1, hs2⟩ := PXH.out.seen i hilt
      have F1 := Lib.hid (PXH.out.lit i)
      have F2 := Lib.hid (PXH.out.cls i)
      go_wp2
      all_goals first
        | (go_roundw
           case rel => exact ⟨i + 1, by go_num, by omega, hC, hbr⟩
           case measure => simp [intOf]; omega)
        | (rename_i hlast
           exfalso
           first
           | (have f1 := F1.out (by omega) (by omega) (by omega) (by omega); simp [f1] at hlast)
           | (have f2 := F2.out (by omega) (by omega) (by omega) (by omega); simp [f2] at hlast))
end Go.Proofs.YtakcckdnliiieaaDoor
