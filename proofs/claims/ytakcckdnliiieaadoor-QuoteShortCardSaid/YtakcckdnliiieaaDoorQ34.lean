/- QuoteShort, walked. -/
import Derived.Test.YtakcckdnliiieaaDoorQ32
import Derived.Test.YtakcckdnliiieaaDoorQ30
namespace Go.Proofs.YtakcckdnliiieaaDoor
open Go Go.RowKit
attribute [local go_sem] Oper.quietAt Oper.quietUpon
theorem byteAt_app {P t O : ByteArray} {i : Nat} (h : O.data.toList = P.data.toList ++ t.data.toList.drop i) (k : Nat) (hk : P.size ≤ k) : byteAt O k = byteAt t (k - P.size + i) := by
  unfold byteAt
  have h2 : P.size = P.data.toList.length := Array.length_toList.symm
  rw [h, List.getElem?_append_right (by omega), List.getElem?_drop, h2, Nat.add_comm]
theorem size_app {P t O : ByteArray} {i : Nat} (h : O.data.toList = P.data.toList ++ t.data.toList.drop i) : O.size = P.size + (t.size - i) := by
  have h1 : O.size = O.data.toList.length := Array.length_toList.symm
  have h2 : P.size = P.data.toList.length := Array.length_toList.symm
  have h3 : t.size = t.data.toList.length := Array.length_toList.symm
  rw [h1, h, List.length_append, List.length_drop, h2, h3]
theorem ret_tr {b : Bool} (h : b = true) : Ending.returned (.bool b) = .returned (.bool true) := by rw [h]
theorem seesB_lt' {t : ByteArray} {p b : Nat} (h : p < t.size) : seesB t p b = (t[p].toNat == b) := by unfold seesB; rw [byteAt_lt h]; rfl
theorem more_add {t O : ByteArray} (h : O.data.toList = [91, 94] ++ t.data.toList.drop 1) (ht : 1 ≤ t.size) : More t O ∧ byteAt O 0 = some 91 ∧ byteAt O 1 = some 94 := by
  have h' : O.data.toList = (ByteArray.mk #[91, 94]).data.toList ++ t.data.toList.drop 1 := h
  have hs := size_app h'
  have h2 : (ByteArray.mk #[91, 94]).size = 2 := rfl
  refine ⟨⟨by omega, fun k hk => ?_⟩, ?_, ?_⟩
  · rw [byteAt_app h' (k + 1) (by omega), h2, show k + 1 - 2 + 1 = k by omega]
  · unfold byteAt; rw [h]; rfl
  · unfold byteAt; rw [h]; rfl
theorem more_cut {t O : ByteArray} (h : O.data.toList = [91] ++ t.data.toList.drop 2) (ht : 2 ≤ t.size) : More O t ∧ byteAt O 0 = some 91 := by
  have h' : O.data.toList = (ByteArray.mk #[91]).data.toList ++ t.data.toList.drop 2 := h
  have hs := size_app h'
  have h2 : (ByteArray.mk #[91]).size = 1 := rfl
  refine ⟨⟨by omega, fun k hk => ?_⟩, ?_⟩
  · rw [byteAt_app h' k (by omega), h2, show k - 1 + 2 = k + 1 by omega]
  · unfold byteAt; rw [h]; rfl
set_option maxRecDepth 100000 in
set_option maxHeartbeats 4000000 in
theorem quoteShort_any (t : ByteArray) (w : World) (he : Env w) (ht0 : t.size ≤ 140737488351232) :
    Calls Tryd.prog 14 #[.string t] w (Ret (.bool true) w) := by
  by_cases ht : t.size ≤ 3000
  case neg =>
    have d1 : decide (3000 < (t.size : Int)) = true := decide_eq_true (by omega)
    clear ht
    go_enter Tryd.func14, Tryd.ntmps14
    go_wp2_with (go_at_call 46; refine (awake3_any _ he).mono ?_; rintro x w2 ⟨rfl, hw2⟩)
    go_ret
    exact ⟨rfl, hw2⟩
  have d1 : decide (3000 < (t.size : Int)) = false := decide_eq_false (by omega)
  have u1 := fun w => @unliteral_any t w (by omega)
  have c1 := fun w => @unclass_any t w (by omega)
  obtain ⟨ul, hul⟩ : ∃ ul, ul = unlitP t := ⟨_, rfl⟩
  obtain ⟨uc, huc⟩ : ∃ uc, uc = unclsP t := ⟨_, rfl⟩
  rw [← hul] at u1
  rw [← huc] at c1
  obtain ⟨l, n, e⟩ := ul
  obtain ⟨x, m, f⟩ := uc
  obtain ⟨L, hL⟩ : ∃ L : ByteArray, L = ⟨l.toArray⟩ := ⟨_, rfl⟩
  have u1' : ∀ w, Calls Tryd.prog 54 #[.string t] w (Ret (.tuple #[.string L, .int .i64 (n : Int), .int .i64 (e : Int)]) w) := fun w => by rw [hL]; exact u1 w
  have c1' : ∀ w, Calls Tryd.prog 51 #[.string t] w (Ret (.tuple #[.agg x.cells, .int .i64 (m : Int), .int .i64 (f : Int)]) w) := c1
  have hsplit : e ≠ 0 ∨ (e = 0 ∧ (litB l).length ≤ n ∧ l.length ≤ 255) := by
    by_cases h : e = 0
    · subst h; exact .inr ⟨rfl, unlit_short hul.symm⟩
    · exact .inl h
  have HUC := Lib.hid huc
  clear u1 c1 hul huc
  go_enter Tryd.func14, Tryd.ntmps14
  go_upto_region 3 with (go_at_call 46; refine (awake3_any _ he).mono ?_; rintro x w2 ⟨rfl, hw2⟩)
  have he2 := he.lies hw2
  clear d1
  rcases hsplit with hne | ⟨rfl, hl1, hl2⟩
  case' inl =>
    have g1 : ((e : Int) == 0) = false := by simp; omega
    clear hL hne
    go_upto_region 6 with (go_at_call 54; refine (u1' _).mono ?_; rintro e w3 ⟨rfl, hw3⟩)
    obtain ⟨W4, he4, hb4, hW4⟩ : ∃ W4, Env W4 ∧ Below w.heap.size w W4 ∧ w3 = W4 := ⟨w3, he2.lies hw3, Lies.below hw3 hw2.size hw2, rfl⟩
    rw [hW4]
    clear hW4 hw3 g1
  case' inr =>
    have u1'' : ∀ w, Calls Tryd.prog 54 #[.string t] w (Ret (.tuple #[.string L, .int .i64 (n : Int), .int .i64 0]) w) := u1'
    obtain ⟨A, hA⟩ : ∃ A : ByteArray, A = ⟨(litB l).toArray⟩ := ⟨_, rfl⟩
    have hLs : L.size ≤ 255 := by rw [hL, arr_size]; exact hl2
    have hAn : A.size ≤ n := by rw [hA, arr_size]; exact hl1
    have k47 : ∀ w, Calls Tryd.prog 47 #[.string L] w (Ret (.string A) w) := fun w => by
      have := literal_any L w (by omega)
      rw [show L.data.toList = l by rw [hL]] at this
      rw [hA]; exact this
    have g1 : decide (n < A.size) = false := decide_eq_false (by omega)
    have g2 : decide (255 < (L.size : Int)) = false := decide_eq_false (by omega)
    clear hL hA hl1 hl2 u1'
    go_upto_region 6 with (first | (go_at_call 54; refine (u1'' _).mono ?_; rintro e w3 ⟨rfl, hw3⟩) | (go_at_call 47; refine (k47 _).mono ?_; rintro e w4 ⟨rfl, hw4⟩))
    obtain ⟨W4, he4, hb4, hW4⟩ : ∃ W4, Env W4 ∧ Below w.heap.size w W4 ∧ w4 = W4 := ⟨w4, (he2.lies hw3).lies hw4, Lies.below hw4 (Lies.below hw3 hw2.size hw2).size (Lies.below hw3 hw2.size hw2), rfl⟩
    rw [hW4]
    clear hW4 hw3 hw4 g1 g2 u1'' k47 hAn hLs
  all_goals
    clear he2 hw2
    have hCls : f ≠ 0 ∨ f = 0 := by omega
    rcases hCls with hf | rfl
    · obtain ⟨rfl, hm⟩ := uncls_bad HUC.out.symm hf
      have g1 : ((f : Int) != 0) = true := by simp; omega
      have g2 : decide (m ≤ t.size) = true := decide_eq_true hm
      clear hf HUC
      go_wp2_with (go_at_call 51; refine (c1' _).mono ?_; rintro e w5 ⟨rfl, hw5⟩; have hX5 := Blk.new w5 24 BS.zero.cells; have hcX := hX5.cell; have hlX := hX5.lt)
      go_ret
      exact ⟨by simp; try omega, (Lies.below hw5 hb4.size hb4).alloc (Lies.below hw5 hb4.size hb4).size _⟩
    · obtain ⟨h0, _, hz, y, j, rfl, hj1, hj, hway⟩ := uncls_ok HUC.out.symm
      have hj93 : byteAt t j = some 93 := by unfold seesB at hj; rwa [beq_iff_eq] at hj
      obtain ⟨_, hjt⟩ := byteAt_256 hj93
      have h1t : 1 < t.size := by omega
      have c1'' : ∀ w, Calls Tryd.prog 51 #[.string t] w (Ret (.tuple #[.agg x.cells, .int .i64 ((j : Int) + 1), .int .i64 0]) w) := c1'
      have g1 : ((t[0].toNat : Int) != 91) = false := by rw [byteAt_lt hz] at h0; injection h0 with h0; simp; omega
      have g2 : ((t[j].toNat : Int) != 93) = false := by rw [byteAt_lt hjt] at hj93; injection hj93 with hj93; simp; omega
      cases hsee : seesB t 1 94
      · have hsh := uncls_short HUC.out.symm hsee
        obtain ⟨C, hC⟩ : ∃ C : ByteArray, C = ⟨(classB x).toArray⟩ := ⟨_, rfl⟩
        have hCm : C.size ≤ j + 1 := by rw [hC, arr_size]; exact hsh
        have k48 : ∀ w, Env w → Calls Tryd.prog 48 #[.agg x.cells] w (Ret (.string C) w) := fun w he => by rw [hC]; exact class_any x w he
        obtain ⟨O, hO⟩ : ∃ O : ByteArray, O = ByteArray.mk #[91, 94] ++ t.extract 1 t.size := ⟨_, rfl⟩
        have hOl : O.data.toList = [91, 94] ++ t.data.toList.drop 1 := by rw [hO, data_add, extract_tail _ _ _ (Nat.le_refl _)]
        obtain ⟨hmo, ho0, ho1⟩ := more_add hOl hz
        have hOs := hmo.size
        have hun := uncls_add HUC.out.symm hsee ho0 ho1 hmo
        have c2 : ∀ w, Calls Tryd.prog 51 #[.string (ByteArray.mk #[91, 94] ++ t.extract 1 t.size)] w (Ret (.tuple #[.agg x.not.cells, .int .i64 ((j : Int) + 1 + 1), .int .i64 0]) w) := fun w => by
          have := @unclass_any O w (by omega)
          rw [hun, hO] at this; exact this
        have hOs2 : (ByteArray.mk #[91, 94] ++ t.extract 1 t.size).size = t.size + 1 := by rw [← hO]; exact hOs
        have g3 : ((t[1].toNat : Int) == 94) = false := by rw [seesB_lt' h1t] at hsee; simp at hsee; simp; omega
        have g4 : ((t[1].toNat : Int) != 94) = true := by rw [seesB_lt' h1t] at hsee; simp at hsee; simp; omega
        clear hsh hC hO hOl hmo ho0 ho1 hun hsee hway h0 hj93 hj c1'
        go_upto_region 9 with (go_at_call 51; refine (c1'' _).mono ?_; rintro e w5 ⟨rfl, hw5⟩)
        have hX5 := Blk.new w5 24 x.cells
        have he5 := (he4.lies hw5).alloc (.cells x.cells 24)
        have hb5 := (Lies.below hw5 hb4.size hb4).alloc (Lies.below hw5 hb4.size hb4).size (.cells x.cells 24)
        have hcX := hX5.cell
        have hlX := hX5.lt
        obtain ⟨gx, hgx⟩ : ∃ gx, gx = w5.heap.size := ⟨_, rfl⟩
        obtain ⟨W5, hW5⟩ : ∃ W5, w5.alloc (.cells x.cells 24) = W5 := ⟨_, rfl⟩
        rw [← hgx, hW5] at hX5 hcX hlX
        rw [hW5] at he5 hb5
        rw [← hgx, hW5]
        clear hgx hW5 hw5 he4 hb4
        go_upto_region 11 with (go_at_call 48; refine (k48 _ he5).mono ?_; rintro e w6 ⟨rfl, hw6⟩)
        have hX6 := hX5.lies hw6
        have hb6 := Lies.below hw6 hb5.size hb5
        clear hX5 he5 hb5 hw6 hcX hlX k48 c1''
        go_upto_region 15 with (go_at_call 51; refine (c2 _).mono ?_; rintro e w7 ⟨rfl, hw7⟩)
        have hX7 := (hX6.lies hw7).alloc (.cells x.not.cells 24)
        have hO7 := Blk.new w7 24 x.not.cells
        have hb7 := (Lies.below hw7 hb6.size hb6).alloc (Lies.below hw7 hb6.size hb6).size (.cells x.not.cells 24)
        obtain ⟨gO, hgO⟩ : ∃ gO, gO = w7.heap.size := ⟨_, rfl⟩
        obtain ⟨W7, hW7⟩ : ∃ W7, w7.alloc (.cells x.not.cells 24) = W7 := ⟨_, rfl⟩
        rw [hW7] at hX7 hO7 hb7
        rw [← hgO] at hO7
        rw [← hgO, hW7]
        clear hgO hW7 hw7 hX6 hb6 c2
        have hcX := hX7.cell
        have hlX := hX7.lt
        have hcO := hO7.cell
        have hlO := hO7.lt
        (refine wp_region_quiet_all (C := Lies _) (by kernel_rfl) (by kernel_rfl) (Lies.drew (Lies.start _)) ?_; (repeat (first | (refine quiet_skip rfl ?_; simp only [Act.put, List.setIfInBounds_toArray, List.set_cons_zero, List.set_cons_succ]) | (apply quiet_op _ rfl; (focus (intro w1 hw1; have hc1 := hw1.cells; go_simp; (try go_bits); (try (rw [if_pos (by omega)]; go_simp)); first | (go_at_call 30; with_reducible exact Calls.lies hw1 (not_any x _)) | (go_at_call 30; exact Calls.lies hw1 (not_any x _)) | rfl)); simp only [Act.put, List.setIfInBounds_toArray, List.set_cons_zero, List.set_cons_succ]))); refine wpQuiet_nil ?_; intro w8 hw8)
        go_wp2
        go_ret
        exact ⟨ret_tr (by simp; omega), Lies.below hw8 hb7.size hb7⟩
      · obtain ⟨O, hO⟩ : ∃ O : ByteArray, O = ByteArray.mk #[91] ++ t.extract 2 t.size := ⟨_, rfl⟩
        have hOl : O.data.toList = [91] ++ t.data.toList.drop 2 := by rw [hO, data_add, extract_tail _ _ _ (Nat.le_refl _)]
        obtain ⟨hmo, ho0⟩ := more_cut hOl h1t
        have hOs := hmo.size
        obtain ⟨k, hk, hun⟩ := uncls_cut HUC.out.symm hsee ho0 hmo
        obtain rfl : k = j := by omega
        have c2 : ∀ w, Calls Tryd.prog 51 #[.string (ByteArray.mk #[91] ++ t.extract 2 t.size)] w (Ret (.tuple #[.agg x.not.cells, .int .i64 (k : Int), .int .i64 0]) w) := fun w => by
          have := @unclass_any O w (by omega)
          rw [hun, hO] at this; exact this
        have hOs2 : (ByteArray.mk #[91] ++ t.extract 2 t.size).size = t.size - 1 := by rw [← hO]; omega
        have g3 : ((t[1].toNat : Int) == 94) = true := by rw [seesB_lt' h1t] at hsee; simp at hsee; simp; omega
        have g4 : ((t[1].toNat : Int) != 94) = false := by rw [seesB_lt' h1t] at hsee; simp at hsee; simp; omega
        clear hO hOl hmo ho0 hun hsee hway h0 hj93 hj c1' hk hOs
        go_upto_region 9 with (go_at_call 51; refine (c1'' _).mono ?_; rintro e w5 ⟨rfl, hw5⟩)
        have hX5 := Blk.new w5 24 x.cells
        have he5 := (he4.lies hw5).alloc (.cells x.cells 24)
        have hb5 := (Lies.below hw5 hb4.size hb4).alloc (Lies.below hw5 hb4.size hb4).size (.cells x.cells 24)
        have hcX := hX5.cell
        have hlX := hX5.lt
        obtain ⟨gx, hgx⟩ : ∃ gx, gx = w5.heap.size := ⟨_, rfl⟩
        obtain ⟨W5, hW5⟩ : ∃ W5, w5.alloc (.cells x.cells 24) = W5 := ⟨_, rfl⟩
        rw [← hgx, hW5] at hX5 hcX hlX
        rw [hW5] at he5 hb5
        rw [← hgx, hW5]
        clear hgx hW5 hw5 he4 hb4
        have hX6 := hX5
        have hb6 := hb5
        clear hX5 he5 hb5 hcX hlX
        go_upto_region 15 with (go_at_call 51; refine (c2 _).mono ?_; rintro e w7 ⟨rfl, hw7⟩)
        have hX7 := (hX6.lies hw7).alloc (.cells x.not.cells 24)
        have hO7 := Blk.new w7 24 x.not.cells
        have hb7 := (Lies.below hw7 hb6.size hb6).alloc (Lies.below hw7 hb6.size hb6).size (.cells x.not.cells 24)
        obtain ⟨gO, hgO⟩ : ∃ gO, gO = w7.heap.size := ⟨_, rfl⟩
        obtain ⟨W7, hW7⟩ : ∃ W7, w7.alloc (.cells x.not.cells 24) = W7 := ⟨_, rfl⟩
        rw [hW7] at hX7 hO7 hb7
        rw [← hgO] at hO7
        rw [← hgO, hW7]
        clear hgO hW7 hw7 hX6 hb6 c2
        have hcX := hX7.cell
        have hlX := hX7.lt
        have hcO := hO7.cell
        have hlO := hO7.lt
        (refine wp_region_quiet_all (C := Lies _) (by kernel_rfl) (by kernel_rfl) (Lies.drew (Lies.start _)) ?_; (repeat (first | (refine quiet_skip rfl ?_; simp only [Act.put, List.setIfInBounds_toArray, List.set_cons_zero, List.set_cons_succ]) | (apply quiet_op _ rfl; (focus (intro w1 hw1; have hc1 := hw1.cells; go_simp; (try go_bits); (try (rw [if_pos (by omega)]; go_simp)); first | (go_at_call 30; with_reducible exact Calls.lies hw1 (not_any x _)) | (go_at_call 30; exact Calls.lies hw1 (not_any x _)) | rfl)); simp only [Act.put, List.setIfInBounds_toArray, List.set_cons_zero, List.set_cons_succ]))); refine wpQuiet_nil ?_; intro w8 hw8)
        go_wp2
        go_ret
        exact ⟨ret_tr (by simp; omega), Lies.below hw8 hb7.size hb7⟩
end Go.Proofs.YtakcckdnliiieaaDoor
