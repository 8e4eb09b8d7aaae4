import Derived.Test.YtakcckdnliiieaaDoorSet12
import Derived.Test.YtakcckdnliiieaaDoorSet8
import Derived.Test.YtakcckdnliiieaaDoorLay
namespace Go.Proofs.YtakcckdnliiieaaDoor
open Go Go.RowKit
attribute [local go_sem] Oper.quietAt Oper.quietUpon Oper.loudAt Oper.loudUpon
theorem BS.of_ab : (BS.ofBytes [98, 97]).len = 2 ∧ (BS.ofBytes [98, 97]).bytes = [97, 98] ∧ (BS.ofBytes [98, 97]).runs = [(97, 98)] := by decide +kernel
theorem BS.of_x : (BS.ofBytes [120]).only = (120, true) ∧ (BS.ofBytes [120, 121]).only = (0, false) := by decide +kernel
theorem BS.of_cmp : (BS.ofBytes [97]).cmp (BS.ofBytes [97, 98]) = -1 ∧ (BS.ofBytes [98]).cmp (BS.ofBytes [97, 99]) = 1 := by decide +kernel
theorem BS.of_all : BS.range 122 97 = BS.zero ∧ BS.zero.not = BS.full ∧ BS.full.len = 256 := by decide +kernel
theorem setOf_lit (s : ByteArray) (S : BS) (hS : S = BS.ofBytes s.data.toList) (hs : s.size ≤ 140737488351232) (w : World) : Calls Tryd.prog 18 #[.string s] w (Ret (.agg S.cells) w) := by
  subst hS; exact setOf_any s w hs
theorem only_eq (S : BS) (b : Nat) (v : Bool) (h : S.only = (b, v)) (w : World) (he : Env w) : Calls Tryd.prog 16 #[.agg S.cells] w (Ret (.tuple #[.int .u8 (b : Int), .bool v]) w) := by
  have := only_any S w he
  rw [h] at this; exact this
theorem cmp_eq (S T : BS) (c : Int) (h : S.cmp T = c) (w : World) (he : Env w) : Calls Tryd.prog 34 #[.agg S.cells, .agg T.cells] w (Ret (.int .i64 c) w) := by
  have := compare_any S T w he
  rw [h] at this; exact this
theorem len_eq (S : BS) (n : Nat) (h : S.len = n) (w : World) : Calls Tryd.prog 24 #[.agg S.cells] w (Ret (.int .i64 (n : Int)) w) := by
  subst h; exact len_any S w
theorem lies_sub {W0 W1 : World} (h : Lies W0 W1) : ∀ x, Lies W1 x → Lies W0 x := fun x hx => Below.trans h (Below.mono hx h.size)
set_option maxRecDepth 100000 in
set_option maxHeartbeats 4000000 in
theorem awake_any (w : World) (he : Env w) : Calls Tryd.prog 15 #[] w (Ret (.bool true) w) := by
  obtain ⟨S, hS⟩ : ∃ S, S = BS.ofBytes [98, 97] := ⟨_, rfl⟩
  obtain ⟨X, hX⟩ : ∃ S, S = BS.ofBytes [120] := ⟨_, rfl⟩
  obtain ⟨XY, hXY⟩ : ∃ S, S = BS.ofBytes [120, 121] := ⟨_, rfl⟩
  obtain ⟨A, hA⟩ : ∃ S, S = BS.ofBytes [97] := ⟨_, rfl⟩
  obtain ⟨AB, hAB⟩ : ∃ S, S = BS.ofBytes [97, 98] := ⟨_, rfl⟩
  obtain ⟨B, hB⟩ : ∃ S, S = BS.ofBytes [98] := ⟨_, rfl⟩
  obtain ⟨AC, hAC⟩ : ∃ S, S = BS.ofBytes [97, 99] := ⟨_, rfl⟩
  obtain ⟨F, hF⟩ : ∃ S, S = BS.full := ⟨_, rfl⟩
  have f1 : S.len = 2 := by rw [hS]; exact BS.of_ab.1
  have f2 : S.bytes = [97, 98] := by rw [hS]; exact BS.of_ab.2.1
  have f3 : S.runs = [(97, 98)] := by rw [hS]; exact BS.of_ab.2.2
  have f4 : X.only = (120, true) := by rw [hX]; exact BS.of_x.1
  have f5 : XY.only = (0, false) := by rw [hXY]; exact BS.of_x.2
  have f6 : A.cmp AB = -1 := by rw [hA, hAB]; exact BS.of_cmp.1
  have f7 : B.cmp AC = 1 := by rw [hB, hAC]; exact BS.of_cmp.2
  have f8 : F.len = 256 := by rw [hF]; exact BS.of_all.2.2
  have c1 : ∀ w, Calls Tryd.prog 18 #[.string ⟨#[98, 97]⟩] w (Ret (.agg S.cells) w) := setOf_lit _ S hS (by decide)
  have c2 : ∀ w, Calls Tryd.prog 18 #[.string ⟨#[120]⟩] w (Ret (.agg X.cells) w) := setOf_lit _ X hX (by decide)
  have c3 : ∀ w, Calls Tryd.prog 18 #[.string ⟨#[120, 121]⟩] w (Ret (.agg XY.cells) w) := setOf_lit _ XY hXY (by decide)
  have c4 : ∀ w, Calls Tryd.prog 18 #[.string ⟨#[97]⟩] w (Ret (.agg A.cells) w) := setOf_lit _ A hA (by decide)
  have c5 : ∀ w, Calls Tryd.prog 18 #[.string ⟨#[97, 98]⟩] w (Ret (.agg AB.cells) w) := setOf_lit _ AB hAB (by decide)
  have c6 : ∀ w, Calls Tryd.prog 18 #[.string ⟨#[98]⟩] w (Ret (.agg B.cells) w) := setOf_lit _ B hB (by decide)
  have c7 : ∀ w, Calls Tryd.prog 18 #[.string ⟨#[97, 99]⟩] w (Ret (.agg AC.cells) w) := setOf_lit _ AC hAC (by decide)
  have c8 : ∀ w, Env w → Calls Tryd.prog 16 #[.agg X.cells] w (Ret (.tuple #[.int .u8 120, .bool true]) w) := only_eq X 120 true f4
  have c9 : ∀ w, Env w → Calls Tryd.prog 16 #[.agg XY.cells] w (Ret (.tuple #[.int .u8 0, .bool false]) w) := only_eq XY 0 false f5
  have c10 : ∀ w, Env w → Calls Tryd.prog 34 #[.agg A.cells, .agg AB.cells] w (Ret (.int .i64 (-1)) w) := cmp_eq A AB _ f6
  have c11 : ∀ w, Env w → Calls Tryd.prog 34 #[.agg B.cells, .agg AC.cells] w (Ret (.int .i64 1) w) := cmp_eq B AC _ f7
  have c12 : ∀ w, Calls Tryd.prog 24 #[.agg F.cells] w (Ret (.int .i64 256) w) := len_eq F 256 f8
  have c13 : ∀ w, Calls Tryd.prog 24 #[.agg S.cells] w (Ret (.int .i64 2) w) := len_eq S 2 f1
  have c14 : ∀ w, Calls Tryd.prog 31 #[] w (Ret (.agg F.cells) w) := by rw [hF]; exact all_any
  have c15 : ∀ w, Env w → Calls Tryd.prog 26 #[.agg S.cells] w (Ret (.string ⟨#[97, 98]⟩) w) := list_str S _ (by rw [f2])
  have c16 : ∀ w, Calls Tryd.prog 20 #[.int .u8 122, .int .u8 97] w (Ret (.agg BS.zero.cells) w) := fun w => by have := range_any 122 97 w (by decide) (by decide); rw [BS.of_all.1] at this; exact this
  have c17 : ∀ w, Calls Tryd.prog 30 #[.agg BS.zero.cells] w (Ret (.agg F.cells) w) := fun w => by have := not_any BS.zero w; rw [BS.of_all.2.1, ← hF] at this; exact this
  have c18 := fun w he => runs_any S w he
  rw [f3] at c18
  clear hS hX hXY hA hAB hB hAC hF f1 f2 f3 f4 f5 f6 f7 f8
  go_enter Tryd.func15, Tryd.ntmps15
  go_upto_region 2 with (go_at_call 18; (with_reducible refine (c1 _).mono ?_); rintro e w2 ⟨rfl, hb2⟩)
  obtain ⟨W1, hW1⟩ : ∃ W1, w2.alloc (.cells S.cells 24) = W1 := ⟨_, rfl⟩
  have hX1 : Blk W1 w2.heap.size 24 S.cells := by rw [← hW1]; exact Blk.new _ _ _
  have hB1 : Below w.heap.size w W1 := by rw [← hW1]; exact hb2.alloc hb2.size _
  have he1 : Env W1 := he.below hB1 he.1
  have hg0 := hb2.size
  obtain ⟨g, hg⟩ : ∃ g, w2.heap.size = g := ⟨_, rfl⟩
  rw [hg] at hX1 hg0
  rw [hg, hW1]
  clear hW1 hb2 hg c1
  go_upto_region 4 with (first | (go_at_call 18; (with_reducible refine (c2 _).mono ?_); rintro e w3 ⟨rfl, hb3⟩; have he3 := he1.lies hb3) | (go_at_call 16; (with_reducible refine (c8 _ he3).mono ?_); rintro e w4 ⟨rfl, hb4⟩; have he4 := he3.lies hb4) | (go_at_call 18; (with_reducible refine (c3 _).mono ?_); rintro e w5 ⟨rfl, hb5⟩; have he5 := he4.lies hb5) | (go_at_call 16; (with_reducible refine (c9 _ he5).mono ?_); rintro e w6 ⟨rfl, hb6⟩; have he6 := he5.lies hb6))
  have hX6 := (((hX1.lies hb3).lies hb4).lies hb5).lies hb6
  have hB6 : Below w.heap.size w w6 := Lies.below hb6 (Lies.below hb5 (Lies.below hb4 (Lies.below hb3 hB1.size hB1).size (Lies.below hb3 hB1.size hB1)).size (Lies.below hb4 (Lies.below hb3 hB1.size hB1).size (Lies.below hb3 hB1.size hB1))).size (Lies.below hb5 (Lies.below hb4 (Lies.below hb3 hB1.size hB1).size (Lies.below hb3 hB1.size hB1)).size (Lies.below hb4 (Lies.below hb3 hB1.size hB1).size (Lies.below hb3 hB1.size hB1)))
  have hcX6 := hX6.cell
  clear hb3 hb4 hb5 hb6 he3 he4 he5 c2 c3 c8 c9 hX1 he1 hB1
  go_upto_region 5 with (go_at_call 28; refine (c18 _ he6).mono ?_; rintro e w7 ⟨v, rfl, hrow, _, hb7⟩)
  change w7.ownsRow _ 36 2 v 1 [nb 97, nb 98] at hrow
  obtain ⟨g2, cap, rfl⟩ : ∃ g cap, v = .slice (some ⟨g, 0, none⟩) 1 cap := ownsRow_succ hrow
  have hX7 := hX6.lies hb7
  have he7 := he6.lies hb7
  have hB7 : Below w.heap.size w w7 := Lies.below hb7 hB6.size hB6
  have hr0 : w7.cell? ⟨g2, 0, none⟩ = some (.int .u8 97) := hrow.cellAt 0 (by decide)
  have hr1 : w7.cell? ⟨g2, 1, none⟩ = some (.int .u8 98) := hrow.cellAt 1 (by decide)
  have hg2 := (hrow.lt g2 rfl).2
  have hg1 := hX7.lt
  have hcX7 := hX7.cell
  clear hcX6 hX6 he6 hb7 hB6 c18 hrow
  (refine wp_region_text_tail (C := Lies _) 59 (Lies.start _) ?_; simp only [List.take_succ_cons, List.take_zero, List.take_nil, List.drop_succ_cons, List.drop_zero, List.drop_nil]; (repeat (first | (refine quiet_skip rfl ?_; simp only [Act.put, List.setIfInBounds_toArray, List.set_cons_zero, List.set_cons_succ]) | (apply quiet_op _ rfl; (focus (intro w1 hw1; have hc1 := hw1.cells; go_simp; (try go_bits); (try (rw [if_pos (by omega)]; go_simp)); first | (go_at_call 24; with_reducible exact Calls.lies hw1 (c13 _)) | (go_at_call 26; with_reducible exact Calls.lies hw1 (c15 _ (he7.lies hw1))) | (go_at_call 20; with_reducible exact Calls.lies hw1 (c16 _)) | (go_at_call 30; with_reducible exact Calls.lies hw1 (c17 _)) | (go_at_call 31; with_reducible exact Calls.lies hw1 (c14 _)) | (go_at_call 24; with_reducible exact Calls.lies hw1 (c12 _)) | (go_at_call 18; with_reducible exact Calls.lies hw1 (c4 _)) | (go_at_call 18; with_reducible exact Calls.lies hw1 (c5 _)) | (go_at_call 34; with_reducible exact Calls.lies hw1 (c10 _ (he7.lies hw1))) | (go_at_call 18; with_reducible exact Calls.lies hw1 (c6 _)) | (go_at_call 18; with_reducible exact Calls.lies hw1 (c7 _)) | (go_at_call 34; with_reducible exact Calls.lies hw1 (c11 _ (he7.lies hw1))) | (go_at_call 24; exact Calls.lies hw1 (c13 _)) | (go_at_call 26; exact Calls.lies hw1 (c15 _ (he7.lies hw1))) | (go_at_call 20; exact Calls.lies hw1 (c16 _)) | (go_at_call 30; exact Calls.lies hw1 (c17 _)) | (go_at_call 31; exact Calls.lies hw1 (c14 _)) | (go_at_call 24; exact Calls.lies hw1 (c12 _)) | (go_at_call 18; exact Calls.lies hw1 (c4 _)) | (go_at_call 18; exact Calls.lies hw1 (c5 _)) | (go_at_call 34; exact Calls.lies hw1 (c10 _ (he7.lies hw1))) | (go_at_call 18; exact Calls.lies hw1 (c6 _)) | (go_at_call 18; exact Calls.lies hw1 (c7 _)) | (go_at_call 34; exact Calls.lies hw1 (c11 _ (he7.lies hw1))) | rfl)); simp only [Act.put, List.setIfInBounds_toArray, List.set_cons_zero, List.set_cons_succ]))); refine wpQuiet_nil ?_; intro w8 hw8)
  go_wp2
  go_ret
  exact ⟨rfl, Lies.below hw8 hB7.size hB7⟩
end Go.Proofs.YtakcckdnliiieaaDoor
