/- quote.Class. -/
import Derived.Test.YtakcckdnliiieaaDoorQ4
import Derived.Test.YtakcckdnliiieaaDoorSet18
import Derived.Test.YtakcckdnliiieaaDoorStp
namespace Go.Proofs.YtakcckdnliiieaaDoor
open Go Go.RowKit
attribute [local go_sem] Oper.quietAt Oper.quietUpon
theorem IsB.lies {B b : Nat} {l : List UInt8} {w w' : World} (h : Lib.IsBuilderF 74 5 B b (Lib.byteCells l) w) (hw : Lies w w') : Lib.IsBuilderF 74 5 B b (Lib.byteCells l) w' := by
  have key : ∀ p, Lib.BuilderAtF 74 5 B b p (Lib.byteCells l) w → Lib.BuilderAtF 74 5 B b p (Lib.byteCells l) w' := by
    rintro p ⟨h1, v, h2, h3, h4⟩
    have hlt : b < w.heap.size := by
      rcases Nat.lt_or_ge b w.heap.size with h | h
      · exact h
      · simp [Array.getElem?_eq_none h] at h2
    refine ⟨h1, v, (hw.block b hlt).trans h2, h3.kept (row := none) ⟨hw.os, hw.tape, hw.output, hw.size, fun k hk _ => hw.block k hk⟩ (by cases hv : v.ownBlock <;> simp), h4⟩
  exact h.elim (fun h => .inl (key _ h)) (fun h => .inr (key _ h))
theorem Blk.others {w w' : World} {g b : Nat} {t : TypeId} {cs : Array Value} (h : Blk w g t cs) (k : Lib.OthersKept 5 (some b) w w') (hg : g ≠ b) (ht : t ≠ 5) : Blk w' g t cs :=
  k g _ h (by simpa using hg) (fun c fz e => by injection e with _ e _; exact ht e)
def runT (L : List UInt8) (r : Nat × Nat) : List UInt8 := sgn L r.1 ++ (if r.1 + 1 < r.2 then [45] else []) ++ (if r.1 < r.2 then sgn L r.2 else [])
def runsT (L : List UInt8) (rs : List (Nat × Nat)) : List UInt8 := rs.flatMap (runT L)
theorem runsT_take (L : List UInt8) (rs : List (Nat × Nat)) (k : Nat) (h : k < rs.length) : runsT L (rs.take (k + 1)) = runsT L (rs.take k) ++ runT L rs[k] := by
  unfold runsT
  rw [List.take_succ_eq_append_getElem h, List.flatMap_append]
  congr 1
  simp
theorem runT_len (L : List UInt8) (r : Nat × Nat) : (runT L r).length ≤ 9 := by
  have h1 := sgn_len L r.1
  have h2 := sgn_len L r.2
  unfold runT
  split <;> split <;> simp <;> omega
theorem runsT_len (L : List UInt8) (rs : List (Nat × Nat)) : (runsT L rs).length ≤ 9 * rs.length := by
  induction rs with
  | nil => simp [runsT]
  | cons x l ih =>
    have := runT_len L x
    simp [runsT] at ih ⊢
    omega
def clsL : List UInt8 := [93, 45, 94]
def classB (s : BS) : List UInt8 := if s = BS.full then [46] else [91] ++ runsT clsL s.runs ++ [93]
/-- The runs, in a block of their own, as a loop reads them. -/
def RB (b : Nat) (w : World) (v : Value) (rs : List (Nat × Nat)) : Prop :=
  (v = .slice none 0 0 ∧ rs = []) ∨ ∃ g cap cur, v = .slice (some ⟨g, 0, none⟩) rs.length cap ∧ b < g ∧ Blk w g 36 cur ∧ ∀ k (h : k < rs.length), cur[k * 2]? = some (nb rs[k].1) ∧ cur[k * 2 + 1]? = some (nb rs[k].2)
theorem RB.of {b B : Nat} {w : World} {v : Value} {rs : List (Nat × Nat)} (h : w.ownsRow B 36 2 v rs.length (rcells rs)) (hb : b < B) : RB b w v rs := by
  rcases h.2 with ⟨rfl, h0⟩ | ⟨g, cap, cur, rfl, hg, hh, _, _, hs, hx⟩
  · exact .inl ⟨rfl, List.eq_nil_of_length_eq_zero h0⟩
  · refine .inr ⟨g, cap, cur, rfl, by omega, hh, fun k hk => ?_⟩
    have h1 := rcells_at rs k hk
    have h2 : ∀ j, j < rs.length * 2 → cur[j]? = (rcells rs)[j]? := fun j hj => by
      rw [← hx, List.getElem?_take_of_lt hj, Array.getElem?_toList]
    exact ⟨(h2 _ (by omega)).trans h1.1, (h2 _ (by omega)).trans h1.2⟩
theorem RB.kept {b : Nat} {w w' : World} {v : Value} {rs : List (Nat × Nat)} (h : RB b w v rs) (k : Lib.OthersKept 5 (some b) w w') : RB b w' v rs := by
  rcases h with h | ⟨g, cap, cur, h1, h2, h3, h4⟩
  · exact .inl h
  · exact .inr ⟨g, cap, cur, h1, h2, h3.others k (by omega) (by decide), h4⟩
theorem RB.alloc {b : Nat} {w : World} {v : Value} {rs : List (Nat × Nat)} (h : RB b w v rs) (o : Obj) : RB b (w.alloc o) v rs := by
  rcases h with h | ⟨g, cap, cur, h1, h2, h3, h4⟩
  · exact .inl h
  · exact .inr ⟨g, cap, cur, h1, h2, h3.alloc o, h4⟩
set_option maxRecDepth 100000 in
set_option maxHeartbeats 2000000 in
theorem class_any (s : BS) (w : World) (he : Env w) : Calls Tryd.prog 48 #[.agg s.cells] w (Ret (strV (classB s)) w) := by
  obtain ⟨W0, hW0⟩ : ∃ W0, w.alloc (.cells s.cells 24) = W0 := ⟨_, rfl⟩
  have hS0 : Blk W0 w.heap.size 24 s.cells := by rw [← hW0]; exact Blk.new w 24 _
  have hB0 : Below w.heap.size w W0 := by rw [← hW0]; (repeat' first | exact Below.refl _ _ | assumption | refine Below.alloc ?_ (by simp <;> omega) _ | refine Below.setCell ?_ (by simp <;> omega) _ | refine Below.drew ?_)
  have he0 : Env W0 := he.below hB0 he.1
  have hcS0 := hS0.cell
  have hlS0 := hS0.lt
  by_cases hf : s = BS.full
  · have hr : classB s = [46] := by unfold classB; rw [if_pos hf]
    rw [hr]
    clear hr
    have hd : decide (s = BS.full) = true := decide_eq_true hf
    clear hf
    go_enter Tryd.func48, Tryd.ntmps48
    go_upto_region 1 with (fail)
    clear hW0
    (refine wp_region_quiet_all (C := Lies _) (by kernel_rfl) (by kernel_rfl) (Lies.drew (Lies.start _)) ?_; (repeat (first | (have hX_ : True := trivial; refine quiet_skip ?_ ?_; (focus exact wanted_no rfl rfl rfl); clear hX_; simp only [Act.put, List.setIfInBounds_toArray, List.set_cons_zero, List.set_cons_succ]) | (apply quiet_op _ rfl; (focus (intro w1 hw1; have hc1 := hw1.cells; go_simp; (try go_bits); (try (rw [if_pos (by omega)]; go_simp)); first | (go_at_call 31; with_reducible exact Calls.lies hw1 (all_any _)) | (go_at_call 31; exact Calls.lies hw1 (all_any _)) | rfl)); simp only [Act.put, List.setIfInBounds_toArray, List.set_cons_zero, List.set_cons_succ]))); refine wpQuiet_nil ?_; intro w1 hw1)
    go_wp2
    go_ret
    exact ⟨rfl, Lies.below hw1 hB0.size hB0⟩
  have hr : classB s = [91] ++ runsT clsL s.runs ++ [93] := by unfold classB; rw [if_neg hf]
  rw [hr]
  clear hr
  obtain ⟨rs, hrs⟩ : ∃ rs, rs = s.runs := ⟨_, rfl⟩
  have hap : Apart rs := by rw [hrs]; exact apart_runs s
  have hrl := BS.runs_len s
  have K28 := runs_any s
  rw [← hrs] at hrl K28 ⊢
  clear hrs
  have HK28 := Lib.hid K28
  clear K28
  obtain ⟨m, hm⟩ : ∃ m, m = rs.length := ⟨_, rfl⟩
  have HM := Lib.hid hm
  rw [← hm] at hrl
  clear hm
  have hd : decide (s = BS.full) = false := decide_eq_false hf
  clear hf
  go_enter Tryd.func48, Tryd.ntmps48
  go_upto_region 1 with (fail)
  clear hW0
  (refine wp_region_quiet_all (C := Lies _) (by kernel_rfl) (by kernel_rfl) (Lies.drew (Lies.start _)) ?_; (repeat (first | (have hX_ : True := trivial; refine quiet_skip ?_ ?_; (focus exact wanted_no rfl rfl rfl); clear hX_; simp only [Act.put, List.setIfInBounds_toArray, List.set_cons_zero, List.set_cons_succ]) | (apply quiet_op _ rfl; (focus (intro w1 hw1; have hc1 := hw1.cells; go_simp; (try go_bits); (try (rw [if_pos (by omega)]; go_simp)); first | (go_at_call 31; with_reducible exact Calls.lies hw1 (all_any _)) | (go_at_call 31; exact Calls.lies hw1 (all_any _)) | rfl)); simp only [Act.put, List.setIfInBounds_toArray, List.set_cons_zero, List.set_cons_succ]))); refine wpQuiet_nil ?_; intro w1 hw1)
  have hS1 := hS0.lies hw1
  have hB1 := Lies.below hw1 hB0.size hB0
  have he1 := he0.lies hw1
  clear hS0 hB0 he0 hcS0 hlS0 hw1
  obtain ⟨W2, hW2⟩ : ∃ W2, w1.alloc (.cells #[.pointer none, .slice none 0 0] 74) = W2 := ⟨_, rfl⟩
  obtain ⟨b, hb⟩ : ∃ b, b = w1.heap.size := ⟨_, rfl⟩
  have hI2 : Lib.IsBuilderF 74 5 b b (Lib.byteCells []) W2 := by rw [← hW2, hb]; exact Lib.IsBuilderF.of (Lib.fresh_isBuilder 74 5 w1)
  have hS2 : Blk W2 w.heap.size 24 s.cells := by rw [← hW2]; exact hS1.alloc _
  have hB2 : Below w.heap.size w W2 := by rw [← hW2]; exact hB1.alloc hB1.size _
  have he2 : Env W2 := by rw [← hW2]; exact he1.alloc _
  have hbp : w.heap.size < b := by rw [hb]; exact hS1.lt
  have hb2 : b < W2.heap.size := by rw [← hW2, hb]; simp
  go_upto_region 4 with (fail)
  rw [← hb]
  clear hW2 hS1 hB1 he1 hb
  have m0 := @wb_any b b [] 91 W2 (by omega) hI2 (by simp) (Nat.le_of_lt hb2)
  go_upto_region 5 with (go_at_call 64; refine m0.mono ?_; rintro e w3 ⟨rfl, hw3⟩)
  have hI3 := hw3.1
  have hS3 : Blk w3 w.heap.size 24 s.cells := hS2.below hw3.2.1 hbp
  have hB3 : Below w.heap.size w w3 := hB2.trans (hw3.2.1.mono (by omega))
  have he3 : Env w3 := he2.below hw3.2.1 (by omega)
  have hb3 : b < w3.heap.size := Nat.lt_of_lt_of_le hb2 hw3.2.1.size
  have hcS3 := hS3.cell
  clear m0 hI2 hS2 hB2 he2 hw3
  have k28 := HK28.out w3 he3
  go_upto_region 6 with (go_at_call 28; refine k28.mono ?_; rintro e w4 ⟨v, rfl, hrow, hnil, hb4⟩; have hR4 := RB.of (b := b) hrow hb3; have hv : ∃ a c, v = .slice a m c := (by rcases hrow.2 with ⟨h1, h2⟩ | ⟨g, cap, _, h1, _⟩; exact ⟨_, _, by rw [h1, HM.out, h2]⟩; exact ⟨_, _, by rw [h1, HM.out]⟩); obtain ⟨va, vc, rfl⟩ := hv)
  have hI4 := IsB.lies hI3 (show Lies w3 w4 from hb4)
  have hB4 := Lies.below (show Lies w3 w4 from hb4) hB3.size hB3
  have hz4 : w3.heap.size ≤ w4.heap.size := hb4.size
  clear k28 hnil hrow hI3 hS3 hB3 he3 hcS3 hb4
  go_loopw [13] (fun i wr => ∃ k : Nat, k ≤ m ∧ i = .int .i64 (k : Int) ∧ Below w.heap.size w wr ∧ Lib.IsBuilderF 74 5 b b (Lib.byteCells ([91] ++ runsT clsL (rs.take k))) wr ∧ RB b wr (.slice va m vc) rs ∧ b < wr.heap.size) (fun i _ => m - (intOf i).toNat)
  case atStart => exact ⟨0, by omega, rfl, hB4, hI4, hR4, Nat.lt_of_lt_of_le hb3 hz4⟩
  case round =>
    obtain ⟨k, hk, rfl, hbr, hIr, hRr, hbl⟩ := hrel
    clear hB4 hI4 hR4
    by_cases hlt : k < m
    · have hlt' : k < rs.length := by rw [← HM.out]; exact hlt
      rcases hRr with ⟨_, h0⟩ | ⟨g, cap, cur, hvv, hbg, hG, hcur⟩
      · rw [h0] at hlt'; simp at hlt'
      obtain ⟨rfl, -, rfl⟩ : va = some ⟨g, 0, none⟩ ∧ m = rs.length ∧ vc = cap := by injection hvv with h1 h2 h3; exact ⟨h1, h2, h3⟩
      have hck := hcur k hlt'
      have hak := hap.each k hlt'
      have hst := runsT_take clsL rs k hlt'
      have hTl : (runsT clsL (rs.take k)).length ≤ 9 * k := by
        have h1 := runsT_len clsL (rs.take k)
        have h2 : (rs.take k).length = k := by rw [List.length_take]; omega
        omega
      unfold runT at hst
      obtain ⟨a, ha⟩ : ∃ a, a = rs[k].1 := ⟨_, rfl⟩
      obtain ⟨z, hz⟩ : ∃ z, z = rs[k].2 := ⟨_, rfl⟩
      rw [← ha, ← hz] at hck hak hst
      obtain ⟨haz, hz256⟩ := hak
      obtain ⟨T, hT⟩ : ∃ T, T = [91] ++ runsT clsL (rs.take k) := ⟨_, rfl⟩
      have hTl' : T.length ≤ 9 * k + 1 := by rw [hT]; simp; omega
      rw [← hT] at hIr
      have HT := Lib.hid hT
      have HST := Lib.hid hst
      have c1 : wr.cell? ⟨g, k * 2, none⟩ = some (.int .u8 (a : Int)) := (hG.cell _).trans hck.1
      have c2 : wr.cell? ⟨g, k * 2 + 1, none⟩ = some (.int .u8 (z : Int)) := (hG.cell _).trans hck.2
      have hgl := hG.lt
      clear ha hz hck hst hT hTl hvv
      obtain ⟨W5, hW5⟩ : ∃ W5, wr.alloc (.cells #[.int .u8 (a : Int), .int .u8 (z : Int)] 36) = W5 := ⟨_, rfl⟩
      obtain ⟨q, hq⟩ : ∃ q, q = wr.heap.size := ⟨_, rfl⟩
      have hQ5 : Blk W5 q 36 #[.int .u8 (a : Int), .int .u8 (z : Int)] := by rw [← hW5, hq]; exact Blk.new wr 36 _
      have hI5 : Lib.IsBuilderF 74 5 b b (Lib.byteCells T) W5 := by rw [← hW5]; exact IsB.alloc hIr _
      have hB5 : Below w.heap.size w W5 := by rw [← hW5]; exact hbr.alloc hbr.size _
      have hG5 : Blk W5 g 36 cur := by rw [← hW5]; exact hG.alloc _
      have hb5 : b < W5.heap.size := by rw [← hW5]; simp; omega
      have hqb : b < q := by omega
      have hcQ5 := hQ5.cell
      go_upto_region 8 with (fail)
      rw [← hq]
      clear hW5 hIr hbr hG c1 c2 hgl hq hbl
      have m1 := @put_any b b T a ⟨#[93, 45, 94]⟩ W5 (by omega) hI5 (by omega) (Nat.le_of_lt hb5)
      go_upto_region 9 with (go_at_call 65; refine m1.mono ?_; rintro e w6 ⟨rfl, hw6⟩)
      have hI6 := hw6.1
      have hB6 := hB5.trans (hw6.2.1.mono (by omega))
      have hQ6 := hQ5.others hw6.2.2 (by omega) (by decide)
      have hG6 := hG5.others hw6.2.2 (by omega) (by decide)
      have hb6 : b < w6.heap.size := Nat.lt_of_lt_of_le hb5 hw6.2.1.size
      have hT6 : (T ++ sgn clsL a).length ≤ 9 * m + 10 := by have := sgn_len clsL a; simp; omega
      obtain ⟨T6, hT6e⟩ : ∃ T6, T6 = T ++ sgn clsL a := ⟨_, rfl⟩
      have hI6' : Lib.IsBuilderF 74 5 b b (Lib.byteCells T6) w6 := by rw [hT6e]; exact hI6
      rw [← hT6e] at hT6
      have HT6 := Lib.hid hT6e
      have hcQ6 := hQ6.cell
      clear m1 hI5 hB5 hQ5 hG5 hb5 hcQ5 hw6 hI6 hT6e
      have hRB : ∀ w', Blk w' g 36 cur → RB b w' (.slice (some ⟨g, 0, none⟩) m vc) rs := fun w' h => .inr ⟨g, vc, cur, by rw [HM.out], hbg, h, hcur⟩
      rcases (show z = a ∨ z = a + 1 ∨ a + 1 < z by omega) with hza | hza | hza
      · have d1 : decide (1 < (z : Int) - (a : Int)) = false := decide_eq_false (by omega)
        have d2 : ((z : Int) != (a : Int)) = false := by simp; omega
        have hT7 : Hid ([91] ++ runsT clsL (rs.take (k + 1)) = T6) := Lib.hid (by rw [HST.out, ← List.append_assoc, ← HT.out, HT6.out, if_neg (by omega), if_neg (by omega)]; simp)
        clear hza
        go_wp2
        go_roundw
        case rel => exact ⟨k + 1, by omega, by go_num, hB6, by rw [hT7.out]; exact hI6', hRB _ hG6, hb6⟩
        case measure => simp [intOf]; omega
      · have d1 : decide (1 < (z : Int) - (a : Int)) = false := decide_eq_false (by omega)
        have d2 : ((z : Int) != (a : Int)) = true := by simp; omega
        have hT7 : Hid ([91] ++ runsT clsL (rs.take (k + 1)) = T6 ++ sgn clsL z) := Lib.hid (by rw [HST.out, ← List.append_assoc, ← HT.out, HT6.out, if_neg (by omega), if_pos (by omega)]; simp)
        have m1 := @put_any b b T6 z ⟨#[93, 45, 94]⟩ w6 (by omega) hI6' (by omega) (Nat.le_of_lt hb6)
        clear hza
        go_wp2_with (go_at_call 65; refine m1.mono ?_; rintro e w7 ⟨rfl, hw7⟩)
        go_roundw
        case rel => exact ⟨k + 1, by omega, by go_num, hB6.trans (hw7.2.1.mono (by omega)), by rw [hT7.out]; exact hw7.1, hRB _ (hG6.others hw7.2.2 (by omega) (by decide)), Nat.lt_of_lt_of_le hb6 hw7.2.1.size⟩
        case measure => simp [intOf]; omega
      · have d1 : decide (1 < (z : Int) - (a : Int)) = true := decide_eq_true (by omega)
        have d2 : ((z : Int) != (a : Int)) = true := by simp; omega
        have hT7 : Hid ([91] ++ runsT clsL (rs.take (k + 1)) = T6 ++ [45] ++ sgn clsL z) := Lib.hid (by rw [HST.out, ← List.append_assoc, ← HT.out, HT6.out, if_pos (by omega), if_pos (by omega)]; simp)
        have m1 := @wb_any b b T6 45 w6 (by omega) hI6' (by omega) (Nat.le_of_lt hb6)
        clear hza
        go_upto_region 11 with (go_at_call 64; refine m1.mono ?_; rintro e w7 ⟨rfl, hw7⟩)
        have hI7 := hw7.1
        have hB7 := hB6.trans (hw7.2.1.mono (by omega))
        have hQ7 := hQ6.others hw7.2.2 (by omega) (by decide)
        have hG7 := hG6.others hw7.2.2 (by omega) (by decide)
        have hb7 : b < w7.heap.size := Nat.lt_of_lt_of_le hb6 hw7.2.1.size
        have hcQ7 := hQ7.cell
        have m2 := @put_any b b _ z ⟨#[93, 45, 94]⟩ w7 (by omega) hI7 (by simp; omega) (Nat.le_of_lt hb7)
        clear m1 hB6 hQ6 hG6 hb6 hcQ6 hw7
        go_wp2_with (go_at_call 65; refine m2.mono ?_; rintro e w8 ⟨rfl, hw8⟩)
        go_roundw
        case rel => exact ⟨k + 1, by omega, by go_num, hB7.trans (hw8.2.1.mono (by omega)), by rw [hT7.out]; exact hw8.1, hRB _ (hG7.others hw8.2.2 (by omega) (by decide)), Nat.lt_of_lt_of_le hb7 hw8.2.1.size⟩
        case measure => simp [intOf]; omega
    · obtain rfl : k = m := by omega
      have hd9 : decide ((k : Int) < (k : Int)) = false := by simp
      rw [List.take_of_length_le (by rw [← HM.out]; exact Nat.le_refl _)] at hIr
      have hTl := runsT_len clsL rs
      rw [← HM.out] at hTl
      have m1 := @wb_any b b _ 93 wr (by omega) hIr (by simp; omega) (Nat.le_of_lt hbl)
      clear hTl hRr
      go_upto_region 15 with (go_at_call 64; refine m1.mono ?_; rintro e w5 ⟨rfl, hw5⟩)
      have hb5 : b ≤ w5.heap.size := Nat.le_trans (Nat.le_of_lt hbl) hw5.2.1.size
      have m2 := Tryd.Builder_String_any_k b b _ w5 hw5.1 hb5
      clear m1
      go_wp2_with (go_at_call 66; refine m2.mono ?_; rintro e w6 ⟨rfl, hw6⟩)
      go_ret
      exact ⟨rfl, (hbr.trans (hw5.2.1.mono (by omega))).trans (hw6.2.1.mono (by omega))⟩
end Go.Proofs.YtakcckdnliiieaaDoor
