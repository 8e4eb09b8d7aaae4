/- quote's reader: fail, sees, next. -/
import Derived.Test.YtakcckdnliiieaaDoorQ7
import Derived.Test.YtakcckdnliiieaaDoorSet18
import Derived.Test.YtakcckdnliiieaaDoorStp
namespace Go.Proofs.YtakcckdnliiieaaDoor
open Go Go.RowKit
attribute [local go_sem] Oper.quietAt Oper.quietUpon
/-- A reader's cells. -/
def rdr (t L : ByteArray) (en mb i e : Nat) : Array Value := #[.string t, .string L, .int .u8 (en : Int), .map (some mb), .int .i64 (i : Int), .int .i64 (e : Int)]
theorem grown_lies {w w' : World} (h : Lies w w') (row : Option Nat) : w.grownBy w' row := ⟨h.os, h.tape, h.output, h.size, fun k hk _ => h.block k hk⟩
theorem grown_drew (w : World) (row : Option Nat) : w.grownBy w.drew row := grown_lies (Lies.drew (Lies.start w)) row
theorem ret_eqb (a b : Nat) : Ending.returned (.bool ((a : Int) == (b : Int))) = .returned (.bool (a == b)) := by rw [nat_eqb]
def byteAt (t : ByteArray) (i : Nat) : Option Nat := (t.data.toList[i]?).map UInt8.toNat
def seesB (t : ByteArray) (i b : Nat) : Bool := byteAt t i == some b
theorem byteAt_lt {t : ByteArray} {i : Nat} (h : i < t.size) : byteAt t i = some t[i].toNat := by
  unfold byteAt
  rw [List.getElem?_eq_getElem (by simpa using h)]; rfl
theorem byteAt_ge {t : ByteArray} {i : Nat} (h : t.size ≤ i) : byteAt t i = none := by
  unfold byteAt
  rw [List.getElem?_eq_none (by rw [Array.length_toList]; exact h)]; rfl
set_option maxRecDepth 100000 in
set_option maxHeartbeats 1000000 in
theorem sees_any {t L : ByteArray} {en mb i e g b : Nat} {w : World} (ht : t.size ≤ 1000000000) (hB : Blk w g 84 (rdr t L en mb i e)) :
    Calls Tryd.prog 68 #[.pointer (some ⟨g, 0, none⟩), .int .u8 (b : Int)] w (Ret (.bool (seesB t i b)) w) := by
  have hl := hB.lt
  have c0 : w.cell? ⟨g, 0, none⟩ = some (.string t) := hB.cell 0
  have c4 : w.cell? ⟨g, 4, none⟩ = some (.int .i64 (i : Int)) := hB.cell 4
  by_cases hi : i < t.size
  · have hs : seesB t i b = (t[i].toNat == b) := by unfold seesB; rw [byteAt_lt hi]; rfl
    rw [hs]
    clear hs hB
    go_enter Tryd.func68, Tryd.ntmps68
    go_upto_region 1 with (fail)
    (refine wp_region_quiet_all (C := Lies _) (by kernel_rfl) (by kernel_rfl) (Lies.drew (Lies.start _)) ?_; (repeat (first | (have hX_ : True := trivial; refine quiet_skip ?_ ?_; (focus exact wanted_no rfl rfl rfl); clear hX_; simp only [Act.put, List.setIfInBounds_toArray, List.set_cons_zero, List.set_cons_succ]) | (apply quiet_op _ rfl; (focus (intro w1 hw1; have hc1 := hw1.cells; go_simp; (try go_bits); (try (rw [if_pos (by omega)]; go_simp)); first | rfl)); simp only [Act.put, List.setIfInBounds_toArray, List.set_cons_zero, List.set_cons_succ]))); refine wpQuiet_nil ?_; intro w2 hw2)
    go_wp2
    go_ret
    exact ⟨ret_eqb _ _, hw2⟩
  · have hs : seesB t i b = false := by unfold seesB; rw [byteAt_ge (by omega)]; rfl
    rw [hs]
    have hd : decide (i < t.size) = false := decide_eq_false hi
    clear hs hB
    go_enter Tryd.func68, Tryd.ntmps68
    go_upto_region 1 with (fail)
    (refine wp_region_quiet_all (C := Lies _) (by kernel_rfl) (by kernel_rfl) (Lies.drew (Lies.start _)) ?_; (repeat (first | (have hX_ : True := trivial; refine quiet_skip ?_ ?_; (focus exact wanted_no rfl rfl rfl); clear hX_; simp only [Act.put, List.setIfInBounds_toArray, List.set_cons_zero, List.set_cons_succ]) | (apply quiet_op _ rfl; (focus (intro w1 hw1; have hc1 := hw1.cells; go_simp; (try go_bits); (try (rw [if_pos (by omega)]; go_simp)); first | rfl)); simp only [Act.put, List.setIfInBounds_toArray, List.set_cons_zero, List.set_cons_succ]))); refine wpQuiet_nil ?_; intro w2 hw2)
    go_wp2
    go_ret
    exact ⟨rfl, hw2⟩
set_option maxRecDepth 100000 in
set_option maxHeartbeats 1000000 in
theorem fail_any {t L : ByteArray} {en mb i e g j : Nat} {w : World} (hB : Blk w g 84 (rdr t L en mb i e)) :
    Calls Tryd.prog 71 #[.pointer (some ⟨g, 0, none⟩), .int .i64 (j : Int)] w fun x w' => x = .returned (.tuple #[]) ∧ Blk w' g 84 (rdr t L en mb j 4) ∧ w.grownBy w' (some g) := by
  have hc := hB.cell
  have hf := hB.free
  have h1 := (hB.set 4 (.int .i64 (j : Int))).set 5 (.int .i64 4)
  go_enter Tryd.func71, Tryd.ntmps71
  go_wp2
  go_end0
  exact ⟨rfl, h1, grownBy_trans (grownBy_setCell _ _ _ _) (grownBy_setCell _ _ _ _)⟩
set_option maxRecDepth 100000 in
set_option maxHeartbeats 1000000 in
theorem next_yes {t L : ByteArray} {en mb i e g : Nat} {w : World} (ht : t.size ≤ 1000000000) (hB : Blk w g 84 (rdr t L en mb i e)) (hi : i < t.size) :
    Calls Tryd.prog 81 #[.pointer (some ⟨g, 0, none⟩)] w fun x w' => x = .returned (.tuple #[.int .u8 (t[i].toNat : Int), .bool true]) ∧ Blk w' g 84 (rdr t L en mb (i + 1) e) ∧ w.grownBy w' (some g) := by
  have hl := hB.lt
  have c0 : w.cell? ⟨g, 0, none⟩ = some (.string t) := hB.cell 0
  have c4 : w.cell? ⟨g, 4, none⟩ = some (.int .i64 (i : Int)) := hB.cell 4
  have hd : decide (t.size ≤ i) = false := decide_eq_false (by omega)
  go_enter Tryd.func81, Tryd.ntmps81
  go_upto_region 1 with (fail)
  (refine wp_region_quiet_all (C := Lies _) (by kernel_rfl) (by kernel_rfl) (Lies.drew (Lies.start _)) ?_; (repeat (first | (have hX_ : True := trivial; refine quiet_skip ?_ ?_; (focus exact wanted_no rfl rfl rfl); clear hX_; simp only [Act.put, List.setIfInBounds_toArray, List.set_cons_zero, List.set_cons_succ]) | (apply quiet_op _ rfl; (focus (intro w1 hw1; have hc1 := hw1.cells; go_simp; (try go_bits); (try (rw [if_pos (by omega)]; go_simp)); first | rfl)); simp only [Act.put, List.setIfInBounds_toArray, List.set_cons_zero, List.set_cons_succ]))); refine wpQuiet_nil ?_; intro w2 hw2)
  have hB2 := hB.lies hw2
  have hg2 := grown_lies hw2 (some g)
  have c4' : w2.cell? ⟨g, 4, none⟩ = some (.int .i64 (i : Int)) := hB2.cell 4
  have f4' := hB2.free 4
  clear c0 c4 hl hB hw2
  obtain ⟨W3, hW3⟩ : ∃ W3, w2.setCell ⟨g, 4, none⟩ (.int .i64 ((i : Int) + 1)) = W3 := ⟨_, rfl⟩
  have hB3 : Blk W3 g 84 (rdr t L en mb (i + 1) e) := by
    rw [← hW3]
    have := hB2.set 4 (.int .i64 ((i + 1 : Nat) : Int))
    rwa [show ((i + 1 : Nat) : Int) = (i : Int) + 1 from rfl] at this
  have hg3 : w.grownBy W3 (some g) := by rw [← hW3]; exact grownBy_trans hg2 (grownBy_setCell _ _ _ _)
  go_upto_region 5 with (fail)
  clear hW3 hB2 hg2 c4' f4'
  have hl := hB3.lt
  have c0 : W3.cell? ⟨g, 0, none⟩ = some (.string t) := hB3.cell 0
  have c4 : W3.cell? ⟨g, 4, none⟩ = some (.int .i64 ((i : Int) + 1)) := hB3.cell 4
  (refine wp_region_quiet_all (C := Lies _) (by kernel_rfl) (by kernel_rfl) (Lies.drew (Lies.start _)) ?_; (repeat (first | (have hX_ : True := trivial; refine quiet_skip ?_ ?_; (focus exact wanted_no rfl rfl rfl); clear hX_; simp only [Act.put, List.setIfInBounds_toArray, List.set_cons_zero, List.set_cons_succ]) | (apply quiet_op _ rfl; (focus (intro w1 hw1; have hc1 := hw1.cells; go_simp; (try go_bits); (try (rw [if_pos (by omega)]; go_simp)); first | rfl)); simp only [Act.put, List.setIfInBounds_toArray, List.set_cons_zero, List.set_cons_succ]))); refine wpQuiet_nil ?_; intro w4 hw4)
  go_wp2
  go_ret2
  exact ⟨rfl, hB3.lies hw4, grownBy_trans hg3 (grown_lies hw4 _)⟩
set_option maxRecDepth 100000 in
set_option maxHeartbeats 1000000 in
theorem next_no {t L : ByteArray} {en mb i e g : Nat} {w : World} (ht : t.size ≤ 1000000000) (hB : Blk w g 84 (rdr t L en mb i e)) (hi : t.size ≤ i) :
    Calls Tryd.prog 81 #[.pointer (some ⟨g, 0, none⟩)] w fun x w' => x = .returned (.tuple #[.int .u8 0, .bool false]) ∧ Blk w' g 84 (rdr t L en mb t.size 8) ∧ w.grownBy w' (some g) := by
  have hl := hB.lt
  have c0 : w.cell? ⟨g, 0, none⟩ = some (.string t) := hB.cell 0
  have c4 : w.cell? ⟨g, 4, none⟩ = some (.int .i64 (i : Int)) := hB.cell 4
  have hd : decide (t.size ≤ i) = true := decide_eq_true hi
  go_enter Tryd.func81, Tryd.ntmps81
  go_upto_region 1 with (fail)
  (refine wp_region_quiet_all (C := Lies _) (by kernel_rfl) (by kernel_rfl) (Lies.drew (Lies.start _)) ?_; (repeat (first | (have hX_ : True := trivial; refine quiet_skip ?_ ?_; (focus exact wanted_no rfl rfl rfl); clear hX_; simp only [Act.put, List.setIfInBounds_toArray, List.set_cons_zero, List.set_cons_succ]) | (apply quiet_op _ rfl; (focus (intro w1 hw1; have hc1 := hw1.cells; go_simp; (try go_bits); (try (rw [if_pos (by omega)]; go_simp)); first | rfl)); simp only [Act.put, List.setIfInBounds_toArray, List.set_cons_zero, List.set_cons_succ]))); refine wpQuiet_nil ?_; intro w2 hw2)
  have hB2 := hB.lies hw2
  have hg2 := grown_lies hw2 (some g)
  clear c0 c4 hl hB hw2
  have c0' : w2.cell? ⟨g, 0, none⟩ = some (.string t) := hB2.cell 0
  have c4' : w2.cell? ⟨g, 4, none⟩ = some (.int .i64 (i : Int)) := hB2.cell 4
  have c5' : w2.cell? ⟨g, 5, none⟩ = some (.int .i64 (e : Int)) := hB2.cell 5
  have hf := hB2.free
  have h1 := (hB2.set 4 (.int .i64 (t.size : Int))).set 5 (.int .i64 8)
  go_wp2
  go_ret2
  exact ⟨rfl, h1, grownBy_trans hg2 (grownBy_trans (grownBy_setCell _ _ _ _) (grownBy_setCell _ _ _ _))⟩
end Go.Proofs.YtakcckdnliiieaaDoor
