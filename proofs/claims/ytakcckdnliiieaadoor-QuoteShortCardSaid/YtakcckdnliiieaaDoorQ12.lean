/- quote's reader: the iterator of its signs. -/
import Derived.Test.YtakcckdnliiieaaDoorQ11
import Derived.Test.YtakcckdnliiieaaDoorRng
import Derived.RangeFuncBound
import Derived.RangeFuncCalls
import Derived.RangeFuncLeaves
import Derived.Shelf.Abstract
import Derived.Shelf.RegionOpen
import Derived.WalkKit
import Derived.OwnWalkIn
import Derived.TacticsInMore
import Derived.LoopNIn
import Derived.LoopIn
namespace Go.Proofs.YtakcckdnliiieaaDoor
open Go Go.RowKit Go.Shelf
attribute [local go_sem] Oper.quietAt Oper.quietUpon
/-- Where a round begins: behind what the last one's body took. -/
def headAt (nx : Nat × Nat → Nat) (i0 : Nat) (pre : List (Nat × Nat)) : Nat := match pre.getLast? with | none => i0 | some x => nx x
def headE (e0 : Nat) (pre : List (Nat × Nat)) : Nat := if pre = [] then e0 else 0
/-- Does a reader end here, and how does it stand then? -/
def endAt (t : ByteArray) (L : List UInt8) (en i e : Nat) : Option (Nat × Nat) :=
  if e ≠ 0 then some (i, e) else if seesB t i en then some (i, 0) else if (signP t L i).2.2 = 0 then none else some (signP t L i).2
/-- A reader, its map and the box that the iterator holds. -/
def RD (g mb bx : Nat) (t L : ByteArray) (en i e : Nat) (w : World) : Prop := Blk w g 84 (rdr t L en mb i e) ∧ EscAt w mb L.data.toList ∧ Blk w bx 80 #[.pointer (some ⟨g, 0, none⟩)]
def RdR (nx : Nat × Nat → Nat) (g mb bx : Nat) (t L : ByteArray) (en i0 e0 : Nat) (pre : List (Nat × Nat)) (w : World) : Prop :=
  RD g mb bx t L en (headAt nx i0 pre) (headE e0 pre) w ∧ headAt nx i0 pre ≤ t.size ∧ pre.length ≤ headAt nx i0 pre
def RdR1 (nx : Nat × Nat → Nat) (g mb bx : Nat) (t L : ByteArray) (en i0 e0 : Nat) (pre : List (Nat × Nat)) (x : Nat × Nat) (w : World) : Prop :=
  RD g mb bx t L en x.2 0 w ∧ endAt t L.data.toList en (headAt nx i0 pre) (headE e0 pre) = none ∧ signP t L.data.toList (headAt nx i0 pre) = (x.1, x.2, 0) ∧ x.2 ≤ t.size ∧ pre.length < x.2
def RdE (nx : Nat × Nat → Nat) (g mb bx : Nat) (t L : ByteArray) (en i0 e0 : Nat) (pre : List (Nat × Nat)) (w : World) : Prop :=
  ∃ i e, endAt t L.data.toList en (headAt nx i0 pre) (headE e0 pre) = some (i, e) ∧ RD g mb bx t L en i e w ∧ pre.length ≤ t.size
theorem headAt_snoc (nx : Nat × Nat → Nat) (i0 : Nat) (pre : List (Nat × Nat)) (x : Nat × Nat) : headAt nx i0 (pre ++ [x]) = nx x := by simp [headAt]
theorem headE_snoc (e0 : Nat) (pre : List (Nat × Nat)) (x : Nat × Nat) : headE e0 (pre ++ [x]) = 0 := by simp [headE]
theorem RD.grown {g mb bx : Nat} {t L : ByteArray} {en i e i' e' : Nat} {w w' : World} (h : RD g mb bx t L en i e w) (hm : mb ≠ g) (hb : bx ≠ g) (hB : Blk w' g 84 (rdr t L en mb i' e')) (hg : w.grownBy w' (some g)) : RD g mb bx t L en i' e' w' :=
  ⟨hB, h.2.1.grown hg hm, h.2.2.grown hg (by simpa using hb)⟩
theorem RD.lies {g mb bx : Nat} {t L : ByteArray} {en i e : Nat} {w w' : World} (h : RD g mb bx t L en i e w) (hw : Lies w w') : RD g mb bx t L en i e w' := ⟨h.1.lies hw, h.2.1.lies hw, h.2.2.lies hw⟩
/-- Where a reader stands, out of the world. -/
def posOf (g : Nat) (w : World) : Nat := (intOf ((w.cell? ⟨g, 4, none⟩).getD undef)).toNat
theorem posOf_rd {g mb bx : Nat} {t L : ByteArray} {en i e : Nat} {w : World} (h : RD g mb bx t L en i e w) : posOf g w = i := by
  unfold posOf
  rw [show w.cell? ⟨g, 4, none⟩ = some (.int .i64 (i : Int)) from h.1.cell 4]
  simp [intOf]
set_option maxRecDepth 100000 in
set_option maxHeartbeats 2000000 in
theorem signs_seq (n : Nat) (hn : 1 ≤ n) (nx : Nat × Nat → Nat) {g mb bx en i0 e0 : Nat} {t L : ByteArray} (ht : t.size ≤ 1000000000) (hL : L.size ≤ 1000) (hmg : mb ≠ g) (hbg : bx ≠ g) (hen : en < 256) (hnx : ∀ x : Nat × Nat, x.2 ≤ t.size → x.2 ≤ nx x) :
    SeqRd Fence.wide n Tryd.prog 82 #[.pointer (some ⟨bx, 0, none⟩)] (fun x : Nat × Nat => #[.int .u8 (x.1 : Int)]) g (RdR nx g mb bx t L en i0 e0) (RdR1 nx g mb bx t L en i0 e0) (RdE nx g mb bx t L en i0 e0) := by
  intro l U Ux W hUg hY hU0 hR0
  refine callsIn_of_wp Tryd.func82 rfl trivial ?_ rfl
  simp only [Tryd.ntmps82, List.size_toArray, List.length_cons, List.length_nil, Nat.reduceAdd, Nat.reduceSub, Array.replicate_succ, Array.replicate_zero, List.push_toArray, List.append_toArray, List.nil_append, List.cons_append]
  gi_wp2
  gi_loopw [3] (fun _ wr => ∃ pre, U pre wr ∧ RdR nx g mb bx t L en i0 e0 pre wr) (fun _ wr => t.size - posOf g wr)
  case atStart => exact ⟨[], hU0, hR0⟩
  case round =>
    clear hU0 hR0
    obtain ⟨pre, hu, hRD, hle, hpl⟩ := hrel
    obtain ⟨i, hi⟩ : ∃ i, i = headAt nx i0 pre := ⟨_, rfl⟩
    obtain ⟨e, he⟩ : ∃ e, e = headE e0 pre := ⟨_, rfl⟩
    rw [← hi, ← he] at hRD
    rw [← hi] at hle hpl
    have HI := Lib.hid hi
    have HE := Lib.hid he
    clear hi he
    have hl1 := hRD.1.lt
    have hl2 := hRD.2.2.lt
    have cb : wr.cell? ⟨bx, 0, none⟩ = some (.pointer (some ⟨g, 0, none⟩)) := hRD.2.2.cell 0
    have c2 : wr.cell? ⟨g, 2, none⟩ = some (.int .u8 (en : Int)) := hRD.1.cell 2
    have c5 : wr.cell? ⟨g, 5, none⟩ = some (.int .i64 (e : Int)) := hRD.1.cell 5
    have hp := posOf_rd hRD
    by_cases he0 : e = 0
    case neg =>
      have d1 : ((e : Int) == 0) = false := by simp; omega
      have hend : endAt t L.data.toList en (headAt nx i0 pre) (headE e0 pre) = some (i, e) := by rw [← HI.out, ← HE.out]; unfold endAt; rw [if_pos he0]
      have HEND := Lib.hid hend
      clear hend he0 hp
      gi_wp2
      refine wpIn_wide.2 ?_
      (refine wp_region_quiet_all (C := Lies _) (by kernel_rfl) (by kernel_rfl) (Lies.drew (Lies.start _)) ?_; (repeat (first | (refine quiet_skip rfl ?_; simp only [Act.put, List.setIfInBounds_toArray, List.set_cons_zero, List.set_cons_succ]) | (apply quiet_op _ rfl; (focus (intro w1 hw1; have hc1 := hw1.cells; go_simp; (try go_bits); (try (rw [if_pos (by omega)]; go_simp)); first | rfl)); simp only [Act.put, List.setIfInBounds_toArray, List.set_cons_zero, List.set_cons_succ]))); refine wpQuiet_nil ?_; intro w2 hw2)
      gi_wp2
      go_end0
      exact ⟨⟨_, rfl⟩, .inl ⟨pre, hUg _ _ _ hu (grown_lies hw2 _), i, e, HEND.out, hRD.lies hw2, by omega⟩⟩
    subst he0
    have c5' : wr.cell? ⟨g, 5, none⟩ = some (.int .i64 0) := c5
    clear c5
    have k68 := fun w h => @sees_any t L en mb i 0 g en w ht h
    by_cases hs : seesB t i en = true
    · simp only [hs] at k68
      have hend : endAt t L.data.toList en (headAt nx i0 pre) (headE e0 pre) = some (i, 0) := by rw [← HI.out, ← HE.out]; unfold endAt; rw [if_neg (by omega), if_pos hs]
      have HEND := Lib.hid hend
      clear hend hs hp
      gi_wp2
      refine wpIn_wide.2 ?_
      (refine wp_region_quiet_all (C := Lies _) (by kernel_rfl) (by kernel_rfl) (Lies.drew (Lies.start _)) ?_; (repeat (first | (refine quiet_skip rfl ?_; simp only [Act.put, List.setIfInBounds_toArray, List.set_cons_zero, List.set_cons_succ]) | (apply quiet_op _ rfl; (focus (intro w1 hw1; have hc1 := hw1.cells; go_simp; (try go_bits); (try (rw [if_pos (by omega)]; go_simp)); first | (go_at_call 68; with_reducible exact Calls.lies hw1 (k68 _ (hRD.1.lies hw1))) | (go_at_call 68; exact Calls.lies hw1 (k68 _ (hRD.1.lies hw1))) | rfl)); simp only [Act.put, List.setIfInBounds_toArray, List.set_cons_zero, List.set_cons_succ]))); refine wpQuiet_nil ?_; intro w2 hw2)
      gi_wp2
      go_end0
      exact ⟨⟨_, rfl⟩, .inl ⟨pre, hUg _ _ _ hu (grown_lies hw2 _), i, 0, HEND.out, hRD.lies hw2, by omega⟩⟩
    have hs' : seesB t i en = false := by simpa using hs
    simp only [hs'] at k68
    have hsl := @signP_le t L.data.toList i hle
    obtain ⟨r, hr⟩ : ∃ r, r = signP t L.data.toList i := ⟨_, rfl⟩
    rw [← hr] at hsl
    obtain ⟨v, j, e2⟩ := r
    obtain ⟨hj, hv, hij⟩ := hsl
    simp only at hj hv hij
    have k83 := fun w h1 h2 => @sign_rd t L en mb i g w ht hle hL h1 h2 hmg
    rw [← hr] at k83
    simp only at k83
    have HR := Lib.hid hr
    by_cases he2 : e2 = 0
    case neg =>
      have hend : endAt t L.data.toList en (headAt nx i0 pre) (headE e0 pre) = some (j, e2) := by rw [← HI.out, ← HE.out]; unfold endAt; rw [if_neg (by omega), if_neg hs, ← HR.out, if_neg he2]
      have HEND := Lib.hid hend
      have d2 : (e2 == 0) = false := by simpa using he2
      clear hend hs hs' hp hr he2 hij
      gi_wp2
      refine wpIn_wide.2 ?_
      (refine wp_region_quiet_all (C := Lies _) (by kernel_rfl) (by kernel_rfl) (Lies.drew (Lies.start _)) ?_; (repeat (first | (refine quiet_skip rfl ?_; simp only [Act.put, List.setIfInBounds_toArray, List.set_cons_zero, List.set_cons_succ]) | (apply quiet_op _ rfl; (focus (intro w1 hw1; have hc1 := hw1.cells; go_simp; (try go_bits); (try (rw [if_pos (by omega)]; go_simp)); first | (go_at_call 68; with_reducible exact Calls.lies hw1 (k68 _ (hRD.1.lies hw1))) | (go_at_call 68; exact Calls.lies hw1 (k68 _ (hRD.1.lies hw1))) | rfl)); simp only [Act.put, List.setIfInBounds_toArray, List.set_cons_zero, List.set_cons_succ]))); refine wpQuiet_nil ?_; intro w2 hw2)
      have hR2 := hRD.lies hw2
      have hu2 := hUg _ _ _ hu (grown_lies hw2 (some g))
      have cb2 : w2.cell? ⟨bx, 0, none⟩ = some (.pointer (some ⟨g, 0, none⟩)) := hR2.2.2.cell 0
      clear hRD hu cb c2 c5' hl1 hl2 hw2
      gi_wp2_with (refine ⟨trivial, ?_⟩; gi_at_call 83; refine (callsIn_wide.2 (k83 _ hR2.1 hR2.2.1)).mono ?_; rintro x w3 ⟨rfl, hB3, hg3⟩)
      refine ⟨(fun _ h => by cases h), ?_⟩
      gi_wp2
      refine bodyPost_ret (results_none rfl _ _ _) rfl ?_
      exact ⟨⟨_, rfl⟩, .inl ⟨pre, hUg _ _ _ hu2 hg3, j, e2, HEND.out, hR2.grown hmg hbg hB3 hg3, by omega⟩⟩
    subst he2
    have hend : endAt t L.data.toList en (headAt nx i0 pre) (headE e0 pre) = none := by rw [← HI.out, ← HE.out]; unfold endAt; rw [if_neg (by omega), if_neg hs, ← HR.out, if_pos rfl]
    have HEND := Lib.hid hend
    have hsg : Hid (signP t L.data.toList (headAt nx i0 pre) = (v, j, 0)) := Lib.hid (by rw [← HI.out]; exact hr.symm)
    have hij' := hij rfl
    have HP := Lib.hid hp
    clear hend hs hs' hr hij hp
    gi_wp2
    refine wpIn_wide.2 ?_
    (refine wp_region_quiet_all (C := Lies _) (by kernel_rfl) (by kernel_rfl) (Lies.drew (Lies.start _)) ?_; (repeat (first | (refine quiet_skip rfl ?_; simp only [Act.put, List.setIfInBounds_toArray, List.set_cons_zero, List.set_cons_succ]) | (apply quiet_op _ rfl; (focus (intro w1 hw1; have hc1 := hw1.cells; go_simp; (try go_bits); (try (rw [if_pos (by omega)]; go_simp)); first | (go_at_call 68; with_reducible exact Calls.lies hw1 (k68 _ (hRD.1.lies hw1))) | (go_at_call 68; exact Calls.lies hw1 (k68 _ (hRD.1.lies hw1))) | rfl)); simp only [Act.put, List.setIfInBounds_toArray, List.set_cons_zero, List.set_cons_succ]))); refine wpQuiet_nil ?_; intro w2 hw2)
    have hR2 := hRD.lies hw2
    have hu2 := hUg _ _ _ hu (grown_lies hw2 (some g))
    have cb2 : w2.cell? ⟨bx, 0, none⟩ = some (.pointer (some ⟨g, 0, none⟩)) := hR2.2.2.cell 0
    clear hRD hu cb c2 c5' hl1 hl2 hw2
    gi_wp2_with (refine ⟨trivial, ?_⟩; gi_at_call 83; refine (callsIn_wide.2 (k83 _ hR2.1 hR2.2.1)).mono ?_; rintro x w3 ⟨rfl, hB3, hg3⟩; have hR3 := hR2.grown hmg hbg hB3 hg3; obtain ⟨fn, tmps, assign, body, hy, hRd⟩ := hY pre (v, j) w3 (hUg _ _ _ hu2 hg3) ⟨hR3, HEND.out, hsg.out, hj, by omega⟩; dsimp only at hy hRd)
    refine hRd.mono ?_
    rintro x W4 (⟨rfl, hu4, hR4⟩ | ⟨rfl, hx4⟩)
    · have hp4 : posOf g W4 = nx (v, j) := by rw [posOf_rd hR4.1, headAt_snoc]
      have hn4 := hnx (v, j) hj
      have hn5 : nx (v, j) ≤ t.size := by have := hR4.2.1; rwa [headAt_snoc] at this
      gi_wp2
      go_roundw
      case rel => exact ⟨_, hu4, hR4⟩
      case measure => rw [hp4, HP.out]; omega
    · gi_wp2
      refine bodyPost_ret (results_none rfl _ _ _) rfl ?_
      exact ⟨⟨_, rfl⟩, .inr ⟨_, hx4⟩⟩
end Go.Proofs.YtakcckdnliiieaaDoor
