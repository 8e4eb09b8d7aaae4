/- log.Decode walked. -/
import Derived.Test.YtbgmjlonbbmffaaDoorL10
namespace Go.Proofs.YtbgmjlonbbmffaaDoor
open Go Go.RowKit
attribute [local go_sem] Oper.quietAt Oper.quietUpon
/-- What Decode leaves. -/
def DecRet (w : World) (r : List ItemD × Nat) (x : Ending) (w' : World) : Prop :=
  ∃ v, x = .returned (.tuple #[v, .int .i64 (r.2 : Int)]) ∧ ItemsAt w' (fun b => w.heap.size ≤ b ∧ b < w'.heap.size) v r.1 ∧ Lies w w'
theorem items_nil (w : World) (F : Nat → Prop) : ItemsAt w F (.slice none 0 0) [] := ⟨none, 0, rfl, by simp [maxLen], by simp, fun h => absurd rfl h⟩
theorem decRet_nil {w w' : World} {e : Nat} {x : Ending} (hx : x = .returned (.tuple #[.slice none 0 0, .int .i64 (e : Int)])) (h : Lies w w') : DecRet w ([], e) x w' := ⟨_, hx, items_nil _ _, h⟩
theorem lies_grown {w W W' : World} {g : Nat} (h : Lies w W) (k : W.grownBy W' (some g)) (hg : w.heap.size ≤ g) : Lies w W' := below_grown h k hg h.size
theorem Tryd.info37' : (Tryd.prog.info? 37).map (fun i => (i.zero, i.size, i.bytes)) = some (some (.agg zc), 6, 56) := by kernel_rfl
set_option maxRecDepth 100000 in
set_option maxHeartbeats 1500000 in
theorem decode_any {t : ByteArray} {w : World} (ht : t.size ≤ 1000000000) :
    Calls Tryd.prog 16 #[.string t] w (DecRet w (decP t)) := by
  obtain ⟨r, hr⟩ : ∃ r, decP t = r := ⟨_, rfl⟩
  rw [hr]
  unfold decP at hr
  have h1 := @numP_ok t 2147483647 0 (Nat.zero_le _)
  obtain ⟨W0, hW0⟩ : ∃ W0, w.alloc (.cells #[.string t, .int .i64 0] 70) = W0 := ⟨_, rfl⟩
  obtain ⟨g, hg0⟩ : ∃ g, w.heap.size = g := ⟨_, rfl⟩
  have hR0 : Blk W0 g 70 (rdr t 0) := by rw [← hW0, ← hg0]; exact Blk.new w 70 _
  have hl0 : Lies w W0 := by rw [← hW0]; exact (Lies.start w).alloc (Nat.le_refl _) _
  have k1 := num_max ht 0 (Nat.zero_le _) _ hR0
  generalize numP t 2147483647 0 = r1 at k1 h1 hr
  obtain ⟨n1, e1, p1⟩ := r1
  have HR := Lib.hid hr
  clear hr
  go_enter Tryd.func16, Tryd.ntmps16
  go_upto_region 2 with (fail)
  clear hW0
  go_upto_region 3 with (go_at_call 32; refine k1.mono ?_; rintro x1 W1 ⟨rfl, hR1, hg1⟩)
  have hl1 := lies_grown hl0 hg1 (by omega)
  clear k1 hg1 hl0 hR0
  by_cases he1 : e1 = 0
  case neg =>
    obtain rfl : r = ([], e1) := by rw [← HR.out]; unfold decA; rw [if_neg he1]
    have d1 : ((e1 : Int) == 0) = false := by simp; omega
    clear HR
    go_wp2
    go_ret2
    exact decRet_nil rfl hl1
  subst he1
  have HR2 : Hid ((if 4096 < n1 then ([], 40) else decE t (itemsG t n1 [] p1)) = r) := Lib.hid HR.out
  clear HR
  by_cases hn1 : 4096 < n1
  case pos =>
    obtain rfl : r = ([], 40) := by rw [← HR2.out, if_pos hn1]
    have d1 : decide (4096 < n1) = true := decide_eq_true hn1
    clear HR2
    go_wp2
    go_ret2
    exact decRet_nil rfl hl1
  have d1 : decide ((4096 : Int) < (n1 : Int)) = false := decide_eq_false (by omega)
  obtain ⟨r5, hr5⟩ : ∃ r5, itemsG t n1 [] p1 = r5 := ⟨_, rfl⟩
  have HR3 : Hid (decE t r5 = r) := Lib.hid (by rw [← hr5]; have := HR2.out; rwa [if_neg hn1] at this)
  have HP := Lib.hid hr5
  clear HR2 hr5
  simp only [Int.natCast_zero]
  go_wp2_with fail
  go_loopw [7, 24] (fun u j wr => ∃ (k q : Nat) (ps : List (ItemD × Value)), j = .int .i64 (k : Int) ∧ k ≤ n1 ∧ ps.length = k ∧ q ≤ t.size ∧ Hid (wr.ownsRow (g + 1) 37 6 u k (cellsOf ps)) ∧ Hid (Blk wr g 70 (rdr t q)) ∧ Hid (Lies w wr) ∧ Hid (∀ p ∈ ps, p.1.step.ok) ∧ Hid (∀ p ∈ ps, IntsAt wr (fun b => g + 1 ≤ b ∧ b < wr.heap.size ∧ u.ownBlock ≠ some b) p.2 p.1.step.path) ∧ Hid (itemsG t (n1 - k) (ps.map (·.1)) q = r5)) (fun _ j _ => n1 - (intOf j).toNat)
  case atStart => exact ⟨0, p1, [], rfl, Nat.zero_le _, rfl, h1.2, Lib.hid (World.ownsRow_nil _ _ _ _), Lib.hid hR1, Lib.hid hl1, Lib.hid (by simp), Lib.hid (by simp), HP⟩
  case round =>
    clear hR1 hl1 HP
    obtain ⟨k, q, ps, rfl, hk, hac, hq, hrow, hR, hl, hok, hps, hP⟩ := hrel
    by_cases hlt : k < n1
    case neg =>
      obtain rfl : k = n1 := by omega
      have d2 : decide (k < k) = false := decide_eq_false hlt
      obtain rfl : r5 = (ps.map (·.1), 0, q) := by rw [← hP.out, Nat.sub_self]; rfl
      have c1 : wr.cell? ⟨g, 1, none⟩ = some (.int .i64 (q : Int)) := hR.out.cell 1
      have hlR := hR.out.lt
      by_cases hqt : q < t.size
      · obtain rfl : r = ([], 10) := by rw [← HR3.out]; unfold decE; rw [if_pos rfl, if_pos hqt]
        have d3 : decide (q < t.size) = true := decide_eq_true hqt
        clear HR3 hP
        go_wp2
        go_ret2
        exact decRet_nil rfl hl.out
      · obtain rfl : r = (ps.map (·.1), 0) := by rw [← HR3.out]; unfold decE; rw [if_pos rfl, if_neg hqt]
        have d3 : decide (q < t.size) = false := decide_eq_false hqt
        clear HR3 hP
        go_wp2
        go_ret2
        exact ⟨_, rfl, items_of_row hrow.out hac.symm (by omega) hok.out (fun p hp => (hps.out p hp).mono (fun b hb => ⟨by omega, hb.2.1⟩)) (fun b h1 h2 => ⟨by omega, h2⟩), hl.out⟩
    have d2 : decide (k < n1) = true := decide_eq_true hlt
    have k5 := item_any ht hq hR.out
    have h5 := itemP_ok hq
    have hP2 : Hid ((if (itemP t q).2.1 = 0 then itemsG t (n1 - (k + 1)) (ps.map (·.1) ++ [(itemP t q).1]) (itemP t q).2.2 else ([], (itemP t q).2.1, (itemP t q).2.2)) = r5) := Lib.hid (by have := hP.out; rw [show n1 - k = (n1 - (k + 1)) + 1 by omega] at this; exact this)
    generalize itemP t q = r6 at k5 h5 hP2
    obtain ⟨⟨m6, ⟨a6, b6, c6, l6, z6⟩⟩, e6, q6⟩ := r6
    unfold ItemRet itemV at k5
    simp only at k5
    clear hP
    go_upto_region 11 with (first | (go_at_call 33; refine k5.mono ?_; rintro x6 wr1 ⟨pv, rfl, hp1, hR1, hg1⟩; obtain ⟨oa, cp, hpv⟩ := hp1.slice; subst hpv) | go_in)
    obtain ⟨wr2, hwr2⟩ : ∃ wr2, wr1.alloc (.cells #[.bool m6, .int .u8 (a6 : Int), .int .u8 (b6 : Int), .int .i64 c6, .slice oa l6.length cp, .int .i64 z6] 37) = wr2 := ⟨_, rfl⟩
    obtain ⟨X, hX0⟩ : ∃ X, wr1.heap.size = X := ⟨_, rfl⟩
    have hX : Blk wr2 X 37 #[.bool m6, .int .u8 (a6 : Int), .int .u8 (b6 : Int), .int .i64 c6, .slice oa l6.length cp, .int .i64 z6] := by rw [← hwr2, ← hX0]; exact Blk.new wr1 37 _
    have hl01 : Lies wr1 wr2 := by rw [← hwr2]; exact (Lies.start wr1).alloc (Nat.le_refl _) _
    have hR2 : Blk wr2 g 70 (rdr t q6) := hR1.lies hl01
    have hl2 : Lies w wr2 := by rw [← hwr2]; exact (lies_grown hl.out hg1 (by omega)).alloc (by have := hl.out.size; have := hg1.size; omega) _
    have hgg : wr.grownBy wr2 (some g) := grownBy_trans hg1 (grown_lies hl01 _)
    have hz1 : wr.heap.size ≤ wr1.heap.size := hg1.size
    have hz2 : wr1.heap.size ≤ wr2.heap.size := hl01.size
    have hrow2 : Hid (wr2.ownsRow (g + 1) 37 6 u7 k (cellsOf ps)) := Lib.hid (hrow.out.kept hgg (.inr fun e => by have := hrow.out.lt g e; omega))
    have hps2 : Hid (∀ p ∈ ps, IntsAt wr2 (fun b => g + 1 ≤ b ∧ b < wr.heap.size ∧ u7.ownBlock ≠ some b) p.2 p.1.step.path) := Lib.hid (fun p hp => (hps.out p hp).kept hgg (fun r hr hF => by cases hr; omega))
    have hp2 : IntsAt wr2 (fun b => g + 1 ≤ b ∧ wr.heap.size ≤ b ∧ b < wr1.heap.size ∧ u7.ownBlock ≠ some b) (.slice oa l6.length cp) l6 := (hp1.lies hl01).mono (fun b hb => ⟨by have := hR.out.lt; omega, hb.1, hb.2, fun e => by have := hrow.out.lt b e; omega⟩)
    rw [hwr2]
    try simp only [hX0]
    have Hp2 := Lib.hid hp2
    have HL2 := Lib.hid hl2
    have HZ := Lib.hid (And.intro hz1 hz2)
    clear hwr2 hX0 hl01 hR1 hgg hg1 hrow hps hp1 hp2 hl2 hl hz1 hz2 k5 hR
    by_cases he6 : e6 = 0
    case neg =>
      obtain rfl : r5 = ([], e6, q6) := by rw [← hP2.out, if_neg he6]
      obtain rfl : r = ([], e6) := by rw [← HR3.out]; unfold decE; rw [if_neg he6]
      have d3 : ((e6 : Int) == 0) = false := by simp; omega
      clear HR3 hP2
      go_wp2
      go_ret2
      exact decRet_nil rfl HL2.out
    subst he6
    have hcX := hX.cell
    have hlX := hX.lt
    go_wp2_with (at_builtin; refine wpList_push3 rfl _ _ 22 rfl (g + 1) 37 (.agg zc) 6 56 Tryd.underlying22 Tryd.info37' rfl (by decide) _ _ _ rfl hrow2.out [.bool m6, .int .u8 (a6 : Int), .int .u8 (b6 : Int), .int .i64 c6, .slice oa l6.length cp, .int .i64 z6] rfl rfl (by intro y hy; simp at hy; rcases hy with rfl | rfl | rfl | rfl | rfl | rfl <;> rfl) (by omega) (by omega) (by have := hR2.lt; omega) ?_; intro u1 wr3 hown3 hg3 hnil3 hf3)
    go_roundw
    case measure => simp [intOf]; omega
    case rel =>
      have hub : ∀ b, u7.ownBlock = some b → g + 1 ≤ b := fun b hb => (hrow2.out.lt b hb).1
      have hfar : ∀ b, b < wr2.heap.size → u7.ownBlock ≠ some b → u1.ownBlock ≠ some b := fun b hb hne e => by
        rcases hf3 b e with h | h
        · exact hne h
        · omega
      have hz3 := hg3.size
      have hz := HZ.out
      refine ⟨k + 1, q6, ps ++ [(⟨m6, ⟨a6, b6, c6, l6, z6⟩⟩, .slice oa l6.length cp)], by go_num, by omega, by simp [hac], h5.2, Lib.hid ?_, Lib.hid (hR2.grown hg3 (fun e => by have := hub g e.symm; omega)), Lib.hid (HL2.out.grown hg3 HL2.out.size (fun b e => by have := hub b e; omega)), Lib.hid (fun p hp => ?_), Lib.hid (fun p hp => ?_), Lib.hid (by have := hP2.out; simpa using this)⟩
      · have e : cellsOf (ps ++ [(⟨m6, ⟨a6, b6, c6, l6, z6⟩⟩, .slice oa l6.length cp)]) = cellsOf ps ++ [.bool m6, .int .u8 (a6 : Int), .int .u8 (b6 : Int), .int .i64 c6, .slice oa l6.length cp, .int .i64 z6] := by simp [cellsOf, itemCells, stepCells]
        rw [e]; exact hown3
      · rcases List.mem_append.1 hp with h | h
        · exact hok.out p h
        · obtain rfl := List.mem_singleton.1 h; exact h5.1
      · rcases List.mem_append.1 hp with h | h
        · exact ((hps2.out p h).kept hg3 (fun r hr hF => hF.2.2 hr)).mono (fun b hb => ⟨hb.1, by omega, hfar b (by omega) hb.2.2⟩)
        · obtain rfl := List.mem_singleton.1 h
          exact (Hp2.out.kept hg3 (fun r hr hF => hF.2.2.2 hr)).mono (fun b hb => ⟨hb.1, by omega, hfar b (by omega) hb.2.2.2⟩)
end Go.Proofs.YtbgmjlonbbmffaaDoor
