import Derived.Test.YtakcckdnliiieaaDoorSet11
import Derived.Laws.StructEq
namespace Go.Proofs.YtakcckdnliiieaaDoor
open Go Go.RowKit
attribute [local go_sem] Oper.quietAt Oper.quietUpon
/-- A slice of runs as the loops read it. -/
def RunsAt (w : World) (v : Value) (rs : List (Nat × Nat)) : Prop := (v = .slice none 0 0 ∧ rs = []) ∨ ∃ g cap, v = .slice (some ⟨g, 0, none⟩) rs.length cap ∧ ∀ k (h : k < rs.length), w.cell? ⟨g, k * 2, none⟩ = some (nb rs[k].1) ∧ w.cell? ⟨g, k * 2 + 1, none⟩ = some (nb rs[k].2)
theorem rcells_at : ∀ (rs : List (Nat × Nat)) k (h : k < rs.length), (rcells rs)[k * 2]? = some (nb rs[k].1) ∧ (rcells rs)[k * 2 + 1]? = some (nb rs[k].2)
  | r :: rs, 0, _ => by simp [rcells]
  | r :: rs, k + 1, h => by
    have := rcells_at rs k (by simpa using h)
    have e : rcells (r :: rs) = nb r.1 :: nb r.2 :: rcells rs := rfl
    rw [e, show (k + 1) * 2 = k * 2 + 1 + 1 by omega]
    simpa using this
theorem RunsAt.of {w : World} {b : Nat} {v : Value} {rs : List (Nat × Nat)} (h : w.ownsRow b 36 2 v rs.length (rcells rs)) : RunsAt w v rs := by
  rcases h.2 with ⟨rfl, h0⟩ | ⟨g, cap, cur, rfl, _⟩
  · exact .inl ⟨rfl, List.eq_nil_of_length_eq_zero h0⟩
  · refine .inr ⟨g, cap, rfl, fun k hk => ?_⟩
    have := rcells_at rs k hk
    rw [h.cellAt _ (by omega), h.cellAt _ (by omega)]; exact this
theorem Tryd.eqg36 : Tryd.prog.eqGuardType Tryd.prog.depth 36 = false := by kernel_rfl
theorem Tryd.size5 : (Tryd.prog.info? 5).map (·.size) = some 1 := by kernel_rfl
@[go_sem] theorem Tryd.eq36 (a b c d : Int) (w : World) : (Op.equalIn 10000 36 (.agg #[.int .u8 a, .int .u8 b]) (.agg #[.int .u8 c, .int .u8 d])).run Tryd.prog w = .ok (a == c && b == d) w := by
  obtain ⟨i, hi, hs⟩ : ∃ i, Tryd.prog.info? 5 = some i ∧ i.size = 1 := by
    have := Tryd.size5
    cases h : Tryd.prog.info? 5 with
    | none => rw [h] at this; cases this
    | some i => rw [h] at this; exact ⟨i, rfl, by simpa using this⟩
  have hpart0 : ∀ (x y : Int), (part 5 #[.int .u8 x, .int .u8 y] 0).run Tryd.prog w = .ok (.int .u8 x) w := fun x y => by simp [part, isAgg, run_underlying Tryd.underlying5]
  have hpart1 : ∀ (x y : Int), (part 5 #[.int .u8 x, .int .u8 y] 1).run Tryd.prog w = .ok (.int .u8 y) w := fun x y => by simp [part, isAgg, run_underlying Tryd.underlying5]
  have he0 : ∀ (m : Nat) (x y : Int), (Op.equalIn (m + 1) 5 (.int .u8 x) (.int .u8 y)).run Tryd.prog w = .ok (x == y) w := fun m x y => by simp [Op.equalIn, run_underlying Tryd.underlying5]
  have he := he0 9998
  clear he0
  rw [show (10000 : Nat) = (9998 + 1) + 1 from rfl]
  unfold Op.equalIn
  generalize Op.equalIn (9998 + 1) = E at he
  simp only [Sem.run_bind, run_underlying Tryd.underlying36, Result.andThen_ok, sizeOf, typeInfo, run_program, hi, hs, Sem.run_pure, Std.Legacy.Range.forIn_eq_forIn_range', Std.Legacy.Range.size]
  rw [show (List.range' 0 ((2 - 0 + 1 - 1) / 1) 1) = [0, 1] from rfl]
  by_cases e1 : a = c <;> by_cases e2 : b = d <;> simp [Sem.run_bind, hpart0, hpart1, he, e1, e2]
attribute [go_sem] Tryd.eqg36
theorem cell_lt {w : World} {g i : Nat} {v : Value} (h : w.cell? ⟨g, i, none⟩ = some v) : g < w.heap.size := by
  rcases Nat.lt_or_ge g w.heap.size with h1 | h1
  · exact h1
  · unfold World.cell? at h; simp [Array.getElem?_eq_none h1] at h
set_option maxRecDepth 100000 in
set_option maxHeartbeats 2000000 in
theorem same_any (v1 v2 : Value) (rs1 rs2 : List (Nat × Nat)) (w : World) (h1 : RunsAt w v1 rs1) (h2 : RunsAt w v2 rs2) (hl1 : rs1.length ≤ 256) (hl2 : rs2.length ≤ 256) :
    Calls Tryd.prog 37 #[v1, v2] w (Ret (.bool (decide (rs1 = rs2))) w) := by
  by_cases hl : rs1.length = rs2.length
  case neg =>
    rw [decide_eq_false (fun e => hl (by rw [e]))]
    have hne : ((rs1.length : Int) != (rs2.length : Int)) = true := by rw [bne_iff_ne]; omega
    rcases h1 with ⟨rfl, rfl⟩ | ⟨g1, cap1, rfl, hc1⟩ <;> rcases h2 with ⟨rfl, rfl⟩ | ⟨g2, cap2, rfl, hc2⟩
    · exact absurd rfl hl
    · have hne' : ((0 : Int) != (rs2.length : Int)) = true := hne
      go_enter Tryd.func37, Tryd.ntmps37
      go_wp2
      go_ret
      exact ⟨rfl, Below.refl _ _⟩
    · have hne' : ((rs1.length : Int) != 0) = true := hne
      go_enter Tryd.func37, Tryd.ntmps37
      go_wp2
      go_ret
      exact ⟨rfl, Below.refl _ _⟩
    · go_enter Tryd.func37, Tryd.ntmps37
      go_wp2
      go_ret
      exact ⟨rfl, Below.refl _ _⟩
  case pos =>
  by_cases h0 : rs1.length = 0
  · have hA : rs1 = [] := List.eq_nil_of_length_eq_zero h0
    have hB : rs2 = [] := List.eq_nil_of_length_eq_zero (by omega)
    subst hA hB
    have h1' : ∃ a c, v1 = .slice a 0 c := by rcases h1 with ⟨rfl, _⟩ | ⟨g1, cap1, rfl, _⟩; exact ⟨_, _, rfl⟩; exact ⟨_, _, rfl⟩
    have h2' : ∃ a c, v2 = .slice a 0 c := by rcases h2 with ⟨rfl, _⟩ | ⟨g1, cap1, rfl, _⟩; exact ⟨_, _, rfl⟩; exact ⟨_, _, rfl⟩
    obtain ⟨a1, c1, rfl⟩ := h1'
    obtain ⟨a2, c2, rfl⟩ := h2'
    clear h1 h2
    go_enter Tryd.func37, Tryd.ntmps37
    go_wp2_with fail
    go_loopw [5] (fun i wr => i = .int .i64 0 ∧ wr = w) (fun _ _ => 0)
    case atStart => exact ⟨rfl, rfl⟩
    case round =>
      obtain ⟨rfl, rfl⟩ := hrel
      go_wp2
      go_ret
      exact ⟨rfl, Below.refl _ _⟩
  · rcases h1 with ⟨_, rfl⟩ | ⟨g1, cap1, rfl, hc1⟩
    · exact absurd rfl h0
    rcases h2 with ⟨_, rfl⟩ | ⟨g2, cap2, rfl, hc2⟩
    · exact absurd hl h0
    obtain ⟨n, hn⟩ : ∃ n, n = rs1.length := ⟨_, rfl⟩
    have hn2 : rs2.length = n := by omega
    rw [← hn] at hl1
    rw [← hn, hn2]
    have hH1 := Lib.hid hn
    have hH2 := Lib.hid hn2
    clear hl2 hl h0 hn hn2
    go_enter Tryd.func37, Tryd.ntmps37
    go_wp2_with fail
    go_loopw [5] (fun i wr => ∃ k : Nat, k ≤ n ∧ i = .int .i64 (k : Int) ∧ Below w.heap.size w wr ∧ Hid (rs1.take k = rs2.take k)) (fun i _ => n - (intOf i).toNat)
    case atStart => exact ⟨0, by omega, rfl, Below.refl _ _, Lib.hid (by simp)⟩
    case round =>
      obtain ⟨k, hk, rfl, hb, ht⟩ := hrel
      by_cases hlt : k < n
      · have hk1 : k < rs1.length := by rw [← hH1.out]; exact hlt
        have hk2 : k < rs2.length := by rw [hH2.out]; exact hlt
        obtain ⟨p1, hp1⟩ : ∃ p, p = rs1[k] := ⟨_, rfl⟩
        obtain ⟨p2, hp2⟩ : ∃ p, p = rs2[k] := ⟨_, rfl⟩
        have e1 := hc1 k hk1
        have e2 := hc2 k hk2
        rw [← hp1] at e1
        rw [← hp2] at e2
        have hg1 := cell_lt e1.1
        have hg2 := cell_lt e2.1
        have f1 : wr.cell? ⟨g1, k * 2, none⟩ = some (.int .u8 (p1.1 : Int)) := (hb.cell (p := ⟨g1, k * 2, none⟩) hg1).trans e1.1
        have f2 : wr.cell? ⟨g1, k * 2 + 1, none⟩ = some (.int .u8 (p1.2 : Int)) := (hb.cell (p := ⟨g1, k * 2 + 1, none⟩) hg1).trans e1.2
        have f3 : wr.cell? ⟨g2, k * 2, none⟩ = some (.int .u8 (p2.1 : Int)) := (hb.cell (p := ⟨g2, k * 2, none⟩) hg2).trans e2.1
        have f4 : wr.cell? ⟨g2, k * 2 + 1, none⟩ = some (.int .u8 (p2.2 : Int)) := (hb.cell (p := ⟨g2, k * 2 + 1, none⟩) hg2).trans e2.2
        have hG1 : g1 < wr.heap.size := Nat.lt_of_lt_of_le hg1 hb.size
        have hG2 : g2 < wr.heap.size := Nat.lt_of_lt_of_le hg2 hb.size
        have hP1 := Lib.hid hp1
        have hP2 := Lib.hid hp2
        clear e1 e2 hp1 hp2 hg1 hg2
        go_upto_region 6 with (fail)
        (refine wp_region_quiet_all (C := Lies _) (by kernel_rfl) (by kernel_rfl) (Lies.drew (Lies.start _)) ?_; (repeat (first | (refine quiet_skip rfl ?_; simp only [Act.put, List.setIfInBounds_toArray, List.set_cons_zero, List.set_cons_succ]) | (apply quiet_op _ rfl; (focus (intro w1 hw1; have hc1 := hw1.cells; go_simp; (try go_bits); (try (rw [if_pos (by omega)]; go_simp)); first | rfl)); simp only [Act.put, List.setIfInBounds_toArray, List.set_cons_zero, List.set_cons_succ]))); refine wpQuiet_nil ?_; intro w2 hw2)
        have hb2 : Below w.heap.size w w2 := Lies.below hw2 hb.size hb
        clear f1 f2 f3 f4 hG1 hG2 hw2
        by_cases he : p1 = p2
        · have ht2 : Hid (rs1.take (k + 1) = rs2.take (k + 1)) := Lib.hid (by rw [List.take_succ_eq_append_getElem hk1, List.take_succ_eq_append_getElem hk2, ht.out, ← hP1.out, ← hP2.out, he])
          subst he
          have hd2 : (!(p1.1 : Int) == (p1.1 : Int) || !(p1.2 : Int) == (p1.2 : Int)) = false := by simp
          rw [hd2]
          go_wp2
          go_roundw
          case rel => exact ⟨k + 1, by omega, by go_num, hb2, ht2⟩
          case measure => simp [intOf]; omega
        · have hd2 : (!(p1.1 : Int) == (p2.1 : Int) || !(p1.2 : Int) == (p2.2 : Int)) = true := by
            by_cases e1 : p1.1 = p2.1
            · have e2 : p1.2 ≠ p2.2 := fun e2 => he (Prod.ext e1 e2)
              simp; omega
            · simp; omega
          rw [hd2]
          have hne : rs1 ≠ rs2 := fun e => he (by rw [hP1.out, hP2.out]; simp only [e])
          go_wp2
          go_ret
          exact ⟨by rw [decide_eq_false hne]; rfl, hb2⟩
      · obtain rfl : k = n := by omega
        have hd : decide ((k : Int) < (k : Int)) = false := by simp
        have e : Hid (rs1 = rs2) := Lib.hid <| by
          have := ht.out
          rw [List.take_of_length_le (by rw [← hH1.out]; exact Nat.le_refl _), List.take_of_length_le (by rw [hH2.out]; exact Nat.le_refl _)] at this
          exact this
        go_wp2
        go_ret
        exact ⟨by rw [decide_eq_true e.out]; rfl, hb⟩
end Go.Proofs.YtakcckdnliiieaaDoor
