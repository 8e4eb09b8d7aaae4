/- reader.number walked. -/
import Derived.Test.YtbgmjlonbbmffaaDoorL6
namespace Go.Proofs.YtbgmjlonbbmffaaDoor
open Go Go.RowKit
attribute [local go_sem] Oper.quietAt Oper.quietUpon
theorem and_127 {b : Nat} (hb : b < 256) : bits .and .u8 (b : Int) 127 = ((b % 128 : Nat) : Int) := by
  have key : ∀ x : Nat, x < 256 → bits .and .u8 (x : Int) 127 = ((x % 128 : Nat) : Int) := by decide +kernel
  exact key b hb
theorem acc_lin {n c z : Nat} (hn : n ≤ 2147483647) (hc : c ≤ 127) (hz : z ≤ 34091302912) (x : Int) (hx : x = (z : Int)) : wrap64 ((n : Int) + wrap64 x) = ((n + z : Nat) : Int) := by
  subst hx
  simp only [wrap64]; omega
theorem acc_val {n b m lim : Nat} (hn : n ≤ lim) (hlim : lim ≤ 2147483647) (hb : b < 256) (hm : m ≤ 268435456) :
    wrap64 ((n : Int) + wrap64 (wrap64 (bits .and .u8 (b : Int) 127) * (m : Int))) = ((n + b % 128 * m : Nat) : Int) := by
  rw [and_127 hb]
  have hc : b % 128 ≤ 127 := by omega
  have h2 : b % 128 * m ≤ 34091302912 := Nat.le_trans (Nat.mul_le_mul hc hm) (by decide)
  have e1 : wrap64 ((b % 128 : Nat) : Int) = ((b % 128 : Nat) : Int) := by simp only [wrap64]; omega
  rw [e1, ← Int.natCast_mul]
  exact acc_lin (Nat.le_trans hn hlim) hc h2 _ rfl
theorem mu_lt {a : Act} {k k1 : Int} (h : a.tmps.getD 7 undef = .int .i64 k1) (hk : (29 - k1).toNat < (29 - k).toNat) : mu 1 a < 1 + (29 - k).toNat := by
  simp only [mu, kOf, h]; omega
set_option maxRecDepth 100000 in
set_option maxHeartbeats 1500000 in
theorem number_any {t : ByteArray} {p g lim : Nat} {w : World} (ht : t.size ≤ 1000000000) (hp : p ≤ t.size) (hlim : lim ≤ 2147483647) (hB : Blk w g 70 (rdr t p)) :
    Calls Tryd.prog 32 #[.pointer (some ⟨g, 0, none⟩), .int .i64 (lim : Int)] w fun x w' => x = .returned (.tuple #[.int .i64 ((numP t lim p).1 : Int), .int .i64 ((numP t lim p).2.1 : Int)]) ∧ Blk w' g 70 (rdr t (numP t lim p).2.2) ∧ w.grownBy w' (some g) := by
  obtain ⟨r, hr⟩ : ∃ r, numP t lim p = r := ⟨_, rfl⟩
  rw [hr]
  have HR := Lib.hid hr
  clear hr
  go_enter Tryd.func32, Tryd.ntmps32
  go_wp2
  refine wp_scope_labels (NumAt w t g lim r) (fun l a' _ => mu l a') ?_ ?_
  · rintro l a' w' ⟨nI, eI, u6, u7, ⟨us, rfl⟩, q, hB1, hg1, ⟨rfl, e, rfl, hr⟩ | ⟨rfl, rfl, n, rfl, hn, hq, f, k, hfk, rfl, hr⟩⟩
    · refine ⟨_, rfl, ?_⟩
      unfold numFr
      go_wp2
      simp only [jumps]
      go_ret2
      subst hr
      exact ⟨rfl, hB1, hg1⟩
    · refine ⟨_, rfl, ?_⟩
      have hmu : mu 1 (numFr g lim n 0 u6 (.int .i64 k) us) = 1 + (29 - k).toNat := rfl
      simp only [hmu]
      clear hmu
      unfold numFr
      have hl := hB1.lt
      have c0 : w'.cell? ⟨g, 0, none⟩ = some (.string t) := hB1.cell 0
      have c1 : w'.cell? ⟨g, 1, none⟩ = some (.int .i64 (q : Int)) := hB1.cell 1
      by_cases hqt : t.size ≤ q
      · obtain rfl : q = t.size := by omega
        have hr2 : r = (0, 8, t.size) := by rw [← hr, numG, byteAt_ge (Nat.le_refl _)]
        have H0 := Lib.hid hn
        have H1 := Lib.hid hr2
        clear hB hp hn hfk hq hr hr2
        go_upto_region 3 with (fail)
        (refine wp_region_quiet_all (C := Lies _) (by kernel_rfl) (by kernel_rfl) (Lies.drew (Lies.start _)) ?_; (repeat (first | (refine quiet_skip rfl ?_; simp only [Act.put, List.setIfInBounds_toArray, List.set_cons_zero, List.set_cons_succ]) | (apply quiet_op _ rfl; (focus (intro w1 hw1; have hc1 := hw1.cells; go_simp; (try go_bits); (try (rw [if_pos (by omega)]; go_simp)); first | rfl)); simp only [Act.put, List.setIfInBounds_toArray, List.set_cons_zero, List.set_cons_succ]))); refine wpQuiet_nil ?_; intro w2 hw2)
        go_wp2
        go_step3
        exact ⟨⟨_, _, _, _, numFr_mk .., _, hB1.lies hw2, grownBy_trans hg1 (grown_lies hw2 _), .inl ⟨rfl, 8, rfl, H1.out⟩⟩, by simp only [mu]; omega⟩
      · have hql : q < t.size := by omega
        have hby := byteAt_lt hql
        have hd : decide (q = t.size) = false := decide_eq_false (by omega)
        have H0 := Lib.hid hn
        have H1 := Lib.hid hr
        have H2 := Lib.hid hby
        have H3 := Lib.hid hfk
        clear hB hp hn hfk hq hr hqt hby
        go_upto_region 3 with (fail)
        (refine wp_region_quiet_all (C := Lies _) (by kernel_rfl) (by kernel_rfl) (Lies.drew (Lies.start _)) ?_; (repeat (first | (refine quiet_skip rfl ?_; simp only [Act.put, List.setIfInBounds_toArray, List.set_cons_zero, List.set_cons_succ]) | (apply quiet_op _ rfl; (focus (intro w1 hw1; have hc1 := hw1.cells; go_simp; (try go_bits); (try (rw [if_pos (by omega)]; go_simp)); first | rfl)); simp only [Act.put, List.setIfInBounds_toArray, List.set_cons_zero, List.set_cons_succ]))); refine wpQuiet_nil ?_; intro w2 hw2)
        have hB2 := hB1.lies hw2
        have hg2 := grownBy_trans hg1 (grown_lies hw2 (some g))
        clear c0 c1 hl hB1 hw2 hg1
        have hl := hB2.lt
        have c0 : w2.cell? ⟨g, 0, none⟩ = some (.string t) := hB2.cell 0
        have c1 : w2.cell? ⟨g, 1, none⟩ = some (.int .i64 (q : Int)) := hB2.cell 1
        go_upto_region 5 with (fail)
        (refine wp_region_quiet_all (C := Lies _) (by kernel_rfl) (by kernel_rfl) (Lies.drew (Lies.start _)) ?_; (repeat (first | (refine quiet_skip rfl ?_; simp only [Act.put, List.setIfInBounds_toArray, List.set_cons_zero, List.set_cons_succ]) | (apply quiet_op _ rfl; (focus (intro w1 hw1; have hc1 := hw1.cells; go_simp; (try go_bits); (try (rw [if_pos (by omega)]; go_simp)); first | rfl)); simp only [Act.put, List.setIfInBounds_toArray, List.set_cons_zero, List.set_cons_succ]))); refine wpQuiet_nil ?_; intro w3 hw3)
        have hB3 := hB2.lies hw3
        have hg3 := grownBy_trans hg2 (grown_lies hw3 (some g))
        clear c0 c1 hl hB2 hw3 hg2
        have hl := hB3.lt
        have c1 : w3.cell? ⟨g, 1, none⟩ = some (.int .i64 (q : Int)) := hB3.cell 1
        have f1 := hB3.free 1
        obtain ⟨W3, hW3⟩ : ∃ W3, w3.setCell ⟨g, 1, none⟩ (.int .i64 ((q : Int) + 1)) = W3 := ⟨_, rfl⟩
        have hB4 : Blk W3 g 70 (rdr t (q + 1)) := by
          rw [← hW3]
          have := hB3.set 1 (.int .i64 ((q + 1 : Nat) : Int))
          rwa [show ((q + 1 : Nat) : Int) = (q : Int) + 1 from rfl] at this
        have hg4 : w.grownBy W3 (some g) := by rw [← hW3]; exact grownBy_trans hg3 (grownBy_setCell _ _ _ _)
        go_upto_region 7 with (fail)
        obtain ⟨b, hb⟩ : ∃ b, t[q].toNat = b := ⟨_, rfl⟩
        have hb2 : b < 256 := by rw [← hb]; exact UInt8.toNat_lt _
        rw [hb] at H2
        simp only [hb]
        clear hW3 hB3 hg3 hl c1 f1 hb
        obtain ⟨rfl, rfl⟩ | ⟨rfl, rfl⟩ | ⟨rfl, rfl⟩ | ⟨rfl, rfl⟩ | ⟨rfl, rfl⟩ := H3.out
        · clear H3
          go_upto_region 8 with (fail)
          have e4 : wrap64 ((n : Int) + wrap64 (wrap64 (bits .and .u8 (b : Int) 127))) = ((n + b % 128 * 1 : Nat) : Int) := by have := acc_val (m := 1) H0.out hlim hb2 (by omega); rw [show ((1 : Nat) : Int) = 1 from rfl, Int.mul_one] at this; exact this
          simp only [e4]
          clear e4
          have H4 : Hid (numG t lim 5 n q = if lim < n + b % 128 * 1 ∨ (128 ≤ b ∧ (4 : Nat) = 0) ∨ (b = 0 ∧ 4 < 4) then (0, 4, q + 1) else if 128 ≤ b then numG t lim 4 (n + b % 128 * 1) (q + 1) else (n + b % 128 * 1, 0, q + 1)) := Lib.hid (numG_step H2.out)
          obtain ⟨N, hN⟩ : ∃ N, n + b % 128 * 1 = N := ⟨_, rfl⟩
          have hNb : N ≤ 2147483647 + 127 * 268435456 := by have := H0.out; omega
          simp only [hN] at H4 ⊢
          generalize bits BinOp.and IntKind.u8 (↑b) 127 = bb
          clear hN
          go_wp2
          all_goals first
            | (go_step3; exact ⟨⟨_, _, _, _, numFr_mk .., _, hB4, hg4, .inr ⟨rfl, rfl, N, rfl, by omega, by omega, 3, 7, by omega, rfl, (H4.out.trans (by rw [if_neg (by omega), if_pos (by omega)])).symm.trans H1.out⟩⟩, mu_lt (k1 := 7) rfl (by decide)⟩)
            | (go_step3; exact ⟨⟨_, _, _, _, numFr_mk .., _, hB4, hg4, .inl ⟨rfl, 4, rfl, H1.out.symm.trans (H4.out.trans (if_pos (by first | omega | (simp only [and_true]; omega))))⟩⟩, by simp only [mu]; omega⟩)
            | (simp only [jumps]; go_ret2; have hrr : r = (N, 0, q + 1) := H1.out.symm.trans (H4.out.trans (by rw [if_neg (by first | omega | (simp only [and_true]; omega)), if_neg (by omega)])); subst hrr; exact ⟨rfl, hB4, hg4⟩)
        · clear H3
          go_upto_region 8 with (fail)
          have e4 : wrap64 ((n : Int) + wrap64 (wrap64 (bits .and .u8 (b : Int) 127) * 128)) = ((n + b % 128 * 128 : Nat) : Int) := acc_val (m := 128) H0.out hlim hb2 (by omega)
          simp only [e4]
          clear e4
          have H4 : Hid (numG t lim 4 n q = if lim < n + b % 128 * 128 ∨ (128 ≤ b ∧ (3 : Nat) = 0) ∨ (b = 0 ∧ 3 < 4) then (0, 4, q + 1) else if 128 ≤ b then numG t lim 3 (n + b % 128 * 128) (q + 1) else (n + b % 128 * 128, 0, q + 1)) := Lib.hid (numG_step H2.out)
          obtain ⟨N, hN⟩ : ∃ N, n + b % 128 * 128 = N := ⟨_, rfl⟩
          have hNb : N ≤ 2147483647 + 127 * 268435456 := by have := H0.out; omega
          simp only [hN] at H4 ⊢
          generalize bits BinOp.and IntKind.u8 (↑b) 127 = bb
          clear hN
          go_wp2
          all_goals first
            | (go_step3; exact ⟨⟨_, _, _, _, numFr_mk .., _, hB4, hg4, .inr ⟨rfl, rfl, N, rfl, by omega, by omega, 2, 14, by omega, rfl, (H4.out.trans (by rw [if_neg (by omega), if_pos (by omega)])).symm.trans H1.out⟩⟩, mu_lt (k1 := 14) rfl (by decide)⟩)
            | (go_step3; exact ⟨⟨_, _, _, _, numFr_mk .., _, hB4, hg4, .inl ⟨rfl, 4, rfl, H1.out.symm.trans (H4.out.trans (if_pos (by first | omega | (simp only [and_true]; omega))))⟩⟩, by simp only [mu]; omega⟩)
            | (simp only [jumps]; go_ret2; have hrr : r = (N, 0, q + 1) := H1.out.symm.trans (H4.out.trans (by rw [if_neg (by first | omega | (simp only [and_true]; omega)), if_neg (by omega)])); subst hrr; exact ⟨rfl, hB4, hg4⟩)
        · clear H3
          go_upto_region 8 with (fail)
          have e4 : wrap64 ((n : Int) + wrap64 (wrap64 (bits .and .u8 (b : Int) 127) * 16384)) = ((n + b % 128 * 16384 : Nat) : Int) := acc_val (m := 16384) H0.out hlim hb2 (by omega)
          simp only [e4]
          clear e4
          have H4 : Hid (numG t lim 3 n q = if lim < n + b % 128 * 16384 ∨ (128 ≤ b ∧ (2 : Nat) = 0) ∨ (b = 0 ∧ 2 < 4) then (0, 4, q + 1) else if 128 ≤ b then numG t lim 2 (n + b % 128 * 16384) (q + 1) else (n + b % 128 * 16384, 0, q + 1)) := Lib.hid (numG_step H2.out)
          obtain ⟨N, hN⟩ : ∃ N, n + b % 128 * 16384 = N := ⟨_, rfl⟩
          have hNb : N ≤ 2147483647 + 127 * 268435456 := by have := H0.out; omega
          simp only [hN] at H4 ⊢
          generalize bits BinOp.and IntKind.u8 (↑b) 127 = bb
          clear hN
          go_wp2
          all_goals first
            | (go_step3; exact ⟨⟨_, _, _, _, numFr_mk .., _, hB4, hg4, .inr ⟨rfl, rfl, N, rfl, by omega, by omega, 1, 21, by omega, rfl, (H4.out.trans (by rw [if_neg (by omega), if_pos (by omega)])).symm.trans H1.out⟩⟩, mu_lt (k1 := 21) rfl (by decide)⟩)
            | (go_step3; exact ⟨⟨_, _, _, _, numFr_mk .., _, hB4, hg4, .inl ⟨rfl, 4, rfl, H1.out.symm.trans (H4.out.trans (if_pos (by first | omega | (simp only [and_true]; omega))))⟩⟩, by simp only [mu]; omega⟩)
            | (simp only [jumps]; go_ret2; have hrr : r = (N, 0, q + 1) := H1.out.symm.trans (H4.out.trans (by rw [if_neg (by first | omega | (simp only [and_true]; omega)), if_neg (by omega)])); subst hrr; exact ⟨rfl, hB4, hg4⟩)
        · clear H3
          go_upto_region 8 with (fail)
          have e4 : wrap64 ((n : Int) + wrap64 (wrap64 (bits .and .u8 (b : Int) 127) * 2097152)) = ((n + b % 128 * 2097152 : Nat) : Int) := acc_val (m := 2097152) H0.out hlim hb2 (by omega)
          simp only [e4]
          clear e4
          have H4 : Hid (numG t lim 2 n q = if lim < n + b % 128 * 2097152 ∨ (128 ≤ b ∧ (1 : Nat) = 0) ∨ (b = 0 ∧ 1 < 4) then (0, 4, q + 1) else if 128 ≤ b then numG t lim 1 (n + b % 128 * 2097152) (q + 1) else (n + b % 128 * 2097152, 0, q + 1)) := Lib.hid (numG_step H2.out)
          obtain ⟨N, hN⟩ : ∃ N, n + b % 128 * 2097152 = N := ⟨_, rfl⟩
          have hNb : N ≤ 2147483647 + 127 * 268435456 := by have := H0.out; omega
          simp only [hN] at H4 ⊢
          generalize bits BinOp.and IntKind.u8 (↑b) 127 = bb
          clear hN
          go_wp2
          all_goals first
            | (go_step3; exact ⟨⟨_, _, _, _, numFr_mk .., _, hB4, hg4, .inr ⟨rfl, rfl, N, rfl, by omega, by omega, 0, 28, by omega, rfl, (H4.out.trans (by rw [if_neg (by omega), if_pos (by omega)])).symm.trans H1.out⟩⟩, mu_lt (k1 := 28) rfl (by decide)⟩)
            | (go_step3; exact ⟨⟨_, _, _, _, numFr_mk .., _, hB4, hg4, .inl ⟨rfl, 4, rfl, H1.out.symm.trans (H4.out.trans (if_pos (by first | omega | (simp only [and_true]; omega))))⟩⟩, by simp only [mu]; omega⟩)
            | (simp only [jumps]; go_ret2; have hrr : r = (N, 0, q + 1) := H1.out.symm.trans (H4.out.trans (by rw [if_neg (by first | omega | (simp only [and_true]; omega)), if_neg (by omega)])); subst hrr; exact ⟨rfl, hB4, hg4⟩)
        · clear H3
          go_upto_region 8 with (fail)
          have e4 : wrap64 ((n : Int) + wrap64 (wrap64 (bits .and .u8 (b : Int) 127) * 268435456)) = ((n + b % 128 * 268435456 : Nat) : Int) := acc_val (m := 268435456) H0.out hlim hb2 (by omega)
          simp only [e4]
          clear e4
          have H4 : Hid (numG t lim 1 n q = if lim < n + b % 128 * 268435456 ∨ (128 ≤ b ∧ (0 : Nat) = 0) ∨ (b = 0 ∧ 0 < 4) then (0, 4, q + 1) else if 128 ≤ b then numG t lim 0 (n + b % 128 * 268435456) (q + 1) else (n + b % 128 * 268435456, 0, q + 1)) := Lib.hid (numG_step H2.out)
          obtain ⟨N, hN⟩ : ∃ N, n + b % 128 * 268435456 = N := ⟨_, rfl⟩
          have hNb : N ≤ 2147483647 + 127 * 268435456 := by have := H0.out; omega
          simp only [hN] at H4 ⊢
          generalize bits BinOp.and IntKind.u8 (↑b) 127 = bb
          clear hN
          go_wp2
          all_goals first
            
            | (go_step3; exact ⟨⟨_, _, _, _, numFr_mk .., _, hB4, hg4, .inl ⟨rfl, 4, rfl, H1.out.symm.trans (H4.out.trans (if_pos (by first | omega | (simp only [and_true]; omega))))⟩⟩, by simp only [mu]; omega⟩)
            | (simp only [jumps]; go_ret2; have hrr : r = (N, 0, q + 1) := H1.out.symm.trans (H4.out.trans (by rw [if_neg (by first | omega | (simp only [and_true]; omega)), if_neg (by omega)])); subst hrr; exact ⟨rfl, hB4, hg4⟩)
  · intro H
    go_upto_region 3 with (fail)
    go_step3
    rename_i hK
    refine hK _ _ ?_
    refine H 1 _ _ _ ⟨_, _, _, _, numFr_mk .., p, hB, ⟨rfl, rfl, rfl, Nat.le_refl _, fun _ _ _ => rfl⟩, .inr ⟨rfl, rfl, 0, rfl, by omega, hp, 4, 0, by omega, rfl, HR.out⟩⟩ rfl
end Go.Proofs.YtbgmjlonbbmffaaDoor
