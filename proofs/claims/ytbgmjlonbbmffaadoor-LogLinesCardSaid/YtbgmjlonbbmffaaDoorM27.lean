/- log.Read walked (as L27; one name changed, so that it stands beside L23). -/
import Derived.Test.YtbgmjlonbbmffaaDoorL26
import Derived.Laws.MakeOwn
namespace Go.Proofs.YtbgmjlonbbmffaaDoor
open Go Go.RowKit
attribute [local go_sem] Oper.quietAt Oper.quietUpon Oper.loudAt Oper.loudUpon
theorem Tryd.info9' : (Tryd.prog.info? 9).map (fun i => (i.zero, i.size, i.bytes)) = some (some (.string ByteArray.empty), 1, 16) := by kernel_rfl
theorem row_oneR {W : World} {base : Nat} {e : TypeId} {v : Value} {n : Nat} {xs : List Value} (h : W.ownsRow base e 1 v n xs) (hv : v ≠ .slice none 0 0) : ∃ A cu, v = .slice (some ⟨A, 0, none⟩) n cu := by
  rcases h.2 with ⟨h, _⟩ | ⟨g, cap, cur, h, _⟩
  · exact absurd h hv
  · exact ⟨g, cap, h⟩
theorem blk_cells {W : World} {g : Nat} {t : TypeId} {xs : List Value} (h : Blk W g t xs.toArray) : ∀ j u, xs[j]? = some u → W.cell? ((⟨g, 0, none⟩ : Addr).add j) = some u := fun j u hj => by
  have hadd : (⟨g, 0, none⟩ : Addr).add j = ⟨g, j, none⟩ := by unfold Addr.add; split <;> simp_all
  rw [hadd, h.cell j]
  simpa using hj
/-- An append, as a forced operation: a row of the call's own, elements that lie somewhere. -/
theorem loud_append {P : Program} {w : World} {o : Oper} {a : Act} {R : Value → World → Prop} (s x : Operand) (t : TypeId)
    (ho : o.op = .call { callee := .builtin .append, args := #[s, x], argTypes := #[t, t] })
    (base : Nat) (e : TypeId) (z : Value) (size bytes : Nat) (ht : P.underlying t = some (.slice e)) (hi : (P.info? e).map (fun i => (i.zero, i.size, i.bytes)) = some (some z, size, bytes)) (hzs : z.cells.size = size) (hsz : 0 < size)
    (v : Value) (n : Nat) (xs : List Value) (hs : a.eval s = v) (hown : w.ownsRow base e size v n xs)
    (ad : Addr) (m c : Nat) (news : List Value) (hx : a.eval x = .slice (some ad) m c) (hl : news.length = m * size) (hnews : ∀ j u, news[j]? = some u → w.cell? (ad.add j) = some u) (h1 : ∀ u ∈ news, u.oneCell' = true)
    (h63 : n + m ≤ 9223372036854775807) (hbytes : (n + m) * bytes ≤ 140737488355328) (hbase : base ≤ w.heap.size)
    (h : ∀ v' w', w'.ownsRow base e size v' (n + m) (xs ++ news) → w.grownBy w' v.ownBlock → (v' = .slice none 0 0 ↔ v = .slice none 0 0 ∧ m = 0) → (∀ g', v'.ownBlock = some g' → v.ownBlock = some g' ∨ w.heap.size ≤ g') → R v' w') : Oper.loudAt P o a w R := by
  obtain ⟨i0, hi0, hz0, hz1, hz2⟩ := info_parts hi
  obtain ⟨v', w', hr, h2, h3, h4, h5⟩ := run_append_fresh (P := P) (w := w) base t o.type e i0 z size bytes ht hi0 hz0 hz1 hz2 hzs hsz v n xs hown ad m c news hl hnews h1 (by unfold maxLen; omega) hbytes hbase
  unfold Oper.loudAt execOp
  simp only [ho, resolve, invoke, builtin, Sem.run_bind, Sem.run_pure, Result.andThen_ok, List.map_toArray, List.map_cons, List.map_nil, hs, hx, hr, Oper.loudUpon]
  exact h v' w' h2 h3 h4 h5
theorem Tryd.info3z : (Tryd.prog.info? 3).map (fun i => (i.zero, i.size, i.bytes)) = some (some (.int .i64 0), 1, 8) := by kernel_rfl
theorem mk33 (n : Nat) (hn : n ≤ 100) (w : World) : (Instr.makeSlice 33 (.int .i64 (n : Int)) (.int .i64 (n : Int))).run Tryd.prog w = .ok (.slice (some ⟨w.heap.size, 0, none⟩) n n) (w.alloc (.cells (madeCells #[.int .i64 0] n) 3)) := by
  obtain ⟨i0, hi0, hz0, hz1, hz2⟩ := info_parts Tryd.info3z
  have := run_make (P := Tryd.prog) w 33 3 i0 (.int .i64 0) Tryd.underlying33 hi0 hz0 .i64 .i64 (n : Int) (n : Int) (by omega) (Int.le_refl _) (by rw [hz2]; omega) (by omega)
  rw [Int.toNat_natCast, hz1, Nat.mul_one] at this
  exact this
set_option maxRecDepth 100000 in
set_option maxHeartbeats 1500000 in
theorem read_any {s : ByteArray} {w : World} (hs : s.size ≤ 1000000) (hm : MaxL w) : Calls Tryd.prog 17 #[.string s] w (ReadRet w (readP s.data.toList)) := by
  obtain ⟨r, hr⟩ : ∃ r, readP s.data.toList = r := ⟨_, rfl⟩
  rw [hr]
  unfold readP at hr
  have HR := Lib.hid hr
  clear hr
  obtain ⟨W0, hW0⟩ : ∃ W0, w.alloc (.cells zc 37) = W0 := ⟨_, rfl⟩
  have hT0 : Blk W0 w.heap.size 37 zc := by rw [← hW0]; exact Blk.new w 37 zc
  have hl0 : Lies w W0 := by rw [← hW0]; exact (Lies.start w).alloc (Nat.le_refl _) _
  have hm0 := hm.lies hl0
  unfold zc at hW0
  go_enter Tryd.func17, Tryd.ntmps17
  go_upto_region 1 with (fail)
  clear hW0
  by_cases hmk : s.data.toList = [109, 97, 114, 107]
  · obtain rfl : r = (⟨true, zeroS⟩, 0) := by rw [← HR.out, if_pos hmk]
    have e1 : (s.toList == [109, 97, 114, 107]) = true := by rw [Lib.toList_data, hmk]; rfl
    clear HR hmk
    go_wp2_with (first | (refine wpList_store_blk rfl 37 _ _ rfl w.heap.size 0 rfl (itemV ⟨true, zeroS⟩ (.slice none 0 0)) rfl rfl (item_one _ _ rfl) hT0 (by decide) ?_; intro Wz hTz hgz hzz; have hBz := blk_item hTz; have hcz := hBz.cell) | go_in)
    (try simp only [Exit.inBlock, Exit.then])
    refine ret_cell2 rfl rfl rfl hBz rfl rfl rfl rfl ?_
    exact ⟨_, rfl, ints_nil _ _, below_grown hl0 hgz (Nat.le_refl _) hl0.size⟩
  have e1 : (s.toList == [109, 97, 114, 107]) = false := by rw [Lib.toList_data]; simpa using hmk
  have HR1 : Hid (readC (cut1 s.data.toList).1 (cut2 s.data.toList).1 (cut3 s.data.toList).2.1 (cut3 s.data.toList).1 (cut1 s.data.toList).2.2 (cut2 s.data.toList).2.2 (cut3 s.data.toList).2.2 = r) := Lib.hid (by have := HR.out; rwa [if_neg hmk] at this)
  clear HR hmk
  obtain ⟨P, R1, b1, hP, hR1, hb1, hzP, hzR1, k1⟩ := cut_str s [46] hs hm0
  obtain ⟨Wd, R2, b2, hWd, hR2, hb2, hzW, hzR2, k2⟩ := cut_str R1 [32] (by omega) hm0
  obtain ⟨L, A, b3, hL, hA, hb3, hzL, hzA, k3⟩ := cut_str R2 [32, 64] (by omega) hm0
  have HR2 : Hid (readC P.data.toList Wd.data.toList A.data.toList L.data.toList b1 b2 b3 = r) := Lib.hid (by
    have e1 : cut1 s.data.toList = Lib.cut s.data.toList [46] := rfl
    have e2 : cut2 s.data.toList = Lib.cut R1.data.toList [32] := by unfold cut2; rw [e1, hR1]
    have e3 : cut3 s.data.toList = Lib.cut R2.data.toList [32, 64] := by unfold cut3; rw [e2, hR2]
    rw [hP, hWd, hA, hL, hb1, hb2, hb3, ← e1, ← e2, ← e3]
    exact HR1.out)
  clear HR1 hP hR1 hb1 hWd hR2 hb2 hA hb3
  go_upto_region 6 with (go_at_call 34; (first | (with_reducible refine (Calls.lies (W0 := W0) (by first | exact Lies.start _ | assumption) (k1 _ (by first | exact Lies.start _ | assumption))).mono ?_) | (with_reducible refine (Calls.lies (W0 := W0) (by assumption) (k2 _ (by assumption))).mono ?_) | (with_reducible refine (Calls.lies (W0 := W0) (by assumption) (k3 _ (by assumption))).mono ?_)); rintro e W1 ⟨rfl, hW1⟩)
  have hT1 := hT0.lies hW1
  have hl1 := hl0.tr' hW1
  have hm1 := hm0.lies hW1
  clear k1 k2 k3 hT0 hl0 hm0 hL hW1
  have kc := Tryd.strings_Count_one L 47 W1
  obtain ⟨C, hC⟩ : ∃ C, Lib.countByte L.data.toList 47 = C := ⟨_, rfl⟩
  rw [hC] at kc
  have hC2 : Lib.count L.data.toList [47] = C := by rw [Lib.count_one]; exact hC
  have HC := Lib.hid hC2
  clear hC hC2
  cases b1
  · obtain rfl : r = (zeroI, 4) := by rw [← HR2.out]; unfold readC; rw [if_neg (by simp)]
    clear HR2
    go_wp2_with (first | (refine wpList_store_blk rfl 37 _ _ rfl w.heap.size 0 rfl (itemV zeroI (.slice none 0 0)) rfl rfl (item_one _ _ rfl) hT1 (by decide) ?_; intro Wz hTz hgz hzz; have hBz := blk_item hTz; have hcz := hBz.cell) | (go_at_call 35; refine kc.mono ?_; rintro e W2 ⟨rfl, rfl⟩) | go_in)
    (try simp only [Exit.inBlock, Exit.then])
    refine ret_cell2 rfl rfl rfl hBz rfl rfl rfl rfl ?_
    exact readRet_zero rfl (below_grown hl1 hgz (Nat.le_refl _) hl1.size)
  cases b2
  · obtain rfl : r = (zeroI, 4) := by rw [← HR2.out]; unfold readC; rw [if_neg (by simp)]
    clear HR2
    go_wp2_with (first | (refine wpList_store_blk rfl 37 _ _ rfl w.heap.size 0 rfl (itemV zeroI (.slice none 0 0)) rfl rfl (item_one _ _ rfl) hT1 (by decide) ?_; intro Wz hTz hgz hzz; have hBz := blk_item hTz; have hcz := hBz.cell) | (go_at_call 35; refine kc.mono ?_; rintro e W2 ⟨rfl, rfl⟩) | go_in)
    (try simp only [Exit.inBlock, Exit.then])
    refine ret_cell2 rfl rfl rfl hBz rfl rfl rfl rfl ?_
    exact readRet_zero rfl (below_grown hl1 hgz (Nat.le_refl _) hl1.size)
  cases b3
  · obtain rfl : r = (zeroI, 4) := by rw [← HR2.out]; unfold readC; rw [if_neg (by simp)]
    clear HR2
    go_wp2_with (first | (refine wpList_store_blk rfl 37 _ _ rfl w.heap.size 0 rfl (itemV zeroI (.slice none 0 0)) rfl rfl (item_one _ _ rfl) hT1 (by decide) ?_; intro Wz hTz hgz hzz; have hBz := blk_item hTz; have hcz := hBz.cell) | (go_at_call 35; refine kc.mono ?_; rintro e W2 ⟨rfl, rfl⟩) | go_in)
    (try simp only [Exit.inBlock, Exit.then])
    refine ret_cell2 rfl rfl rfl hBz rfl rfl rfl rfl ?_
    exact readRet_zero rfl (below_grown hl1 hgz (Nat.le_refl _) hl1.size)
  by_cases hC32 : 32 < C
  · obtain rfl : r = (zeroI, 4) := by rw [← HR2.out]; unfold readC; rw [if_neg (by rw [HC.out]; omega)]
    have d1 : decide (32 < (C : Int)) = true := decide_eq_true (by omega)
    clear HR2
    go_wp2_with (first | (refine wpList_store_blk rfl 37 _ _ rfl w.heap.size 0 rfl (itemV zeroI (.slice none 0 0)) rfl rfl (item_one _ _ rfl) hT1 (by decide) ?_; intro Wz hTz hgz hzz; have hBz := blk_item hTz; have hcz := hBz.cell) | (go_at_call 35; refine kc.mono ?_; rintro e W2 ⟨rfl, rfl⟩) | go_in)
    (try simp only [Exit.inBlock, Exit.then])
    refine ret_cell2 rfl rfl rfl hBz rfl rfl rfl rfl ?_
    exact readRet_zero rfl (below_grown hl1 hgz (Nat.le_refl _) hl1.size)
  have d1 : decide (32 < (C : Int)) = false := decide_eq_false (by omega)
  have HR3 : Hid (readN (P.data.toList :: Wd.data.toList :: A.data.toList :: Lib.split L.data.toList [47]) = r) := Lib.hid (by have := HR2.out; unfold readC at this; rwa [if_pos ⟨rfl, rfl, rfl, by rw [HC.out]; omega⟩] at this)
  clear HR2
  go_upto_region 8 with (go_at_call 35; refine kc.mono ?_; rintro e Wq ⟨rfl, hWq⟩; rw [hWq]; clear hWq Wq)
  clear kc
  obtain ⟨W2, hW2⟩ : ∃ W2, W1.alloc (.cells #[.string P, .string Wd, .string A] 9) = W2 := ⟨_, rfl⟩
  have hrow2 : W2.ownsRow W1.heap.size 9 1 (.slice (some ⟨W1.heap.size, 0, none⟩) 3 3) 3 [.string P, .string Wd, .string A] := by
    rw [← hW2]; exact World.ownsRow_lit W1 #[.string P, .string Wd, .string A] 3 (Nat.le_refl _) (by unfold maxLen; omega) rfl
  have hl2 : Lies W1 W2 := by rw [← hW2]; exact (Lies.start W1).alloc (Nat.le_refl _) _
  obtain ⟨m0, hm0⟩ := hm1.lies hl2
  have hcB : Lib.countB L ⟨#[47]⟩ = C := HC.out
  have ks := Tryd.strings_Split L ⟨#[47]⟩ m0 W2 (by omega) hm0 (by decide)
  rw [hcB] at ks
  have hpn : (Lib.splitB ⟨#[47]⟩ 0 C L).length = C + 1 := Lib.splitB_all ⟨#[47]⟩ (by decide) 0 C L hcB
  have hps := splitB_size ⟨#[47]⟩ C L
  have hpd : (Lib.splitB ⟨#[47]⟩ 0 C L).map (·.data.toList) = Lib.split L.data.toList [47] := by
    rw [Lib.splitB_data]; unfold Lib.split; rw [HC.out]
  obtain ⟨parts, hparts⟩ : ∃ parts, Lib.splitB ⟨#[47]⟩ 0 C L = parts := ⟨_, rfl⟩
  rw [hparts] at ks hpn hpd hps
  rw [← hpd] at HR3
  have HPN := Lib.hid hpn
  clear hparts hpd hcB HC hm0 hm1
  have HP1 : Hid (∀ y ∈ parts.map Value.string, y.oneCell' = true) := Lib.hid (by intro y hy; obtain ⟨z, _, rfl⟩ := List.mem_map.1 hy; rfl)
  have HPL : Hid ((parts.map Value.string).length = (C + 1) * 1) := Lib.hid (by rw [List.length_map, hpn]; omega)
  clear hpn
  go_upto_region 9 with (first | (go_at_call 36; refine ks.mono ?_; rintro e W3 ⟨rfl, hW3⟩; have hB3 : Blk W3 W2.heap.size 9 (parts.map Value.string).toArray := (by rw [hW3]; exact Blk.new W2 9 _); have hl3 : Lies W2 W3 := (by rw [hW3]; exact (Lies.start W2).alloc (Nat.le_refl _) _); clear hW3) | (at_builtin; refine wpList_append_fresh rfl _ _ 49 rfl W1.heap.size 9 (.string ByteArray.empty) 1 16 Tryd.underlying49 Tryd.info9' rfl (by decide) _ _ _ rfl (ownsRow_lies hrow2 hl3) ⟨W2.heap.size, 0, none⟩ (C + 1) (C + 1) (parts.map Value.string) rfl HPL.out (blk_cells hB3) HP1.out (by omega) (by omega) (Nat.le_trans hl2.size hl3.size) ?_; intro v4 W4 hrow4 hg4' hnil4 hf4; have hg4 : W3.grownBy W4 (some W1.heap.size) := hg4'; clear hg4'))
  have hl4 : Lies W1 W4 := below_grown (hl2.tr' hl3) hg4 (Nat.le_refl _) (Nat.le_trans hl2.size hl3.size)
  obtain ⟨n, hn⟩ : ∃ n, n = 3 + (C + 1) := ⟨_, rfl⟩
  have hv4 : v4 ≠ .slice none 0 0 := fun e => by have := hnil4.1 e; simp at this
  rw [← hn] at hrow4
  obtain ⟨G, cu, hv4'⟩ := row_oneR hrow4 hv4
  subst hv4'
  have hn4 : 4 ≤ n ∧ n ≤ 36 := by omega
  obtain ⟨ws, hws⟩ : ∃ ws : List ByteArray, ws = P :: Wd :: A :: parts := ⟨_, rfl⟩
  have hwl : ws.length = n := by rw [hws, hn]; simp [HPN.out]; omega
  have hrow : W4.ownsRow W1.heap.size 9 1 (.slice (some ⟨G, 0, none⟩) n cu) n (ws.map Value.string) := by rw [hws]; exact hrow4
  have HR4 : Hid (readN (ws.map (·.data.toList)) = r) := Lib.hid (by rw [hws]; exact HR3)
  have HWL := Lib.hid hwl
  have hwz : ∀ x ∈ ws, x.size ≤ 1000000000 := by
    intro x hx
    rw [hws] at hx
    simp only [List.mem_cons] at hx
    rcases hx with rfl | rfl | rfl | hx
    · omega
    · omega
    · omega
    · have := hps x hx; omega
  have hT4 := hT1.lies hl4
  have hlw4 := hl1.tr' hl4
  have hTG : w.heap.size < G := by have := (hrow.lt G rfl).1; have := hT1.lt; omega
  clear HR3 hws hrow4 hnil4 hf4 hg4 hv4 ks hB3 hl3 hrow2 hl2 HP1 HPL HPN hW2 hwl hn hT1 hl4 hl1
  have hmk := mk33 n (by omega) W4
  obtain ⟨W5, hW5⟩ : ∃ W5, W4.alloc (.cells (madeCells #[.int .i64 0] n) 3) = W5 := ⟨_, rfl⟩
  obtain ⟨N, hN0⟩ : ∃ N, W4.heap.size = N := ⟨_, rfl⟩
  have hN5 : Blk W5 N 3 (madeCells #[.int .i64 0] n) := by rw [← hW5, ← hN0]; exact Blk.new W4 3 _
  have hl45 : Lies W4 W5 := by rw [← hW5]; exact (Lies.start W4).alloc (Nat.le_refl _) _
  rw [hW5, hN0] at hmk
  have hrow5 := ownsRow_lies hrow hl45
  have hT5 := hT4.lies hl45
  have hl5 := hlw4.tr' hl45
  have hGN : G < N := by rw [← hN0]; exact (hrow.lt G rfl).2
  clear hW5 hN0 hrow hT4 hlw4 hl45
  go_upto_region 10 with (fail)
  clear hmk
  have hcz : (madeCells #[.int .i64 0] n).size = n := size_madeCells _ _
  go_wp2_with fail
  go_loopw [68] (fun j wr => ∃ (k : Nat) (ns : List Nat) (cs : Array Value), j = .int .i64 (k : Int) ∧ k ≤ n ∧ ns.length = k ∧ cs.size = n ∧ Hid (numsG 0 (ws.map (·.data.toList)) = (numsG k ((ws.map (·.data.toList)).drop k)).map (ns ++ ·)) ∧ Hid (∀ (i y : Nat), ns[i]? = some y → cs[i]? = some (Value.int .i64 (y : Int))) ∧ Hid (Blk wr N 3 cs) ∧ Hid (W5.grownBy wr (some N))) (fun j _ => n - (intOf j).toNat)
  case atStart => exact ⟨0, [], _, rfl, Nat.zero_le _, rfl, hcz, Lib.hid (by simp), Lib.hid (by simp), Lib.hid hN5, Lib.hid (World.grownBy.refl _ _)⟩
  case round =>
    clear hN5 hcz
    obtain ⟨k, ns, cs, rfl, hk, hnl, hcz, hst, hcs, hN, hg⟩ := hrel
    have hrow := hrow5.kept hg.out (.inr (by simp [Value.ownBlock]; omega))
    have hT := hT5.grown hg.out (by simp; omega)
    have hl : Lies w wr := below_grown hl5 hg.out (by omega) hl5.size
    by_cases hlt : k < n
    case neg =>
      obtain rfl : k = n := by omega
      have d2 : decide (k < k) = false := decide_eq_false hlt
      have hsome : numsG 0 (ws.map (·.data.toList)) = some ns := by
        rw [hst.out, List.drop_of_length_le (by rw [List.length_map, HWL.out]; exact Nat.le_refl _)]
        simp [numsG]
      have hle := numsG_le 0 _ ns hsome
      have hr5 : readE ns = r := by rw [← HR4.out]; unfold readN; rw [hsome]
      obtain ⟨n0, n1, n2, n3, rest, rfl⟩ : ∃ n0 n1 n2 n3 rest, ns = n0 :: n1 :: n2 :: n3 :: rest := by
        match ns, hnl with
        | a :: b :: c :: d :: e, _ => exact ⟨a, b, c, d, e, rfl⟩
        | [], h => simp at h; omega
        | [_], h => simp at h; omega
        | [_, _], h => simp at h; omega
        | [_, _, _], h => simp at h; omega
      have HR5 := Lib.hid hr5
      have b0 := (hle 0 n0 rfl).2 (by omega)
      have b1 := (hle 1 n1 rfl).2 (by omega)
      have c0 : wr.cell? ⟨N, 0, none⟩ = some (.int .i64 (n0 : Int)) := by rw [hN.out.cell]; exact hcs.out 0 n0 rfl
      have c1 : wr.cell? ⟨N, 1, none⟩ = some (.int .i64 (n1 : Int)) := by rw [hN.out.cell]; exact hcs.out 1 n1 rfl
      have c2 : wr.cell? ⟨N, 2, none⟩ = some (.int .i64 (n2 : Int)) := by rw [hN.out.cell]; exact hcs.out 2 n2 rfl
      have c3 : wr.cell? ⟨N, 3, none⟩ = some (.int .i64 (n3 : Int)) := by rw [hN.out.cell]; exact hcs.out 3 n3 rfl
      have hlN := hN.out.lt
      have m0 : (n0 : Int) % 256 = (n0 : Int) := by omega
      have m1 : (n1 : Int) % 256 = (n1 : Int) := by omega
      have HCS := Lib.hid (fun i y (h : rest[i]? = some y) => hcs.out (i + 4) y (by simpa using h))
      have hrl : rest.length = k - 4 := by simp at hnl; omega
      clear HR4 hst hcs hr5 hsome hle hnl hrow hrow5 hT5 hl5 HWL hwz
      have q0 : decide ((0 : Int) < (k : Int)) = true := decide_eq_true (by omega)
      have q1 : decide ((1 : Int) < (k : Int)) = true := decide_eq_true (by omega)
      have q2 : decide ((2 : Int) < (k : Int)) = true := decide_eq_true (by omega)
      have q3 : decide ((3 : Int) < (k : Int)) = true := decide_eq_true (by omega)
      go_upto_region 18 with (fail)
      (refine wp_region_lay_tail (id := 18) (I := Lies wr) [(true, 0), (true, 1), (true, 2), (true, 3), (true, 4), (true, 5), (true, 6), (true, 7), (true, 8), (true, 9), (true, 10), (true, 11), (true, 12), (true, 13), (true, 14), (true, 15), (false, 16)] 17 (by kernel_rfl) (by kernel_rfl) (Lies.start wr).drew ?_; simp only [layOps, List.filterMap_cons, List.filterMap_nil, List.getElem?_cons_succ, List.getElem?_cons_zero, Option.map_some, List.append_eq, List.cons_append, List.nil_append, List.drop_succ_cons, List.drop_zero]; (repeat (first | (have hX_ : True := trivial; (first | refine i_skip ?_ ?_ | refine i_skip2 ?_ ?_); (focus exact wanted_no rfl rfl rfl); clear hX_; simp only [Act.put, List.setIfInBounds_toArray, List.set_cons_zero, List.set_cons_succ]) | (apply i_free _ rfl; (focus (intro C1 hs1 w1 hw0; have hw1 := hs1 _ hw0; have hc1 := hw1.cells; go_simp; (try go_bits); (try (rw [if_pos (by omega)]; go_simp)); first | rfl)); simp only [Act.put, List.setIfInBounds_toArray, List.set_cons_zero, List.set_cons_succ]) | (refine i_loud rfl ?_; intro K hK; go_simp; refine ⟨(Lies.start wr).drew.alloc (Nat.le_refl _) _, ?_⟩; (try simp only [Act.put, List.setIfInBounds_toArray, List.set_cons_zero, List.set_cons_succ]); apply hK))); refine i_nil ?_)
      obtain ⟨W6, hW6⟩ : ∃ W6, (wr.alloc (.cells zc 37)).drew = W6 := ⟨_, rfl⟩
      obtain ⟨X, hX0⟩ : ∃ X, wr.heap.size = X := ⟨_, rfl⟩
      have hX6 : Blk W6 X 37 zc := by rw [← hW6, ← hX0]; exact (Blk.new wr 37 zc).drew
      have hl6 : Lies wr W6 := by rw [← hW6]; exact ((Lies.start wr).alloc (Nat.le_refl _) _).drew
      have hNX : N < X := by rw [← hX0]; exact hN.out.lt
      have hwX : w.heap.size < X := by rw [← hX0]; exact hT.lt
      unfold zc at hW6
      rw [hW6]
      try simp only [hX0]
      clear hW6 hX0 c0 c1 c2 c3 hlN m0 m1 q0 q1 q2 q3
      go_upto_region 19 with (first | (refine wpList_store_blk rfl 37 _ _ rfl X 0 rfl (itemV ⟨false, ⟨n0, n1, n3, [], n2⟩⟩ (.slice none 0 0)) rfl rfl (item_one _ _ rfl) hX6 (Nat.le_of_eq rfl) ?_; intro W7 hX7' hg7 hz7; have hX7 := blk_item hX7') | go_in)
      have hN7 := (hN.out.lies hl6).grown hg7 (by simp; omega)
      have hT7 := (hT.lies hl6).grown hg7 (by simp; omega)
      have hl7 : Lies w W7 := below_grown (hl.tr' hl6) hg7 (by omega) (hl.tr' hl6).size
      clear hX6 hX7' hg7 hz7 hl6 hT hl hg hN
      have cX := hX7.cell
      have hlX := hX7.lt
      have hlN := hN7.lt
      have q4 : decide ((4 : Int) ≤ (k : Int)) = true := decide_eq_true (by omega)
      by_cases hk4 : k = 4
      · obtain rfl : rest = [] := List.eq_nil_of_length_eq_zero (by omega)
        have HNL : Hid (([] : List Value).length = 0 * 1) := Lib.hid rfl
        have HNW : Hid (∀ j u, ([] : List Value)[j]? = some u → W7.drew.cell? ((⟨N, 0, none⟩ : Addr).add j) = some u) := Lib.hid (by simp)
        have HN1 : Hid (∀ u ∈ ([] : List Value), u.oneCell' = true) := Lib.hid (by simp)
        have HROW : Hid (∀ (W : World) (v : Value), W.ownsRow W7.heap.size 3 1 v (0 + 0) ([] ++ []) → W.ownsRow W7.heap.size 3 1 v ([] : List Nat).length ((([] : List Nat).map Int.ofNat).map (Value.int .i64))) := Lib.hid (fun W v h => h)
        (refine wp_region_lay_tail (id := 19) (I := Lies W7) [(true, 0), (true, 1), (true, 2), (true, 3), (true, 4), (false, 5)] 6 (by kernel_rfl) (by kernel_rfl) (Lies.start W7).drew ?_; simp only [layOps, List.filterMap_cons, List.filterMap_nil, List.getElem?_cons_succ, List.getElem?_cons_zero, Option.map_some, List.append_eq, List.cons_append, List.nil_append, List.drop_succ_cons, List.drop_zero]; (repeat (first | (have hX_ : True := trivial; (first | refine i_skip ?_ ?_ | refine i_skip2 ?_ ?_); (focus exact wanted_no rfl rfl rfl); clear hX_; simp only [Act.put, List.setIfInBounds_toArray, List.set_cons_zero, List.set_cons_succ]) | (apply i_free _ rfl; (focus (intro C1 hs1 w1 hw0; have hw1 := hs1 _ hw0; have hc1 := hw1.cells; go_simp; (try go_bits); (try (rw [if_pos (by omega)]; go_simp)); first | rfl)); simp only [Act.put, List.setIfInBounds_toArray, List.set_cons_zero, List.set_cons_succ]) | (refine i_loud rfl ?_; intro K hK; refine loud_append (.tmp 112) (.tmp 114) 33 rfl W7.heap.size 3 (.int .i64 0) 1 8 Tryd.underlying33 Tryd.info3z rfl (by decide) (.slice none 0 0) 0 [] rfl (World.ownsRow_nil _ _ _ _) ⟨N, 0, none⟩ 0 0 [] rfl HNL.out HNW.out HN1.out (by omega) (by omega) (Nat.le_refl _) ?_; intro v8 W8 hrow8 hg8' hnil8 hf8; have hg8 : W7.drew.grownBy W8 none := hg8'; have hl8 : Lies W7 W8 := (Lies.start W7).drew.tr' ⟨hg8.os, hg8.tape, hg8.output, hg8.size, fun b hb => hg8.block b hb (by simp)⟩; obtain ⟨o8, m8, p8, hv8⟩ := row_slice hrow8; subst hv8; refine ⟨hl8, ?_⟩; (try simp only [Act.put, List.setIfInBounds_toArray, List.set_cons_zero, List.set_cons_succ]); apply hK))); refine i_nil ?_)
        have hX8 := hX7.lies hl8
        have hT8 := hT7.lies hl8
        have hr8 : W8.ownsRow W7.heap.size 3 1 (.slice o8 m8 p8) ([] : List Nat).length ((([] : List Nat).map Int.ofNat).map (Value.int .i64)) := HROW.out W8 _ hrow8
        clear cX hlX hlN hN7 hrow8 hg8 hg8' hnil8 hf8 HNL HNW HN1 HROW
        have cX := hX8.cell
        have hlX := hX8.lt
        have hfX := hX8.free
        go_upto_region 20 with (fail)
        obtain ⟨W9, hW9⟩ : ∃ W9, W8.setCell ⟨X, 4, none⟩ (.slice o8 m8 p8) = W9 := ⟨_, rfl⟩
        have hg9 : W8.grownBy W9 (some X) := by rw [← hW9]; exact grownBy_setCell _ _ _ _
        have hX9 : Blk W9 X 37 #[.bool false, .int .u8 (n0 : Int), .int .u8 (n1 : Int), .int .i64 (n3 : Int), .slice o8 m8 p8, .int .i64 (n2 : Int)] := by rw [← hW9]; exact hX8.set 4 _
        have hT9 := hT8.grown hg9 (by simp; omega)
        have hr9 := hr8.kept hg9 (.inr fun e => by have := (hr8.lt X e).1; have := hX7.lt; omega)
        have hI9 := ints_of_row' hr9 (by rw [List.length_map]) (by rw [List.length_map]; first | omega | simp)
        have hlw9 : Lies w W9 := below_grown (hl7.tr' hl8) hg9 (by omega) (hl7.tr' hl8).size
        have hFF : ∀ b, (Value.slice o8 m8 p8).ownBlock = some b → w.heap.size ≤ b ∧ b < W9.heap.size := fun b hb => by have := hr9.lt b hb; have := hl7.size; omega
        have hTX : ∀ b, (Value.slice o8 m8 p8).ownBlock = some b → w.heap.size < b := fun b hb => by have := (hr9.lt b hb).1; have := hX7.lt; omega
        rw [hW9]
        clear hW9 cX hlX hfX hX8 hT8 hr8 hg9 hr9 hl8 hX7 hT7 hl7
        have cX := hX9.cell
        have hlX := hX9.lt
        have kmay := may_any (x := numI (n0 :: n1 :: n2 :: n3 :: ([] : List Nat))) hI9
        have hr6 : (if mayB (numI (n0 :: n1 :: n2 :: n3 :: ([] : List Nat))) then (numI (n0 :: n1 :: n2 :: n3 :: ([] : List Nat)), 0) else (zeroI, 4)) = r := HR5.out
        obtain ⟨x, hx⟩ : ∃ x, numI (n0 :: n1 :: n2 :: n3 :: ([] : List Nat)) = x := ⟨_, rfl⟩
        rw [hx] at kmay hr6
        have hxm : x = ⟨false, ⟨n0, n1, n3, ([] : List Nat).map Int.ofNat, n2⟩⟩ := hx.symm
        clear hx HR5
        subst hxm
        simp only at kmay
        have HI9 := Lib.hid hI9
        have HFF := Lib.hid hFF
        have HTX : Hid (∀ b, (Value.slice o8 m8 p8).ownBlock = some b → w.heap.size < b) := Lib.hid hTX
        clear hI9 hFF hTX
        cases hmb : mayB ⟨false, ⟨n0, n1, (n3 : Int), ([] : List Nat).map Int.ofNat, (n2 : Int)⟩⟩
        · rw [hmb] at kmay hr6
          obtain rfl : r = (zeroI, 4) := hr6.symm
          clear hmb hr6
          go_upto_if 120 with (go_at_call 15; refine kmay.mono ?_; rintro e Wm ⟨rfl, hlm⟩)
          have hT := hT9.lies hlm
          have hl := hlw9.tr' hlm
          clear cX hlX hT9 hlw9 hX9 kmay hlm
          go_wp2_with (first | (refine wpList_store_blk rfl 37 _ _ rfl w.heap.size 0 rfl (itemV zeroI (.slice none 0 0)) rfl rfl (item_one _ _ rfl) hT (by decide) ?_; intro Wz hTz hgz hzz; have hBz := blk_item hTz; have hcz := hBz.cell) | go_in)
          (try simp only [Exit.inBlock, Exit.then])
          refine ret_cell2 rfl rfl rfl hBz rfl rfl rfl rfl ?_
          exact readRet_zero rfl (below_grown hl hgz (Nat.le_refl _) hl.size)
        · rw [hmb] at kmay hr6
          obtain rfl : r = (⟨false, ⟨n0, n1, (n3 : Int), ([] : List Nat).map Int.ofNat, (n2 : Int)⟩⟩, 0) := hr6.symm
          clear hmb hr6
          go_upto_region 22 with (go_at_call 15; refine kmay.mono ?_; rintro e Wm ⟨rfl, hlm⟩)
          have hT := hT9.lies hlm
          have hX := hX9.lies hlm
          have hl := hlw9.tr' hlm
          clear cX hlX hT9 hX9 kmay
          have cX := hX.cell
          have hlX := hX.lt
          go_wp2_with (first | (refine wpList_store_blk rfl 37 _ _ rfl w.heap.size 0 rfl (itemV ⟨false, ⟨n0, n1, (n3 : Int), ([] : List Nat).map Int.ofNat, (n2 : Int)⟩⟩ (.slice o8 m8 p8)) rfl rfl (item_one _ _ rfl) hT (Nat.le_of_eq rfl) ?_; intro Wz hTz hgz hzz; have hBz := blk_item hTz; have hcz := hBz.cell) | go_in)
          (try simp only [Exit.inBlock, Exit.then])
          refine ret_cell2 rfl rfl rfl hBz rfl rfl rfl rfl ?_
          have hzm := hlm.size
          have hzz2 := hgz.size
          exact ⟨_, rfl, ((HI9.out.lies hlm).kept hgz (fun b e hF => by injection e with e; subst e; have := (HTX.out _ hF); omega)).mono (fun b hb => by have := HFF.out b hb; omega), below_grown hl hgz (Nat.le_refl _) hl.size⟩
      · have HNL : Hid ((rest.map fun (y : Nat) => Value.int .i64 (y : Int)).length = (k - 4) * 1) := Lib.hid (by simp; omega)
        have HNW : Hid (∀ j u, (rest.map fun (y : Nat) => Value.int .i64 (y : Int))[j]? = some u → W7.drew.cell? ((⟨N, 4, none⟩ : Addr).add j) = some u) := Lib.hid (fun j u hj => by
          have hadd : (⟨N, 4, none⟩ : Addr).add j = ⟨N, 4 + j, none⟩ := by unfold Addr.add; split <;> simp_all
          rw [List.getElem?_map] at hj
          obtain ⟨y, hy, rfl⟩ := Option.map_eq_some_iff.1 hj
          rw [hadd, hN7.drew.cell, Nat.add_comm]
          exact HCS.out j y hy)
        have HN1 : Hid (∀ u ∈ (rest.map fun (y : Nat) => Value.int .i64 (y : Int)), u.oneCell' = true) := Lib.hid (by intro u hu; obtain ⟨y, _, rfl⟩ := List.mem_map.1 hu; rfl)
        have HROW : Hid (∀ (W : World) (v : Value), W.ownsRow W7.heap.size 3 1 v (0 + (k - 4)) ([] ++ (rest.map fun (y : Nat) => Value.int .i64 (y : Int))) → W.ownsRow W7.heap.size 3 1 v rest.length ((rest.map Int.ofNat).map (Value.int .i64))) := Lib.hid (fun W v h => by
          rw [hrl, List.map_map]
          rw [Nat.zero_add] at h
          exact h)
        (refine wp_region_lay_tail (id := 19) (I := Lies W7) [(true, 0), (true, 1), (true, 2), (true, 3), (true, 4), (false, 5)] 6 (by kernel_rfl) (by kernel_rfl) (Lies.start W7).drew ?_; simp only [layOps, List.filterMap_cons, List.filterMap_nil, List.getElem?_cons_succ, List.getElem?_cons_zero, Option.map_some, List.append_eq, List.cons_append, List.nil_append, List.drop_succ_cons, List.drop_zero]; (repeat (first | (have hX_ : True := trivial; (first | refine i_skip ?_ ?_ | refine i_skip2 ?_ ?_); (focus exact wanted_no rfl rfl rfl); clear hX_; simp only [Act.put, List.setIfInBounds_toArray, List.set_cons_zero, List.set_cons_succ]) | (apply i_free _ rfl; (focus (intro C1 hs1 w1 hw0; have hw1 := hs1 _ hw0; have hc1 := hw1.cells; go_simp; (try go_bits); (try (rw [if_pos (by omega)]; go_simp)); first | rfl)); simp only [Act.put, List.setIfInBounds_toArray, List.set_cons_zero, List.set_cons_succ]) | (refine i_loud rfl ?_; intro K hK; refine loud_append (.tmp 112) (.tmp 114) 33 rfl W7.heap.size 3 (.int .i64 0) 1 8 Tryd.underlying33 Tryd.info3z rfl (by decide) (.slice none 0 0) 0 [] rfl (World.ownsRow_nil _ _ _ _) ⟨N, 4, none⟩ (k - 4) (k - 4) (rest.map fun (y : Nat) => Value.int .i64 (y : Int)) rfl HNL.out HNW.out HN1.out (by omega) (by omega) (Nat.le_refl _) ?_; intro v8 W8 hrow8 hg8' hnil8 hf8; have hg8 : W7.drew.grownBy W8 none := hg8'; have hl8 : Lies W7 W8 := (Lies.start W7).drew.tr' ⟨hg8.os, hg8.tape, hg8.output, hg8.size, fun b hb => hg8.block b hb (by simp)⟩; obtain ⟨o8, m8, p8, hv8⟩ := row_slice hrow8; subst hv8; refine ⟨hl8, ?_⟩; (try simp only [Act.put, List.setIfInBounds_toArray, List.set_cons_zero, List.set_cons_succ]); apply hK))); refine i_nil ?_)
        have hX8 := hX7.lies hl8
        have hT8 := hT7.lies hl8
        have hr8 : W8.ownsRow W7.heap.size 3 1 (.slice o8 m8 p8) rest.length ((rest.map Int.ofNat).map (Value.int .i64)) := HROW.out W8 _ hrow8
        clear cX hlX hlN hN7 hrow8 hg8 hg8' hnil8 hf8 HNL HNW HN1 HROW
        have cX := hX8.cell
        have hlX := hX8.lt
        have hfX := hX8.free
        go_upto_region 20 with (fail)
        obtain ⟨W9, hW9⟩ : ∃ W9, W8.setCell ⟨X, 4, none⟩ (.slice o8 m8 p8) = W9 := ⟨_, rfl⟩
        have hg9 : W8.grownBy W9 (some X) := by rw [← hW9]; exact grownBy_setCell _ _ _ _
        have hX9 : Blk W9 X 37 #[.bool false, .int .u8 (n0 : Int), .int .u8 (n1 : Int), .int .i64 (n3 : Int), .slice o8 m8 p8, .int .i64 (n2 : Int)] := by rw [← hW9]; exact hX8.set 4 _
        have hT9 := hT8.grown hg9 (by simp; omega)
        have hr9 := hr8.kept hg9 (.inr fun e => by have := (hr8.lt X e).1; have := hX7.lt; omega)
        have hI9 := ints_of_row' hr9 (by rw [List.length_map]) (by rw [List.length_map]; first | omega | simp)
        have hlw9 : Lies w W9 := below_grown (hl7.tr' hl8) hg9 (by omega) (hl7.tr' hl8).size
        have hFF : ∀ b, (Value.slice o8 m8 p8).ownBlock = some b → w.heap.size ≤ b ∧ b < W9.heap.size := fun b hb => by have := hr9.lt b hb; have := hl7.size; omega
        have hTX : ∀ b, (Value.slice o8 m8 p8).ownBlock = some b → w.heap.size < b := fun b hb => by have := (hr9.lt b hb).1; have := hX7.lt; omega
        rw [hW9]
        clear hW9 cX hlX hfX hX8 hT8 hr8 hg9 hr9 hl8 hX7 hT7 hl7
        have cX := hX9.cell
        have hlX := hX9.lt
        have kmay := may_any (x := numI (n0 :: n1 :: n2 :: n3 :: rest)) hI9
        have hr6 : (if mayB (numI (n0 :: n1 :: n2 :: n3 :: rest)) then (numI (n0 :: n1 :: n2 :: n3 :: rest), 0) else (zeroI, 4)) = r := HR5.out
        obtain ⟨x, hx⟩ : ∃ x, numI (n0 :: n1 :: n2 :: n3 :: rest) = x := ⟨_, rfl⟩
        rw [hx] at kmay hr6
        have hxm : x = ⟨false, ⟨n0, n1, n3, rest.map Int.ofNat, n2⟩⟩ := hx.symm
        clear hx HR5
        subst hxm
        simp only at kmay
        have HI9 := Lib.hid hI9
        have HFF := Lib.hid hFF
        have HTX : Hid (∀ b, (Value.slice o8 m8 p8).ownBlock = some b → w.heap.size < b) := Lib.hid hTX
        clear hI9 hFF hTX
        cases hmb : mayB ⟨false, ⟨n0, n1, (n3 : Int), rest.map Int.ofNat, (n2 : Int)⟩⟩
        · rw [hmb] at kmay hr6
          obtain rfl : r = (zeroI, 4) := hr6.symm
          clear hmb hr6
          go_upto_if 120 with (go_at_call 15; refine kmay.mono ?_; rintro e Wm ⟨rfl, hlm⟩)
          have hT := hT9.lies hlm
          have hl := hlw9.tr' hlm
          clear cX hlX hT9 hlw9 hX9 kmay hlm
          go_wp2_with (first | (refine wpList_store_blk rfl 37 _ _ rfl w.heap.size 0 rfl (itemV zeroI (.slice none 0 0)) rfl rfl (item_one _ _ rfl) hT (by decide) ?_; intro Wz hTz hgz hzz; have hBz := blk_item hTz; have hcz := hBz.cell) | go_in)
          (try simp only [Exit.inBlock, Exit.then])
          refine ret_cell2 rfl rfl rfl hBz rfl rfl rfl rfl ?_
          exact readRet_zero rfl (below_grown hl hgz (Nat.le_refl _) hl.size)
        · rw [hmb] at kmay hr6
          obtain rfl : r = (⟨false, ⟨n0, n1, (n3 : Int), rest.map Int.ofNat, (n2 : Int)⟩⟩, 0) := hr6.symm
          clear hmb hr6
          go_upto_region 22 with (go_at_call 15; refine kmay.mono ?_; rintro e Wm ⟨rfl, hlm⟩)
          have hT := hT9.lies hlm
          have hX := hX9.lies hlm
          have hl := hlw9.tr' hlm
          clear cX hlX hT9 hX9 kmay
          have cX := hX.cell
          have hlX := hX.lt
          go_wp2_with (first | (refine wpList_store_blk rfl 37 _ _ rfl w.heap.size 0 rfl (itemV ⟨false, ⟨n0, n1, (n3 : Int), rest.map Int.ofNat, (n2 : Int)⟩⟩ (.slice o8 m8 p8)) rfl rfl (item_one _ _ rfl) hT (Nat.le_of_eq rfl) ?_; intro Wz hTz hgz hzz; have hBz := blk_item hTz; have hcz := hBz.cell) | go_in)
          (try simp only [Exit.inBlock, Exit.then])
          refine ret_cell2 rfl rfl rfl hBz rfl rfl rfl rfl ?_
          have hzm := hlm.size
          have hzz2 := hgz.size
          exact ⟨_, rfl, ((HI9.out.lies hlm).kept hgz (fun b e hF => by injection e with e; subst e; have := (HTX.out _ hF); omega)).mono (fun b hb => by have := HFF.out b hb; omega), below_grown hl hgz (Nat.le_refl _) hl.size⟩
    have d2 : decide (k < n) = true := decide_eq_true hlt
    have hltw : k < ws.length := by rw [HWL.out]; exact hlt
    have cw : wr.cell? ⟨G, k, none⟩ = some (.string ws[k]) := by
      have := hrow.cells (g := G) rfl k (.string ws[k]) (by simp [hltw])
      rwa [show (⟨G, 0, none⟩ : Addr).add k = ⟨G, k, none⟩ by unfold Addr.add; split <;> simp_all] at this
    have hbG : G < wr.heap.size := (hrow.lt G rfl).2
    have hdr : (ws.map (·.data.toList)).drop k = ws[k].data.toList :: (ws.map (·.data.toList)).drop (k + 1) := by
      rw [List.drop_eq_getElem_cons (by rw [List.length_map]; exact hltw), List.getElem_map]
    have hxz := hwz _ (List.getElem_mem hltw)
    have hbad : okW k ws[k].data.toList = none → numsG 0 (ws.map (·.data.toList)) = none := fun h => by rw [hst.out, hdr, numsG_bad h]; rfl
    have hgood : ∀ y, okW k ws[k].data.toList = some y → numsG 0 (ws.map (·.data.toList)) = (numsG (k + 1) ((ws.map (·.data.toList)).drop (k + 1))).map ((ns ++ [y]) ++ ·) := fun y h => by
      rw [hst.out, hdr, numsG_step h, Option.map_map]
      congr 1
      funext l
      simp
    generalize ws[k] = x at *
    have HBAD := Lib.hid hbad
    have HGOOD := Lib.hid hgood
    clear hbad hgood hdr hltw
    have kd := fun W => decimal_any x W hxz
    obtain ⟨d, hd⟩ : ∃ d, decR x.data.toList = d := ⟨_, rfl⟩
    obtain ⟨dn, db⟩ := d
    have hok : okW k x.data.toList = if db = true ∧ ¬ (k < 2 ∧ 255 < dn) then some dn else none := by unfold okW; rw [hd]
    rw [hd] at kd
    simp only at kd
    have HOK := Lib.hid hok
    clear hok hd
    go_upto_region 14 with (go_at_call 37; refine (kd _).mono ?_; rintro e Wq ⟨rfl, hWq⟩; rw [← hWq]; clear hWq)
    cases db
    · have hnone := HBAD.out (by rw [HOK.out]; simp)
      obtain rfl : r = (zeroI, 4) := by rw [← HR4.out]; unfold readN; rw [hnone]
      clear HR4 hnone HBAD HGOOD HOK kd cw hrow
      go_wp2_with (first | (refine wpList_store_blk rfl 37 _ _ rfl w.heap.size 0 rfl (itemV zeroI (.slice none 0 0)) rfl rfl (item_one _ _ rfl) hT (by decide) ?_; intro Wz hTz hgz hzz; have hBz := blk_item hTz; have hcz := hBz.cell) | go_in)
      (try simp only [Exit.inBlock, Exit.then])
      refine ret_cell2 rfl rfl rfl hBz rfl rfl rfl rfl ?_
      exact readRet_zero rfl (below_grown hl hgz (Nat.le_refl _) hl.size)
    by_cases hk2 : k < 2
    · have d3 : decide ((k : Int) < 2) = true := decide_eq_true (by omega)
      by_cases h255 : 255 < dn
      · have hnone := HBAD.out (by rw [HOK.out]; simp [hk2, h255])
        obtain rfl : r = (zeroI, 4) := by rw [← HR4.out]; unfold readN; rw [hnone]
        have d4 : decide (255 < (dn : Int)) = true := decide_eq_true (by omega)
        clear HR4 hnone HBAD HGOOD HOK kd cw hrow
        go_wp2_with (first | (refine wpList_store_blk rfl 37 _ _ rfl w.heap.size 0 rfl (itemV zeroI (.slice none 0 0)) rfl rfl (item_one _ _ rfl) hT (by decide) ?_; intro Wz hTz hgz hzz; have hBz := blk_item hTz; have hcz := hBz.cell) | go_in)
        (try simp only [Exit.inBlock, Exit.then])
        refine ret_cell2 rfl rfl rfl hBz rfl rfl rfl rfl ?_
        exact readRet_zero rfl (below_grown hl hgz (Nat.le_refl _) hl.size)
      · have d4 : decide (255 < (dn : Int)) = false := decide_eq_false (by omega)
        have HG := Lib.hid (HGOOD.out dn (by rw [HOK.out, if_pos ⟨rfl, by omega⟩]))
        have hcN : wr.cell? ⟨N, k, none⟩ = some (cs[k]'(by omega)) := by rw [hN.out.cell]; exact Array.getElem?_eq_getElem (by omega)
        have hfN := hN.out.free k
        have hlN := hN.out.lt
        clear HBAD HGOOD HOK kd cw hrow hT
        go_wp2
        go_roundw
        case measure => simp [intOf]; omega
        case rel =>
          refine ⟨k + 1, ns ++ [dn], cs.setIfInBounds k (.int .i64 (dn : Int)), by go_num, by omega, by simp [hnl], by simp [hcz], HG, Lib.hid (fun i y hi => ?_), Lib.hid (hN.out.set k _), Lib.hid (grownBy_trans hg.out (grownBy_setCell _ _ _ _))⟩
          rw [Array.getElem?_setIfInBounds]
          by_cases hik : i < ns.length
          · rw [List.getElem?_append_left hik] at hi
            rw [if_neg (by omega)]
            exact hcs.out i y hi
          · have hil : i < (ns ++ [dn]).length := (List.getElem?_eq_some_iff.1 hi).1
            have hik2 : i = ns.length := by simp at hil; omega
            subst hik2
            simp at hi
            subst hi
            rw [if_pos hnl.symm, if_pos (by omega)]
    · have d3 : decide ((k : Int) < 2) = false := decide_eq_false (by omega)
      have HG := Lib.hid (HGOOD.out dn (by rw [HOK.out, if_pos ⟨rfl, by omega⟩]))
      have hcN : wr.cell? ⟨N, k, none⟩ = some (cs[k]'(by omega)) := by rw [hN.out.cell]; exact Array.getElem?_eq_getElem (by omega)
      have hfN := hN.out.free k
      have hlN := hN.out.lt
      clear HBAD HGOOD HOK kd cw hrow hT
      go_wp2
      go_roundw
      case measure => simp [intOf]; omega
      case rel =>
        refine ⟨k + 1, ns ++ [dn], cs.setIfInBounds k (.int .i64 (dn : Int)), by go_num, by omega, by simp [hnl], by simp [hcz], HG, Lib.hid (fun i y hi => ?_), Lib.hid (hN.out.set k _), Lib.hid (grownBy_trans hg.out (grownBy_setCell _ _ _ _))⟩
        rw [Array.getElem?_setIfInBounds]
        by_cases hik : i < ns.length
        · rw [List.getElem?_append_left hik] at hi
          rw [if_neg (by omega)]
          exact hcs.out i y hi
        · have hil : i < (ns ++ [dn]).length := (List.getElem?_eq_some_iff.1 hi).1
          have hik2 : i = ns.length := by simp at hil; omega
          subst hik2
          simp at hi
          subst hi
          rw [if_pos hnl.symm, if_pos (by omega)]
end Go.Proofs.YtbgmjlonbbmffaaDoor
