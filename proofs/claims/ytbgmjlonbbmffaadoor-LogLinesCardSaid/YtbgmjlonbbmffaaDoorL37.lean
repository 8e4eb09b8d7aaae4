/- The document's Read. -/
import Derived.Test.YtbgmjlonbbmffaaDoorP4
import Derived.Test.YtbgmjlonbbmffaaDoorL31
import Derived.Test.YtbgmjlonbbmffaaDoorL32
import Derived.Deep.CutBlock
import Derived.Test.YtbgmjlonbbmffaaDoorLyt
import Derived.Deep.DeepCutAuto
namespace Go.Proofs.YtbgmjlonbbmffaaDoor
open Go Go.RowKit
attribute [local go_sem] Oper.quietAt Oper.quietUpon Oper.loudAt Oper.loudUpon
theorem run_len (s : ByteArray) (p : UInt8 → Bool) (k : Nat) (hk : k ≤ s.size) : ∃ d, k + d ≤ s.size ∧ (s.data.toList.drop k).takeWhile p = (s.data.toList.drop k).take d ∧ (s.data.toList.drop k).dropWhile p = s.data.toList.drop (k + d) ∧ (∀ i (h : k + i < s.size), i < d → p s[k + i] = true) ∧ (∀ h : k + d < s.size, p s[k + d] = false) := by
  have hln : s.data.toList.length = s.size := Array.length_toList
  generalize hm : s.size - k = m
  induction m generalizing k with
  | zero =>
    have e : s.data.toList.drop k = [] := List.drop_of_length_le (by omega)
    refine ⟨0, by omega, by rw [e]; rfl, by rw [Nat.add_zero, e]; rfl, fun i h hi => by omega, fun h => by omega⟩
  | succ m ih =>
    have hlt : k < s.size := by omega
    have hd := drop_byte s k hlt
    cases hp : p s[k]
    · refine ⟨0, by omega, ?_, ?_, fun i h hi => by omega, fun h => hp⟩
      · rw [hd]; simp [hp]
      · rw [Nat.add_zero, hd]; simp [hp]
    · obtain ⟨d, h1, h2, h3, h4, h5⟩ := ih (k + 1) (by omega) (by omega)
      refine ⟨d + 1, by omega, ?_, ?_, fun i h hi => ?_, fun h => ?_⟩
      · rw [hd, List.take_succ_cons, ← h2]; simp [hp]
      · rw [hd, show k + (d + 1) = k + 1 + d by omega, ← h3]; simp [hp]
      · cases i with
        | zero => exact hp
        | succ i =>
          have := h4 i (by omega) (by omega)
          have e : k + 1 + i = k + (i + 1) := by omega
          simpa only [e] using this
      · have := h5 (by omega)
        have e : k + 1 + d = k + (d + 1) := by omega
        simpa only [e] using this
def natsV (ns : List Nat) : List Value := ns.map (fun n : Nat => Value.int .i64 (n : Int))
theorem blk_item50 {W : World} {B : Nat} {a b c d e f : Value} (h : Blk W B 50 (writes zs6 0 (Value.agg #[a, b, c, d, e, f]).cells.toList)) : Blk W B 50 #[a, b, c, d, e, f] := h
theorem Tryd.info3y : (Tryd.prog.info? 3).map (fun i => (i.zero, i.size, i.bytes)) = some (some (.int .i64 0), 1, 8) := by kernel_rfl
theorem ext_list (s : ByteArray) (k d : Nat) (h : k + d ≤ s.size) : (s.extract k (k + d)).data.toList = (s.data.toList.drop k).take d ∧ (s.extract k (k + d)).size = d := by
  constructor
  · rw [ByteArray.data_extract, Array.toList_extract]
    simp
  · rw [ByteArray.size_extract]; omega
theorem row_slice_n {W : World} {base : Nat} {e : TypeId} {size : Nat} {v : Value} {n : Nat} {xs : List Value} (h : W.ownsRow base e size v n xs) : ∃ oa cap, v = .slice oa n cap := by
  rcases h.2 with ⟨rfl, hnil⟩ | ⟨g, cap, cur, rfl, _⟩
  · subst hnil; exact ⟨none, 0, rfl⟩
  · exact ⟨_, _, rfl⟩
theorem row_cell1 {W : World} {base A n cu : Nat} {e : TypeId} {xs : List Value} (h : W.ownsRow base e 1 (.slice (some ⟨A, 0, none⟩) n cu) n xs) {i : Nat} {y : Value} (hi : xs[i]? = some y) : W.cell? ⟨A, i, none⟩ = some y := by
  have h2 := h.cells (g := A) rfl i y hi
  have hadd : (⟨A, 0, none⟩ : Addr).add i = ⟨A, i, none⟩ := by unfold Addr.add; split <;> simp_all
  rwa [hadd] at h2
theorem natsV_get {ns : List Nat} {i : Nat} (h : i < ns.length) : (natsV ns)[i]? = some (.int .i64 (ns.getD i 0 : Int)) := by
  unfold natsV
  rw [List.getElem?_map, List.getD_eq_getElem?_getD, List.getElem?_eq_getElem h]
  rfl
theorem natsV_snoc (ns : List Nat) (n : Nat) : natsV (ns ++ [n]) = natsV ns ++ [.int .i64 (n : Int)] := by simp [natsV]
set_option maxRecDepth 100000 in
set_option maxHeartbeats 1500000 in
theorem refRead_any {s : ByteArray} {w : World} (hs : s.size ≤ 1000000) : Calls Tryd.prog 19 #[.string s] w (ReadRet w (readP s.data.toList)) := by
  obtain ⟨r, hr⟩ : ∃ r, readP s.data.toList = r := ⟨_, rfl⟩
  rw [hr]
  have HR := Lib.hid hr
  clear hr
  have hln : s.data.toList.length = s.size := Array.length_toList
  obtain ⟨W0, hW0⟩ : ∃ W0, w.alloc (.cells zs6 50) = W0 := ⟨_, rfl⟩
  have hT0 : Blk W0 w.heap.size 50 zs6 := by rw [← hW0]; exact Blk.new w 50 zs6
  have hl0 : Lies w W0 := by rw [← hW0]; exact (Lies.start w).alloc (Nat.le_refl _) _
  have hsz0 : W0.heap.size = w.heap.size + 1 := by rw [← hW0]; simp
  unfold zs6 at hW0
  go_enter Tryd.func19, Tryd.ntmps19
  go_upto_region 1 with (fail)
  clear hW0
  by_cases hmk : s.data.toList = [109, 97, 114, 107]
  · obtain rfl : r = (⟨true, zeroS⟩, 0) := by rw [← HR.out]; unfold readP; rw [if_pos hmk]
    have e1 : (s.toList == [109, 97, 114, 107]) = true := by rw [Lib.toList_data, hmk]; rfl
    clear HR hmk
    go_wp2_with (first | (refine wpList_store_blk rfl 50 _ _ rfl w.heap.size 0 rfl (itemV ⟨true, zeroS⟩ (.slice none 0 0)) rfl rfl (item_one _ _ rfl) hT0 (by decide) ?_; intro Wz hTz hgz hzz; have hBz := blk_item50 hTz; have hcz := hBz.cell) | go_in)
    (try simp only [Exit.inBlock, Exit.then])
    refine ret_cell2 rfl rfl rfl hBz rfl rfl rfl rfl ?_
    exact ⟨_, rfl, ints_nil _ _, below_grown hl0 hgz (Nat.le_refl _) hl0.size⟩
  have e1 : (s.toList == [109, 97, 114, 107]) = false := by rw [Lib.toList_data]; simpa using hmk
  have HNM := Lib.hid hmk
  clear hmk
  go_wp2_with fail
  go_loopw [4, 5, 6] (fun u b j wr => ∃ (k f : Nat) (ns : List Nat) (bt : List UInt8) (B : ByteArray), j = .int .i64 (k : Int) ∧ b = .string B ∧ k ≤ s.size ∧ B.size ≤ k ∧ ns.length ≤ k ∧ s.size - k ≤ f ∧ Hid (B = ⟨bt.toArray⟩) ∧ Hid (scan f (s.data.toList.drop k) ns bt = scan s.data.toList.length s.data.toList [] []) ∧ Hid (wr.ownsRow W0.heap.size 3 1 u ns.length (natsV ns)) ∧ Hid (Lies W0 wr) ∧ Hid (∀ y ∈ ns, y ≤ 2147483647)) (fun _ _ j _ => s.size - (intOf j).toNat)
  case atStart => exact ⟨0, s.size, [], [], _, rfl, rfl, Nat.zero_le _, Nat.le_refl _, Nat.le_refl _, Nat.le_refl _, Lib.hid rfl, Lib.hid (by rw [hln]; rfl), Lib.hid (World.ownsRow_nil W0 W0.heap.size 3 1), Lib.hid (Lies.start _), Lib.hid (by simp)⟩
  case round =>
    obtain ⟨k, f, ns, bt, B, rfl, rfl, hk, hBz, hnz, hf, hB, hsc, hrow, hl, hns⟩ := hrel
    by_cases hlt : k < s.size
    case neg =>
      obtain rfl : k = s.size := by omega
      have d1 : decide (s.size < s.size) = false := decide_eq_false hlt
      have hR : scan s.data.toList.length s.data.toList [] [] = some (ns, bt) := by
        rw [← hsc.out, List.drop_of_length_le (by omega)]
        cases f <;> simp [scan]
      have HNO : Hid ((4 ≤ ns.length → ns.getD 0 0 ≤ 255 → ns.getD 1 0 ≤ 255 → bt = [46, 32] ++ List.replicate (ns.length - 4) 47 ++ [32, 64] → readP s.data.toList = (itemN ns, 0) → False) → r = (zeroI, 4)) := Lib.hid (fun h => by
        rw [← HR.out]
        refine read_no fun x hx => ?_
        obtain ⟨ns', bt', h9, h1, h2, h3, h4, h5⟩ := read_scan hx HNM.out
        rw [hR] at h9
        injection h9 with h9
        injection h9 with h9 h10
        subst h9 h10
        rw [← h4] at hx
        exact h h1 h2 h3 h5 hx)
      have hT1 := hT0.lies hl.out
      have hlt1 := hl0.tr' hl.out
      clear hsc hR
      by_cases h4 : ns.length < 4
      · obtain rfl : r = (zeroI, 4) := HNO.out (fun h => by omega)
        have d2 : decide ((ns.length : Int) < 4) = true := decide_eq_true (by omega)
        obtain ⟨ou, cu, hu⟩ := row_slice_n hrow.out
        subst hu
        clear HR HNO
        go_wp2_with (first | (refine wpList_store_blk rfl 50 _ _ rfl w.heap.size 0 rfl (itemV zeroI (.slice none 0 0)) rfl rfl (item_one _ _ rfl) hT1 (by decide) ?_; intro Wz hTz hgz hzz; have hBz := blk_item50 hTz; have hcz := hBz.cell) | go_in)
        (try simp only [Exit.inBlock, Exit.then])
        refine ret_cell2 rfl rfl rfl hBz rfl rfl rfl rfl ?_
        exact readRet_zero rfl (below_grown hlt1 hgz (Nat.le_refl _) hlt1.size)
      have d2 : decide ((ns.length : Int) < 4) = false := decide_eq_false (by omega)
      have d2' : decide (ns.length < 4) = false := decide_eq_false h4
      obtain ⟨A, cu, hu, hcu⟩ : ∃ A cu, u4 = .slice (some ⟨A, 0, none⟩) ns.length cu ∧ ns.length ≤ cu := by
        rcases hrow.out.2 with ⟨_, h⟩ | ⟨g, cap, cur, h, _, _, hn9, hc9, _⟩
        · omega
        · exact ⟨g, cap, h, by omega⟩
      subst hu
      have c0 : wr.cell? ⟨A, 0, none⟩ = some (.int .i64 (ns.getD 0 0 : Int)) := row_cell1 hrow.out (natsV_get (by omega))
      have c1 : wr.cell? ⟨A, 1, none⟩ = some (.int .i64 (ns.getD 1 0 : Int)) := row_cell1 hrow.out (natsV_get (by omega))
      have c2 : wr.cell? ⟨A, 2, none⟩ = some (.int .i64 (ns.getD 2 0 : Int)) := row_cell1 hrow.out (natsV_get (by omega))
      have cl : wr.cell? ⟨A, ns.length - 1, none⟩ = some (.int .i64 (ns.getD (ns.length - 1) 0 : Int)) := row_cell1 hrow.out (natsV_get (by omega))
      obtain ⟨n0, hn0⟩ : ∃ n0, ns.getD 0 0 = n0 := ⟨_, rfl⟩
      obtain ⟨n1, hn1⟩ : ∃ n1, ns.getD 1 0 = n1 := ⟨_, rfl⟩
      obtain ⟨n2, hn2⟩ : ∃ n2, ns.getD 2 0 = n2 := ⟨_, rfl⟩
      obtain ⟨np, hnp⟩ : ∃ np, ns.getD (ns.length - 1) 0 = np := ⟨_, rfl⟩
      have HN2 := Lib.hid hn2
      have HNP := Lib.hid hnp
      rw [hn2] at c2
      rw [hnp] at cl
      clear hn2 hnp
      have HN0 := Lib.hid hn0
      have HN1 := Lib.hid hn1
      rw [hn0] at c0
      rw [hn1] at c1
      rw [hn0, hn1] at HNO
      clear hn0 hn1
      by_cases h0 : 255 < n0
      · obtain rfl : r = (zeroI, 4) := HNO.out (fun _ h => by omega)
        have d3 : decide (255 < (n0 : Int)) = true := decide_eq_true (by omega)
        clear HR HNO c1 c2 cl
        go_wp2_with (first | (refine wpList_store_blk rfl 50 _ _ rfl w.heap.size 0 rfl (itemV zeroI (.slice none 0 0)) rfl rfl (item_one _ _ rfl) hT1 (by decide) ?_; intro Wz hTz hgz hzz; have hBz := blk_item50 hTz; have hcz := hBz.cell) | go_in)
        (try simp only [Exit.inBlock, Exit.then])
        refine ret_cell2 rfl rfl rfl hBz rfl rfl rfl rfl ?_
        exact readRet_zero rfl (below_grown hlt1 hgz (Nat.le_refl _) hlt1.size)
      have d3 : decide (255 < (n0 : Int)) = false := decide_eq_false (by omega)
      by_cases h1 : 255 < n1
      · obtain rfl : r = (zeroI, 4) := HNO.out (fun _ _ h => by omega)
        have d4 : decide (255 < (n1 : Int)) = true := decide_eq_true (by omega)
        clear HR HNO c2 cl
        go_wp2_with (first | (refine wpList_store_blk rfl 50 _ _ rfl w.heap.size 0 rfl (itemV zeroI (.slice none 0 0)) rfl rfl (item_one _ _ rfl) hT1 (by decide) ?_; intro Wz hTz hgz hzz; have hBz := blk_item50 hTz; have hcz := hBz.cell) | go_in)
        (try simp only [Exit.inBlock, Exit.then])
        refine ret_cell2 rfl rfl rfl hBz rfl rfl rfl rfl ?_
        exact readRet_zero rfl (below_grown hlt1 hgz (Nat.le_refl _) hlt1.size)
      have d4 : decide (255 < (n1 : Int)) = false := decide_eq_false (by omega)
      go_upto_region 20 with (fail)
      obtain ⟨p, hp, hpn⟩ : ∃ p : Nat, ((ns.length : Int) - 1) = (p : Int) ∧ ns.length = p + 1 := ⟨ns.length - 1, by omega, by omega⟩
      have HPN := Lib.hid hpn
      have hp3 : 3 ≤ p := by omega
      have hpl : p < ns.length := by omega
      have hpc : p ≤ cu := by omega
      have hc3 : (cu = 3) = False := eq_false (by omega)
      have hpc' : (p : Int) ≤ (cu : Int) := by omega
      have hp3' : (3 : Int) ≤ (p : Int) := by omega
      have hm0 : (n0 : Int) % 256 = (n0 : Int) := by omega
      have hm1 : (n1 : Int) % 256 = (n1 : Int) := by omega
      rw [show ns.length - 1 = p by omega] at cl
      clear hpn d1 d2 d2' d3 d4
      have hlA := hrow.out.lt A rfl
      (refine wp_region_lay_tail (id := 20) (I := Lies wr) [(true, 0), (true, 1), (true, 2), (true, 3), (true, 4), (true, 5), (true, 6), (true, 7), (true, 8), (true, 9), (true, 10), (true, 11), (true, 12), (true, 13), (true, 14), (true, 15), (true, 16), (true, 17), (true, 18), (true, 19), (true, 20), (true, 21), (true, 22), (true, 23), (false, 24)] 25 (by kernel_rfl) (by kernel_rfl) (Lies.start wr).drew ?_; simp only [layOps, List.filterMap_cons, List.filterMap_nil, List.getElem?_cons_succ, List.getElem?_cons_zero, Option.map_some, List.append_eq, List.cons_append, List.nil_append, List.drop_succ_cons, List.drop_zero]; (repeat (first | (have hX_ : True := trivial; (first | refine i_skip ?_ ?_ | refine i_skip2 ?_ ?_); (focus exact wanted_no rfl rfl rfl); clear hX_; simp only [Act.put, List.setIfInBounds_toArray, List.set_cons_zero, List.set_cons_succ]) | (apply i_free _ rfl; (focus (intro C1 hs1 w1 hw0; have hw1 := hs1 _ hw0; have hc1 := hw1.cells; go_simp; (try go_bits); (try (rw [if_pos (by omega)]; go_simp)); first | ((rw [if_pos (by omega)]; go_simp; rfl)) | ((rw [if_pos (by omega), if_pos (by omega)]; go_simp; rfl)) | rfl)); simp only [Act.put, List.setIfInBounds_toArray, List.set_cons_zero, List.set_cons_succ]) | (refine i_loud rfl ?_; intro K hK; go_simp; refine ⟨(Lies.start wr).drew.alloc (Nat.le_refl _) _, ?_⟩; (try simp only [Act.put, List.setIfInBounds_toArray, List.set_cons_zero, List.set_cons_succ]); apply hK))); refine i_nil ?_)
      obtain ⟨W6, hW6⟩ : ∃ W6, (wr.alloc (.cells zs6 50)).drew = W6 := ⟨_, rfl⟩
      obtain ⟨X, hX0⟩ : ∃ X, wr.heap.size = X := ⟨_, rfl⟩
      have hX6 : Blk W6 X 50 zs6 := by rw [← hW6, ← hX0]; exact (Blk.new wr 50 zs6).drew
      have hl6 : Lies wr W6 := by rw [← hW6]; exact ((Lies.start wr).alloc (Nat.le_refl _) _).drew
      have hwX : w.heap.size < X := by rw [← hX0]; exact hT1.lt
      have hAX : A < X := by rw [← hX0]; exact hlA.2
      unfold zs6 at hW6
      rw [hW6]
      try simp only [hX0]
      have hXw : wr.heap.size ≤ X := Nat.le_of_eq hX0
      clear hW6 hX0 cl c0 c1 c2 hm0 hm1 hp3' hpc' hlA
      go_upto_region 21 with (first | (refine wpList_store_blk rfl 50 _ _ rfl X 0 rfl (itemV ⟨false, ⟨n0, n1, (n2 : Int), [], (np : Int)⟩⟩ (.slice (some ⟨A, 3, none⟩) (p - 3) (cu - 3))) rfl rfl (item_one _ _ rfl) hX6 (Nat.le_of_eq rfl) ?_; intro W7 hX7' hg7 hz7; have hX7 := blk_item50 hX7') | go_in)
      have hl7 : Lies wr W7 := below_grown hl6 hg7 hXw hl6.size
      have hrow7 := Lib.hid (ownsRow_lies' hrow.out hl7)
      have hT7 := hT1.lies hl7
      have hw7 := hlt1.tr' hl7
      obtain ⟨q, hq⟩ : ∃ q, p - 3 = q := ⟨_, rfl⟩
      have HQ : Hid (ns.length = q + 4) := Lib.hid (by have := HPN.out; omega)
      rw [hq] at hX7 ⊢
      clear hq hX6 hl6 hg7 hX7' hz7 hrow hT1 hl hlt1 hXw hpl hpc hp3 hc3 hp hcu
      have hqz : q ≤ 1000000 := by have := HQ.out; omega
      obtain ⟨L, hL⟩ : ∃ L, L = ((ns.drop 3).take (ns.length - 4)).map Int.ofNat := ⟨_, rfl⟩
      have HLL : Hid (L.length = q) := Lib.hid (by rw [hL]; have := HQ.out; simp; omega)
      have HIT : Hid (itemN ns = ⟨false, ⟨n0, n1, (n2 : Int), L, (np : Int)⟩⟩) := Lib.hid (by
        unfold itemN
        rw [HN0.out, HN1.out, HN2.out, HNP.out, hL])
      have HPT : Hid (IntsAt W7 (fun b => b = A) (.slice (some ⟨A, 3, none⟩) q (cu - 3)) L) := Lib.hid (by
        refine ⟨_, _, by rw [HLL.out], by rw [HLL.out]; unfold maxLen; omega, fun _ => ⟨A, 3, rfl, rfl, fun i x hi => ?_⟩⟩
        have hil : i < q := by have := (List.getElem?_eq_some_iff.1 hi).1; rw [HLL.out] at this; exact this
        have hq4 := HQ.out
        rw [row_cell1 hrow7.out (natsV_get (i := 3 + i) (by omega))]
        rw [hL, List.getElem?_map, List.getElem?_take, if_pos (by omega), List.getElem?_drop] at hi
        rw [List.getD_eq_getElem?_getD]
        obtain ⟨y, hy, rfl⟩ := Option.map_eq_some_iff.1 hi
        rw [hy]
        rfl)
      have hA0 : w.heap.size < A ∧ A < W7.heap.size := by have := hrow7.out.lt A rfl; omega
      have hnn0 : n0 < 256 ∧ n1 < 256 := by omega
      clear hL hrow7
      go_wp2_with fail
      go_loopw [11, 12] (fun b j wq => ∃ (k : Nat) (B2 : ByteArray), j = .int .i64 (k : Int) ∧ b = .string B2 ∧ k ≤ q ∧ B2.size = k + 2 ∧ Hid (B2 = ⟨([46, 32] ++ List.replicate k (47 : UInt8)).toArray⟩) ∧ Hid (Lies W7 wq)) (fun _ j _ => q - (intOf j).toNat)
      case atStart => exact ⟨0, _, rfl, rfl, Nat.zero_le _, rfl, Lib.hid rfl, Lib.hid (Lies.start _)⟩
      case round =>
        obtain ⟨k, B2, rfl, rfl, hk, hz2, hB2, hl8⟩ := hrel
        have hX8 : Blk wr X 50 #[.bool false, .int .u8 (n0 : Int), .int .u8 (n1 : Int), .int .i64 (n2 : Int), .slice (some ⟨A, 3, none⟩) q (cu - 3), .int .i64 (np : Int)] := hX7.lies hl8.out
        have c4 : wr.cell? ⟨X, 4, none⟩ = some (.slice (some ⟨A, 3, none⟩) q (cu - 3)) := hX8.cell 4
        have hlX := hX8.lt
        by_cases hkq : k < q
        · have d5 : decide (k < q) = true := decide_eq_true hkq
          have hz9 : ¬ (9223372036854775807 < B2.size + 1) := by omega
          have HB3 : Hid (B2 ++ ⟨#[47]⟩ = ⟨([46, 32] ++ List.replicate (k + 1) (47 : UInt8)).toArray⟩) := Lib.hid (by
            rw [hB2.out, List.replicate_succ']
            show ByteArray.mk _ ++ ByteArray.mk [47].toArray = _
            rw [str_add, List.append_assoc])
          have HZ3 : Hid ((B2 ++ ⟨#[47]⟩).size = k + 1 + 2) := Lib.hid (by
            rw [ByteArray.size_append]
            have e1 : (ByteArray.mk #[47]).size = 1 := rfl
            omega)
          go_wp2_with fail
          go_roundw
          case rel => exact ⟨k + 1, _, by go_num, rfl, by omega, HZ3.out, HB3, hl8⟩
          case measure => simp [intOf]; omega
        obtain rfl : q = k := by omega
        have d5 : decide (q < q) = false := decide_eq_false hkq
        have hz9 : ¬ (9223372036854775807 < B2.size + 2) := by omega
        have hE : B2 ++ ⟨#[32, 64]⟩ = (⟨([46, 32] ++ List.replicate q (47 : UInt8) ++ [32, 64]).toArray⟩ : ByteArray) := by
          rw [hB2.out]
          show ByteArray.mk _ ++ ByteArray.mk [32, 64].toArray = _
          rw [str_add]
        have hT8 := hT7.lies hl8.out
        have hw8 := hw7.tr' hl8.out
        have hp8 := HPT.out.lies hl8.out
        by_cases hbt : bt = [46, 32] ++ List.replicate q 47 ++ [32, 64]
        case neg =>
          obtain rfl : r = (zeroI, 4) := HNO.out (fun _ _ _ h => absurd (by rw [h]; congr 3; have := HQ.out; omega) hbt)
          have d6 : (B.toList == (B2 ++ ⟨#[32, 64]⟩).toList) = false := by
            rw [hE, hB.out, Lib.toList_data, Lib.toList_data]
            simpa using hbt
          clear HR HNO hp8 hE
          go_wp2_with (first | (refine wpList_store_blk rfl 50 _ _ rfl w.heap.size 0 rfl (itemV zeroI (.slice none 0 0)) rfl rfl (item_one _ _ rfl) hT8 (by decide) ?_; intro Wz hTz hgz hzz; have hBz := blk_item50 hTz; have hcz := hBz.cell) | go_in)
          (try simp only [Exit.inBlock, Exit.then])
          refine ret_cell2 rfl rfl rfl hBz rfl rfl rfl rfl ?_
          exact readRet_zero rfl (below_grown hw8 hgz (Nat.le_refl _) hw8.size)
        have d6 : (B.toList == (B2 ++ ⟨#[32, 64]⟩).toList) = true := by rw [hE, hB.out, hbt]; exact beq_self_eq_true _
        have kS := refShow_any (x := ⟨false, ⟨n0, n1, (n2 : Int), L, (np : Int)⟩⟩) hp8 (show _ ∧ _ from hnn0)
        simp only at kS
        obtain ⟨R, hR⟩ : ∃ R : ByteArray, R = ⟨(showP ⟨false, ⟨n0, n1, (n2 : Int), L, (np : Int)⟩⟩).toArray⟩ := ⟨_, rfl⟩
        rw [show strV (showP ⟨false, ⟨n0, n1, (n2 : Int), L, (np : Int)⟩⟩) = .string R by rw [hR]; rfl] at kS
        have HRR : Hid ((R.toList == s.toList) = decide (showP ⟨false, ⟨n0, n1, (n2 : Int), L, (np : Int)⟩⟩ = s.data.toList)) := Lib.hid (by
          rw [Lib.toList_data, Lib.toList_data, hR]
          rw [Bool.eq_iff_iff]
          simp)
        clear hE hR
        clear c4
        have hcX := hX8.cell
        by_cases hsh : showP ⟨false, ⟨n0, n1, (n2 : Int), L, (np : Int)⟩⟩ = s.data.toList
        case neg =>
          obtain rfl : r = (zeroI, 4) := HNO.out (fun _ _ _ _ h => hsh (by
            obtain ⟨h8, h9⟩ := readP_inv h
            rw [HIT.out] at h8 h9
            unfold showP
            rw [if_pos h8]
            exact h9))
          have d7 : (R.toList == s.toList) = false := by rw [HRR.out]; exact decide_eq_false hsh
          clear HR HNO hp8 hsh HRR
          go_wp2_with (first | (go_at_call 24; refine kS.mono ?_; rintro e w9 ⟨rfl, hl9⟩; have hT9 := hT8.lies hl9; have hw9 := hw8.tr' hl9) | (refine wpList_store_blk rfl 50 _ _ rfl w.heap.size 0 rfl (itemV zeroI (.slice none 0 0)) rfl rfl (item_one _ _ rfl) hT9 (by decide) ?_; intro Wz hTz hgz hzz; have hBz := blk_item50 hTz; have hcz := hBz.cell) | go_in)
          (try simp only [Exit.inBlock, Exit.then])
          refine ret_cell2 rfl rfl rfl hBz rfl rfl rfl rfl ?_
          exact readRet_zero rfl (below_grown hw9 hgz (Nat.le_refl _) hw9.size)
        have d7 : (R.toList == s.toList) = true := by rw [HRR.out]; exact decide_eq_true hsh
        have hr9 : r = (⟨false, ⟨n0, n1, (n2 : Int), L, (np : Int)⟩⟩, 0) := by
          rw [← HR.out, ← HIT.out]
          refine scan_read (by rw [HN0.out]; omega) (by rw [HN1.out]; omega) (by rw [HIT.out]; exact hsh) (fun e => ?_)
          have h9 : s.size = 0 := by rw [← hln, e]; rfl
          have := HQ.out
          omega
        subst hr9
        clear HR HNO hsh HRR
        go_wp2_with (first | (go_at_call 24; refine kS.mono ?_; rintro e w9 ⟨rfl, hl9⟩; have hT9 := hT8.lies hl9; have hw9 := hw8.tr' hl9; have hX9 := hX8.lies hl9; clear hcX; have hcX := hX9.cell; have hlX9 := hX9.lt) | (refine wpList_store_blk rfl 50 _ _ rfl w.heap.size 0 rfl (itemV ⟨false, ⟨n0, n1, (n2 : Int), L, (np : Int)⟩⟩ (.slice (some ⟨A, 3, none⟩) q (cu - 3))) rfl rfl (item_one _ _ rfl) hT9 (Nat.le_of_eq rfl) ?_; intro Wz hTz hgz hzz; have hBz := blk_item50 hTz; have hcz := hBz.cell) | go_in)
        (try simp only [Exit.inBlock, Exit.then])
        refine ret_cell2 rfl rfl rfl hBz rfl rfl rfl rfl ?_
        have hzA := hgz.size
        have hz9 := hl9.size
        have hz8 := hl8.out.size
        exact ⟨_, rfl, ((hp8.lies hl9).kept hgz (fun b e hb => by injection e with e; subst e; subst hb; omega)).mono (fun b hb => by subst hb; omega), below_grown hw9 hgz (Nat.le_refl _) hw9.size⟩
    have d1 : decide (k < s.size) = true := decide_eq_true hlt
    obtain ⟨f, rfl⟩ : ∃ g, f = g + 1 := ⟨f - 1, by omega⟩
    obtain ⟨d, hd1, hd2, hd3, hd4, hd5⟩ := run_len s dgB k hk
    have hsc2 : Hid ((if (decR ((s.data.toList.drop k).take d)).2 = true then scan f ((s.data.toList.drop (k + d)).dropWhile ndB) (ns ++ [(decR ((s.data.toList.drop k).take d)).1]) (bt ++ (s.data.toList.drop (k + d)).takeWhile ndB) else none) = scan s.data.toList.length s.data.toList [] []) := Lib.hid (by
      have h9 := hsc.out
      rw [scan_succ, if_neg (fun e => by have := congrArg List.length e; rw [List.length_drop, List.length_nil] at this; omega), hd2, hd3] at h9
      exact h9)
    have HD4 := Lib.hid hd4
    have HD5 := Lib.hid hd5
    clear hsc hd2 hd3 hd4 hd5
    go_upto_block 2 with (fail)
    go_cut [6] (fun j wx => j = .int .i64 ((k : Int) + (d : Int)) ∧ Lies wr wx)
    case first =>
      go_wp2_with fail
      go_loopw [6] (fun j wq => ∃ i : Nat, j = .int .i64 ((k + i : Nat) : Int) ∧ i ≤ d ∧ Lies wr wq) (fun j _ => s.size - (intOf j).toNat)
      case atStart => exact ⟨0, rfl, Nat.zero_le _, Lies.start _⟩
      case round =>
        obtain ⟨i, rfl, hi, hlq⟩ := hrel
        by_cases hid : i < d
        case pos =>
          have hki : k + i < s.size := by omega
          have d2 : decide (k + i < s.size) = true := decide_eq_true hki
          have hdg := HD4.out i hki hid
          unfold dgB at hdg
          simp only [Bool.and_eq_true, decide_eq_true_eq] at hdg
          go_wp2
          go_roundw
          case rel => exact ⟨i + 1, congrArg (Value.int .i64) (by omega), by omega, hlq⟩
          case measure => simp [intOf]; omega
        obtain rfl : d = i := by omega
        have hcase : decide (k + d < s.size) = false ∨ ∃ h : k + d < s.size, decide (k + d < s.size) = true ∧ (decide (48 ≤ (s[k + d].toNat : Int)) = false ∨ (decide (48 ≤ (s[k + d].toNat : Int)) = true ∧ decide ((s[k + d].toNat : Int) ≤ 57) = false)) := by
          by_cases h : k + d < s.size
          · have hdg := HD5.out h
            unfold dgB at hdg
            refine .inr ⟨h, decide_eq_true h, ?_⟩
            by_cases h48 : 48 ≤ s[k + d].toNat
            · refine .inr ⟨decide_eq_true (by omega), decide_eq_false ?_⟩
              rw [decide_eq_true h48, Bool.true_and] at hdg
              have := of_decide_eq_false hdg
              omega
            · exact .inl (decide_eq_false (by omega))
          · exact .inl (decide_eq_false h)
        rcases hcase with d2 | ⟨hki, d2, d3 | ⟨d3, d4⟩⟩
        · have d2' : decide ((k : Int) + (d : Int) < (s.size : Int)) = false := decide_eq_false (by have := of_decide_eq_false d2; omega)
          go_wp2
          go_meet
          exact ⟨rfl, hlq⟩
        · go_wp2
          go_meet
          exact ⟨rfl, hlq⟩
        · have hgt : 57 < s[k + d].toNat := by have := of_decide_eq_false d4; omega
          have d5 : ((s[k + d].toNat : Int) ≤ 57) = False := eq_false (of_decide_eq_false d4)
          have d6 : (s[k + d].toNat ≤ 57) = False := eq_false (by have := of_decide_eq_false d4; omega)
          clear d4
          go_wp2
          go_meet
          exact ⟨rfl, hlq⟩
    case rest =>
      obtain ⟨rfl, hlc⟩ := hcut
      have hlw := hl.out.tr' hlc
      have hrow2 := Lib.hid (ownsRow_lies' hrow.out hlc)
      clear hrow
      obtain ⟨hE1, hE2⟩ := ext_list s k d hd1
      have kd := refDec_any (s.extract k (k + d)) wc (by omega)
      rw [hE1] at kd
      obtain ⟨E, hE⟩ : ∃ E, s.extract k (k + d) = E := ⟨_, rfl⟩
      rw [hE] at kd
      obtain ⟨D, hD⟩ : ∃ D, (s.data.toList.drop k).take d = D := ⟨_, rfl⟩
      rw [hD] at kd hsc2
      have hdz : (decR D).2 = true → 0 < d := fun h => by
        have := (decR_inv h).1
        have h9 := (dec_len (decR D).1 (decR_inv h).2).1
        rw [← this, ← hD, List.length_take] at h9
        omega
      have hle : (decR D).2 = true → (decR D).1 ≤ 2147483647 := fun h => (decR_inv h).2
      cases hok : (decR D).2
      · have hno : r = (zeroI, 4) := by
          rw [← HR.out]
          refine read_no fun x hx => ?_
          obtain ⟨ns', bt', h9, _⟩ := read_scan hx HNM.out
          have := hsc2.out
          rw [hok, h9] at this
          simp at this
        subst hno
        have hT1 := hT0.lies hlw
        have hlt1 := hl0.tr' hlw
        have HOK := Lib.hid hok
        unfold NumRes at kd
        clear HR hdz hle hok hE1 hE2 hD hsc2
        go_wp2_with (first | (go_at_call 41; refine kd.mono ?_; rintro e9 w9 ⟨kk, ee, rfl, -, h2, rfl⟩; have hne9 : ((ee : Int) != 0) = true := (by rcases h2 HOK.out with rfl | rfl <;> rfl); clear h2) | (refine wpList_store_blk rfl 50 _ _ rfl w.heap.size 0 rfl (itemV zeroI (.slice none 0 0)) rfl rfl (item_one _ _ rfl) hT1 (by decide) ?_; intro Wz hTz hgz hzz; have hBz := blk_item50 hTz; have hcz := hBz.cell) | go_in)
        (try simp only [Exit.inBlock, Exit.then])
        refine ret_cell2 rfl rfl rfl hBz rfl rfl rfl rfl ?_
        exact readRet_zero rfl (below_grown hlt1 hgz (Nat.le_refl _) hlt1.size)
      have hd0 := hdz hok
      have hN := hle hok
      obtain ⟨N, hNN⟩ : ∃ N, (decR D).1 = N := ⟨_, rfl⟩
      have HOK := Lib.hid hok
      have HNN := Lib.hid hNN
      rw [hNN] at hN
      rw [hok, hNN, if_pos rfl] at hsc2
      clear hok hNN hdz hle hE1 hE2 hD
      unfold NumRes at kd
      have hlz := hlw.size
      go_upto_block 4 with (first | (go_at_call 41; refine kd.mono ?_; rintro e9 w9 ⟨kk, ee, rfl, h1, -, rfl⟩; obtain ⟨hkk, rfl⟩ := h1 HOK.out; rw [HNN.out] at hkk; obtain rfl : N = kk := hkk.symm) | (at_builtin; refine wpList_push3 rfl _ _ 33 rfl W0.heap.size 3 (.int .i64 0) 1 8 Tryd.underlying33 Tryd.info3y rfl (by decide) _ _ _ rfl hrow2.out [.int .i64 (N : Int)] rfl rfl (by intro y hy; simp at hy; subst hy; rfl) (by omega) (by omega) hlz ?_; intro u1 W3 hown3 hg3 hnil3 hf3) | go_in)
      have hrow3 : Hid (W3.ownsRow W0.heap.size 3 1 u1 (ns ++ [N]).length (natsV (ns ++ [N]))) := Lib.hid (by rw [natsV_snoc, List.length_append]; exact hown3)
      have hl3 : Lies W0 W3 := hlw.grown hg3 hlw.size (fun b e => (hrow2.out.lt b e).1)
      have hns3 : Hid (∀ y ∈ ns ++ [N], y ≤ 2147483647) := Lib.hid (fun y hy => by
        rcases List.mem_append.1 hy with h | h
        · exact hns.out y h
        · rw [List.mem_singleton] at h; subst h; exact hN)
      clear hown3 hg3 hnil3 hf3 hrow2 hns kd hl hlc hlw hlz
      obtain ⟨q, hq⟩ : ∃ q : Nat, (k : Int) + (d : Int) = (q : Int) := ⟨k + d, by omega⟩
      have hqn : k + d = q := by omega
      simp only [hq]
      obtain ⟨o, ho1, ho2, ho3, ho4, ho5⟩ := run_len s ndB q (by omega)
      rw [hqn, ho2, ho3] at hsc2
      have HO4 := Lib.hid ho4
      have HO5 := Lib.hid ho5
      clear ho2 ho3 ho4 ho5 HD4 HD5
      go_cut [6] (fun j wx => j = .int .i64 ((q : Int) + (o : Int)) ∧ Lies W3 wx)
      case first =>
        go_wp2_with fail
        go_loopw [6] (fun j wq => ∃ i : Nat, j = .int .i64 ((q + i : Nat) : Int) ∧ i ≤ o ∧ Lies W3 wq) (fun j _ => s.size - (intOf j).toNat)
        case atStart => exact ⟨0, rfl, Nat.zero_le _, Lies.start _⟩
        case round =>
          obtain ⟨i, rfl, hi, hlq⟩ := hrel
          by_cases hid : i < o
          case pos =>
            have hki : q + i < s.size := by omega
            have d2 : decide (q + i < s.size) = true := decide_eq_true hki
            have hdg := HO4.out i hki hid
            unfold ndB dgB at hdg
            by_cases h48 : s[q + i].toNat < 48
            · have d3 : decide ((s[q + i].toNat : Int) < 48) = true := decide_eq_true (by omega)
              clear hdg
              go_wp2
              go_roundw
              case rel => exact ⟨i + 1, congrArg (Value.int .i64) (by omega), by omega, hlq⟩
              case measure => simp [intOf]; omega
            · have h57 : 57 < s[q + i].toNat := by
                rw [decide_eq_true (show 48 ≤ s[q + i].toNat by omega), Bool.true_and] at hdg
                have : decide (s[q + i].toNat ≤ 57) = false := by simpa using hdg
                have := of_decide_eq_false this
                omega
              have d3 : decide ((s[q + i].toNat : Int) < 48) = false := decide_eq_false (by omega)
              have d4 : decide (57 < (s[q + i].toNat : Int)) = true := decide_eq_true (by omega)
              clear hdg
              go_wp2
              go_roundw
              case rel => exact ⟨i + 1, congrArg (Value.int .i64) (by omega), by omega, hlq⟩
              case measure => simp [intOf]; omega
          obtain rfl : o = i := by omega
          by_cases hqo : q + o < s.size
          · have d2 : decide (q + o < s.size) = true := decide_eq_true hqo
            have hdg := HO5.out hqo
            unfold ndB dgB at hdg
            simp only [Bool.not_eq_false', Bool.and_eq_true, decide_eq_true_eq] at hdg
            have d3 : decide ((s[q + o].toNat : Int) < 48) = false := decide_eq_false (by omega)
            have d4 : decide (57 < (s[q + o].toNat : Int)) = false := decide_eq_false (by omega)
            clear hdg
            go_wp2
            go_meet
            exact ⟨rfl, hlq⟩
          · have d2' : decide ((q : Int) + (o : Int) < (s.size : Int)) = false := decide_eq_false (by omega)
            go_wp2
            go_meet
            exact ⟨rfl, hlq⟩
      case rest =>
        obtain ⟨rfl, hlc⟩ := hcut
        obtain ⟨hE3, hE4⟩ := ext_list s q o ho1
        obtain ⟨E2, hE5⟩ : ∃ E2, s.extract q (q + o) = E2 := ⟨_, rfl⟩
        rw [hE5] at hE3 hE4
        have hz9 : ¬ (9223372036854775807 < B.size + E2.size) := by omega
        have hB2 : Hid (B ++ E2 = ⟨(bt ++ (s.data.toList.drop q).take o).toArray⟩) := Lib.hid (by
          rw [← hE3, hB.out]
          rw [← str_add])
        have HZ : Hid ((B ++ E2).size ≤ q + o) := Lib.hid (by rw [ByteArray.size_append]; omega)
        clear hE3 hE4
        go_wp2_with fail
        go_roundw
        case rel => exact ⟨q + o, f, ns ++ [N], _, _, by go_num, rfl, by omega, HZ.out, by simp; omega, by omega, hB2, hsc2, Lib.hid (ownsRow_lies' hrow3.out hlc), Lib.hid (hl3.tr' hlc), hns3⟩
        case measure => simp [intOf]; omega
