/- reader.item walked. -/
import Derived.Test.YtbgmjlonbbmffaaDoorL8
import Derived.Laws.Rows
import Derived.LoopN
namespace Go.Proofs.YtbgmjlonbbmffaaDoor
open Go Go.RowKit
attribute [local go_sem] Oper.quietAt Oper.quietUpon
def zc : Array Value := #[.bool false, .int .u8 0, .int .u8 0, .int .i64 0, .slice none 0 0, .int .i64 0]
@[local go_sem] theorem ix0 (w : World) : (Instr.index 93 (.agg #[.int .i64 255, .int .i64 2147483647, .int .i64 32]) (.int .i64 0)).run Tryd.prog w = .ok (.int .i64 255) w := by
  have hu : Tryd.prog.underlying 93 = some (.array 3 3) := by kernel_rfl
  simp [Instr.index, hu, go_sem]
@[local go_sem] theorem ix1 (w : World) : (Instr.index 93 (.agg #[.int .i64 255, .int .i64 2147483647, .int .i64 32]) (.int .i64 1)).run Tryd.prog w = .ok (.int .i64 2147483647) w := by
  have hu : Tryd.prog.underlying 93 = some (.array 3 3) := by kernel_rfl
  simp [Instr.index, hu, go_sem]
@[local go_sem] theorem ix2 (w : World) : (Instr.index 93 (.agg #[.int .i64 255, .int .i64 2147483647, .int .i64 32]) (.int .i64 2)).run Tryd.prog w = .ok (.int .i64 32) w := by
  have hu : Tryd.prog.underlying 93 = some (.array 3 3) := by kernel_rfl
  simp [Instr.index, hu, go_sem]
theorem Tryd.info3' : (Tryd.prog.info? 3).map (fun i => (i.zero, i.size, i.bytes)) = some (some (.int .i64 0), 1, 8) := by kernel_rfl
theorem row_slice {W : World} {base : Nat} {e : TypeId} {size : Nat} {v : Value} {n : Nat} {xs : List Value} (h : W.ownsRow base e size v n xs) : ∃ oa m cap, v = .slice oa m cap := by
  rcases h.2 with ⟨rfl, _⟩ | ⟨g, cap, cur, rfl, _⟩
  · exact ⟨_, _, _, rfl⟩
  · exact ⟨_, _, _, rfl⟩
theorem ints_of_row {W : World} {base : Nat} {u : Value} {l : List Int} {n : Nat} (h : W.ownsRow base 3 1 u n (l.map (Value.int .i64))) (hn : n = l.length) (hl : l.length ≤ 1000) : IntsAt W (fun b => base ≤ b ∧ b < W.heap.size) u l := by
  subst hn
  have hc := fun g hg => h.cells (g := g) hg
  have ht := h.lt
  rcases h.2 with ⟨rfl, hnil⟩ | ⟨g, cap, cur, rfl, _⟩
  · have : l = [] := by simpa using hnil
    subst this
    exact ints_nil _ _
  · refine ⟨_, _, rfl, by unfold maxLen; omega, fun _ => ⟨g, 0, rfl, ht g rfl, fun i x hi => ?_⟩⟩
    have h2 := hc g rfl i (.int .i64 x) (by simp [hi])
    have hadd : (⟨g, 0, none⟩ : Addr).add i = ⟨g, i, none⟩ := by unfold Addr.add; split <;> simp_all
    rw [hadd] at h2
    simpa using h2
theorem grown_row {w W W' : World} {g : Nat} {row : Option Nat} (h : w.grownBy W (some g)) (k : W.grownBy W' row) (hB : ∀ b, row = some b → w.heap.size ≤ b) : w.grownBy W' (some g) :=
  ⟨k.os.trans h.os, k.tape.trans h.tape, k.output.trans h.output, Nat.le_trans h.size k.size, fun i hi hne => (k.block i (Nat.lt_of_lt_of_le hi h.size) (fun e => by have := hB i e.symm; omega)).trans (h.block i hi hne)⟩
theorem ret_cell2 {P : Program} {fn : Func} {R : Ending → World → Prop} {a : Act} {w : World} {p u : Tmp} {T t : TypeId} {g : Nat} {cs : Array Value} {v : Value} {d : TypeDesc} (hr : fn.results = #[.cell p T, .tmp u]) (hp : a.tmps.getD p undef = .pointer (some ⟨g, 0, none⟩)) (hv : a.tmps.getD u undef = v) (hB : Blk w g t cs)
    (hu : P.underlying T = some d) (hd : (match d with | .struct _ | .array _ _ => true | _ => false) = true) (hi : (P.info? T).map (·.size) = some cs.size) (hdf : a.defers = []) (h : R (.returned (.tuple #[.agg cs, v])) w) : bodyPost P fn R .ret a w := by
  refine bodyPost_ret (v := .tuple #[.agg cs, v]) ?_ hdf h
  have hp' : a.tmps[p]?.getD undef = .pointer (some ⟨g, 0, none⟩) := by simpa using hp
  have hv' : a.tmps[u]?.getD undef = v := by simpa using hv
  simp [results, hr, hp', hv', asAddr, run_loadVar_row w g t T cs (0, 0) d hB hu hd hi]
theorem item_one (x : ItemD) (pv : Value) (hpv : pv.oneCell' = true) : ∀ v ∈ (itemV x pv).cells.toList, v.oneCell' = true := by
  intro v hv
  change v ∈ [_, _, _, _, pv, _] at hv
  simp only [List.mem_cons, List.not_mem_nil, or_false] at hv
  rcases hv with rfl | rfl | rfl | rfl | rfl | rfl <;> first | exact hpv | rfl
theorem blk_item {W : World} {B : Nat} {x : ItemD} {pv : Value} (h : Blk W B 37 (writes zc 0 (itemV x pv).cells.toList)) :
    Blk W B 37 #[.bool x.mark, .int .u8 (x.step.pass : Int), .int .u8 (x.step.way : Int), .int .i64 x.step.rule, pv, .int .i64 x.step.place] := h
theorem grown_new {w W W' : World} {g B : Nat} (h : w.grownBy W (some g)) (hB : w.heap.size ≤ B) (k : W.grownBy W' (some B)) : w.grownBy W' (some g) :=
  ⟨k.os.trans h.os, k.tape.trans h.tape, k.output.trans h.output, Nat.le_trans h.size k.size, fun i hi hne => (k.block i (Nat.lt_of_lt_of_le hi h.size) (by simp; omega)).trans (h.block i hi hne)⟩
set_option maxRecDepth 100000 in
set_option maxHeartbeats 1500000 in
theorem item_any {t : ByteArray} {p g : Nat} {w : World} (ht : t.size ≤ 1000000000) (hp : p ≤ t.size) (hB : Blk w g 70 (rdr t p)) :
    Calls Tryd.prog 33 #[.pointer (some ⟨g, 0, none⟩)] w (ItemRet t g w (itemP t p)) := by
  obtain ⟨r, hr⟩ : ∃ r, itemP t p = r := ⟨_, rfl⟩
  rw [hr]
  unfold itemP at hr
  have h1 := @numP_ok t 255 p hp
  have hlt := hB.lt
  have k1 := num_255 ht p hp _ (hB.alloc (.cells zc 37))
  obtain ⟨W0, hW0⟩ : ∃ W0, w.alloc (.cells zc 37) = W0 := ⟨_, rfl⟩
  have hT : Blk W0 w.heap.size 37 zc := by rw [← hW0]; exact Blk.new w 37 zc
  have hg0 : w.grownBy W0 (some g) := by rw [← hW0]; exact grown_lies ((Lies.start w).alloc (Nat.le_refl _) _) _
  rw [hW0] at k1
  generalize numP t 255 p = r1 at k1 h1 hr
  obtain ⟨n1, e1, p1⟩ := r1
  unfold zc at hW0
  have HR := Lib.hid hr
  clear hr hB
  go_enter Tryd.func33, Tryd.ntmps33
  go_upto_region 1 with (fail)
  clear hW0
  go_upto_region 2 with (go_at_call 32; refine k1.mono ?_; rintro x1 W1 ⟨rfl, hR1, hg1⟩)
  have hg1' := grownBy_trans hg0 hg1
  have hT1 := hT.grown hg1 (by simp; omega)
  clear hg0 hg1 hT
  by_cases he1 : e1 = 0
  case neg =>
    obtain rfl : r = (zeroI, e1, p1) := by rw [← HR.out]; unfold itemA; rw [if_neg he1]
    have d1 : ((e1 : Int) == 0) = false := by simp; omega
    clear HR
    go_wp2_with (refine wpList_store_blk rfl 37 _ _ rfl w.heap.size 0 rfl (itemV zeroI (.slice none 0 0)) rfl rfl (item_one _ _ rfl) hT1 (by decide) ?_; intro W2 hT2 hg2 hz2; have hB2 := blk_item hT2; have hc2 := hB2.cell)
    (try simp only [Exit.inBlock, Exit.then])
    refine ret_cell2 rfl rfl rfl hB2 rfl rfl rfl rfl ?_
    exact itemRet_zero rfl (hR1.grown hg2 (by simp; omega)) (grown_new hg1' (Nat.le_refl _) hg2)
  subst he1
  have HR2 : Hid ((if n1 = 0 then (⟨true, zeroS⟩, 0, p1) else itemB t n1 (numP t 255 p1)) = r) := Lib.hid HR.out
  clear HR k1
  by_cases hn1 : n1 = 0
  case pos =>
    subst hn1
    obtain rfl : r = (⟨true, zeroS⟩, 0, p1) := HR2.out.symm
    clear HR2
    go_wp2_with (first | (refine wpList_store_blk rfl 37 _ _ rfl w.heap.size 0 rfl (itemV ⟨true, zeroS⟩ (.slice none 0 0)) rfl rfl (item_one _ _ rfl) hT1 (by decide) ?_; intro Wz hTz hgz hzz; have hBz := blk_item hTz; have hcz := hBz.cell) | go_in)
    (try simp only [Exit.inBlock, Exit.then])
    refine ret_cell2 rfl rfl rfl hBz rfl rfl rfl rfl ?_
    exact ⟨_, rfl, ints_nil _ _, hR1.grown hgz (by simp; omega), (grown_new hg1' (Nat.le_refl _) hgz)⟩
  have HR3 : Hid (itemB t n1 (numP t 255 p1) = r) := Lib.hid (by have := HR2.out; rwa [if_neg hn1] at this)
  have d1 : ((n1 : Int) == 0) = false := by simp; omega
  have HT := Lib.hid hT1
  clear HR2 hT1
  go_upto_region 7 with (fail)
  obtain ⟨W2, hW2⟩ : ∃ W2, W1.alloc (.cells #[.int .i64 0, .int .i64 0, .int .i64 0] 93) = W2 := ⟨_, rfl⟩
  obtain ⟨A, hA0⟩ : ∃ A, W1.heap.size = A := ⟨_, rfl⟩
  have hA2 : Blk W2 A 93 #[.int .i64 0, .int .i64 0, .int .i64 0] := by rw [← hW2, ← hA0]; exact Blk.new W1 93 _
  have hR2 : Blk W2 g 70 (rdr t p1) := by rw [← hW2]; exact hR1.alloc _
  have hg2 : w.grownBy W2 (some g) := by rw [← hW2]; exact grownBy_trans hg1' (grown_lies ((Lies.start W1).alloc (Nat.le_refl _) _) _)
  have HT2 : Hid (Blk W2 w.heap.size 37 zc) := Lib.hid (by rw [← hW2]; exact HT.out.alloc _)
  have hAg : w.heap.size < A := by have := HT.out.lt; omega
  rw [hW2]
  simp only [hA0]
  clear hW2 hA0 HT hR1 hg1'
  have k2 := num_255 ht p1 h1.2 _ hR2
  have h2 := @numP_ok t 255 p1 h1.2
  generalize numP t 255 p1 = r2 at k2 h2 HR3
  obtain ⟨n2, e2, p2⟩ := r2
  go_wp2_with fail
  refine wp_loop_rounds 4 ?_
  rw [rounds_succ]
  go_upto_region 11 with (first | (go_at_call 32; refine k2.mono ?_; rintro x3 W3 ⟨rfl, hR3, hg3⟩; have hA3 := hA2.grown hg3 (by simp; omega); have hc3 := hA3.cell; have hl3 := hA3.lt; have hf3 := hA3.free) | go_in)
  obtain ⟨W4, hW4⟩ : ∃ W4, W3.setCell ⟨A, 0, none⟩ (.int .i64 (n2 : Int)) = W4 := ⟨_, rfl⟩
  have hA4 : Blk W4 A 93 #[.int .i64 (n2 : Int), .int .i64 0, .int .i64 0] := by rw [← hW4]; exact hA3.set 0 _
  have hR4 : Blk W4 g 70 (rdr t p2) := by rw [← hW4]; exact hR3.far (by simp; omega) _
  have hg4 : w.grownBy W4 (some g) := by rw [← hW4]; exact grown_new (grownBy_trans hg2 hg3) (Nat.le_of_lt hAg) (grownBy_setCell _ _ _ _)
  have HT4 : Hid (Blk W4 w.heap.size 37 zc) := Lib.hid (by rw [← hW4]; exact (HT2.out.grown hg3 (by simp; omega)).far (by simp; omega) _)
  rw [hW4]
  clear hW4 hA3 hR3 hg3 hc3 hl3 hf3 HT2 hg2 hR2 hA2 k2
  by_cases he2 : e2 = 0
  case neg =>
    obtain rfl : r = (zeroI, e2, p2) := by rw [← HR3.out]; unfold itemB; rw [if_neg he2]
    have d1 : ((e2 : Int) == 0) = false := by simp; omega
    have hTx := HT4.out
    clear HR3
    go_wp2_with (first | (refine wpList_store_blk rfl 37 _ _ rfl w.heap.size 0 rfl (itemV zeroI (.slice none 0 0)) rfl rfl (item_one _ _ rfl) hTx (by decide) ?_; intro Wz hTz hgz hzz; have hBz := blk_item hTz; have hcz := hBz.cell) | go_in)
    (try simp only [Exit.inBlock, Exit.then])
    refine ret_cell2 rfl rfl rfl hBz rfl rfl rfl rfl ?_
    exact itemRet_zero rfl (hR4.grown hgz (by simp; omega)) (grown_new hg4 (Nat.le_refl _) hgz)
  subst he2
  have HR3 : Hid (itemC t n1 n2 (numP t 2147483647 p2) = r) := Lib.hid HR3.out
  have k3 := num_max ht p2 h2.2 _ hR4
  have h3 := @numP_ok t 2147483647 p2 h2.2
  generalize numP t 2147483647 p2 = r3 at k3 h3 HR3
  obtain ⟨n3, e3, p3⟩ := r3
  go_wp2_with fail
  rw [rounds_succ]
  go_upto_region 11 with (first | (go_at_call 32; refine k3.mono ?_; rintro x5 W5 ⟨rfl, hR5, hg5⟩; have hA5 := hA4.grown hg5 (by simp; omega); have hc5 := hA5.cell; have hl5 := hA5.lt; have hf5 := hA5.free) | go_in)
  obtain ⟨W6, hW6⟩ : ∃ W6, W5.setCell ⟨A, 1, none⟩ (.int .i64 (n3 : Int)) = W6 := ⟨_, rfl⟩
  have hA6 : Blk W6 A 93 #[.int .i64 (n2 : Int), .int .i64 (n3 : Int), .int .i64 0] := by rw [← hW6]; exact hA5.set 1 _
  have hR6 : Blk W6 g 70 (rdr t p3) := by rw [← hW6]; exact hR5.far (by simp; omega) _
  have hg6 : w.grownBy W6 (some g) := by rw [← hW6]; exact grown_new (grownBy_trans hg4 hg5) (Nat.le_of_lt hAg) (grownBy_setCell _ _ _ _)
  have HT6 : Hid (Blk W6 w.heap.size 37 zc) := Lib.hid (by rw [← hW6]; exact (HT4.out.grown hg5 (by simp; omega)).far (by simp; omega) _)
  rw [hW6]
  clear hW6 hA5 hR5 hg5 hc5 hl5 hf5 HT4 hg4 hR4 hA4 k3
  by_cases he3 : e3 = 0
  case neg =>
    obtain rfl : r = (zeroI, e3, p3) := by rw [← HR3.out]; unfold itemC; rw [if_neg he3]
    have d1 : ((e3 : Int) == 0) = false := by simp; omega
    have hTx := HT6.out
    clear HR3
    go_wp2_with (first | (refine wpList_store_blk rfl 37 _ _ rfl w.heap.size 0 rfl (itemV zeroI (.slice none 0 0)) rfl rfl (item_one _ _ rfl) hTx (by decide) ?_; intro Wz hTz hgz hzz; have hBz := blk_item hTz; have hcz := hBz.cell) | go_in)
    (try simp only [Exit.inBlock, Exit.then])
    refine ret_cell2 rfl rfl rfl hBz rfl rfl rfl rfl ?_
    exact itemRet_zero rfl (hR6.grown hgz (by simp; omega)) (grown_new hg6 (Nat.le_refl _) hgz)
  subst he3
  have HR3 : Hid (itemD t n1 n2 n3 (numP t 32 p3) = r) := Lib.hid HR3.out
  have k4 := num_32 ht p3 h3.2 _ hR6
  have h4 := @numP_ok t 32 p3 h3.2
  generalize numP t 32 p3 = r4 at k4 h4 HR3
  obtain ⟨n4, e4, p4⟩ := r4
  go_wp2_with fail
  rw [rounds_succ]
  go_upto_region 11 with (first | (go_at_call 32; refine k4.mono ?_; rintro x7 W7 ⟨rfl, hR7, hg7⟩; have hA7 := hA6.grown hg7 (by simp; omega); have hc7 := hA7.cell; have hl7 := hA7.lt; have hf7 := hA7.free) | go_in)
  obtain ⟨W8, hW8⟩ : ∃ W8, W7.setCell ⟨A, 2, none⟩ (.int .i64 (n4 : Int)) = W8 := ⟨_, rfl⟩
  have hA8 : Blk W8 A 93 #[.int .i64 (n2 : Int), .int .i64 (n3 : Int), .int .i64 (n4 : Int)] := by rw [← hW8]; exact hA7.set 2 _
  have hR8 : Blk W8 g 70 (rdr t p4) := by rw [← hW8]; exact hR7.far (by simp; omega) _
  have hg8 : w.grownBy W8 (some g) := by rw [← hW8]; exact grown_new (grownBy_trans hg6 hg7) (Nat.le_of_lt hAg) (grownBy_setCell _ _ _ _)
  have HT8 : Hid (Blk W8 w.heap.size 37 zc) := Lib.hid (by rw [← hW8]; exact (HT6.out.grown hg7 (by simp; omega)).far (by simp; omega) _)
  rw [hW8]
  clear hW8 hA7 hR7 hg7 hc7 hl7 hf7 HT6 hg6 hR6 hA6 k4
  by_cases he4 : e4 = 0
  case neg =>
    obtain rfl : r = (zeroI, e4, p4) := by rw [← HR3.out]; unfold itemD; rw [if_neg he4]
    have d1 : ((e4 : Int) == 0) = false := by simp; omega
    have hTx := HT8.out
    clear HR3
    go_wp2_with (first | (refine wpList_store_blk rfl 37 _ _ rfl w.heap.size 0 rfl (itemV zeroI (.slice none 0 0)) rfl rfl (item_one _ _ rfl) hTx (by decide) ?_; intro Wz hTz hgz hzz; have hBz := blk_item hTz; have hcz := hBz.cell) | go_in)
    (try simp only [Exit.inBlock, Exit.then])
    refine ret_cell2 rfl rfl rfl hBz rfl rfl rfl rfl ?_
    exact itemRet_zero rfl (hR8.grown hgz (by simp; omega)) (grown_new hg8 (Nat.le_refl _) hgz)
  subst he4
  have HR3 : Hid (itemE t n1 n2 n3 (pathG t n4 [] p4) = r) := Lib.hid HR3.out
  go_wp2_with fail
  rw [rounds_succ]
  have hc8 := hA8.cell
  have hl8 := hA8.lt
  have e14 : (n1 : Int) % 256 = (n1 : Int) := by omega
  have e24 : (n2 : Int) % 256 = (n2 : Int) := by omega
  go_upto_region 15 with go_in
  obtain ⟨W9, hW9⟩ : ∃ W9, W8.alloc (.cells #[.int .u8 (n1 : Int), .int .u8 (n2 : Int), .int .i64 (n3 : Int), .slice none 0 0, .int .i64 0] 35) = W9 := ⟨_, rfl⟩
  obtain ⟨S, hS0⟩ : ∃ S, W8.heap.size = S := ⟨_, rfl⟩
  have hS9 : Blk W9 S 35 #[.int .u8 (n1 : Int), .int .u8 (n2 : Int), .int .i64 (n3 : Int), .slice none 0 0, .int .i64 0] := by rw [← hW9, ← hS0]; exact Blk.new W8 35 _
  have hA9 : Blk W9 A 93 #[.int .i64 (n2 : Int), .int .i64 (n3 : Int), .int .i64 (n4 : Int)] := by rw [← hW9]; exact hA8.alloc _
  have hR9 : Blk W9 g 70 (rdr t p4) := by rw [← hW9]; exact hR8.alloc _
  have hg9 : w.grownBy W9 (some g) := by rw [← hW9]; exact grownBy_trans hg8 (grown_lies ((Lies.start W8).alloc (Nat.le_refl _) _) _)
  have HT9 : Hid (Blk W9 w.heap.size 37 zc) := Lib.hid (by rw [← hW9]; exact HT8.out.alloc _)
  have hAS : A < S := by have := hA8.lt; omega
  rw [hW9]
  simp only [hS0]
  obtain ⟨r5, hr5⟩ : ∃ r5, pathG t n4 [] p4 = r5 := ⟨_, rfl⟩
  have HR3 : Hid (itemE t n1 n2 n3 r5 = r) := Lib.hid (by rw [← hr5]; exact HR3.out)
  have HP := Lib.hid hr5
  clear hW9 hS0 HT8 hR8 hg8 hA8 hc8 hl8 e14 e24 hr5
  have hc9 := hA9.cell
  go_upto_region 16 with go_in
  clear hc9 hA9
  have hS1 : w.heap.size < S := by omega
  have hgS : g < S := by omega
  clear hAS hAg
  simp only [Int.natCast_zero]
  go_loopw [52] (fun j wr => ∃ (k q : Nat) (acc : List Int) (u : Value), j = .int .i64 (k : Int) ∧ k ≤ n4 ∧ acc.length = k ∧ q ≤ t.size ∧ Hid (wr.ownsRow (S + 1) 3 1 u k (acc.map (Value.int .i64))) ∧ Hid (Blk wr S 35 #[.int .u8 (n1 : Int), .int .u8 (n2 : Int), .int .i64 (n3 : Int), u, .int .i64 0]) ∧ Hid (Blk wr g 70 (rdr t q)) ∧ Hid (w.grownBy wr (some g)) ∧ Hid (Blk wr w.heap.size 37 zc) ∧ Hid (pathG t (n4 - k) acc q = r5)) (fun j _ => n4 - (intOf j).toNat)
  case atStart => exact ⟨0, p4, [], .slice none 0 0, rfl, Nat.zero_le _, rfl, h4.2, Lib.hid (World.ownsRow_nil _ _ _ _), Lib.hid hS9, Lib.hid hR9, Lib.hid hg9, HT9, HP⟩
  case round =>
    clear hS9 hR9 hg9 HT9 HP
    obtain ⟨k, q, acc, u, rfl, hk, hac, hq, hrow, hS, hR, hg, hT, hP⟩ := hrel
    by_cases hlt : k < n4
    case neg =>
      obtain rfl : k = n4 := by omega
      have d1 : decide (k < k) = false := decide_eq_false hlt
      obtain rfl : r5 = (acc, 0, q) := by rw [← hP.out, Nat.sub_self]; rfl
      obtain ⟨oa, m, cap, hu⟩ := row_slice hrow.out
      subst hu
      have k7 := num_max ht q hq _ hR.out
      have h7 := @numP_ok t 2147483647 q hq
      have HR4 : Hid ((if (numP t 2147483647 q).2.1 = 0 then (⟨false, ⟨n1, n2, n3, acc, (numP t 2147483647 q).1⟩⟩, 0, (numP t 2147483647 q).2.2) else (zeroI, (numP t 2147483647 q).2.1, (numP t 2147483647 q).2.2)) = r) := Lib.hid HR3.out
      generalize numP t 2147483647 q = r7 at k7 h7 HR4
      obtain ⟨n7, e7, q7⟩ := r7
      clear hP HR3
      go_upto_region 23 with (first | (go_at_call 32; refine k7.mono ?_; rintro x7 V0 ⟨rfl, hR1, hg1⟩; have hS1 := hS.out.grown hg1 (by simp; omega); have hc1 := hS1.cell; have hl1 := hS1.lt; have hf1 := hS1.free) | go_in)
      obtain ⟨V, hV⟩ : ∃ V, V0.setCell ⟨S, 4, none⟩ (.int .i64 (n7 : Int)) = V := ⟨_, rfl⟩
      have hSV : Blk V S 35 #[.int .u8 (n1 : Int), .int .u8 (n2 : Int), .int .i64 (n3 : Int), .slice oa m cap, .int .i64 (n7 : Int)] := by rw [← hV]; exact hS1.set 4 _
      have hRV : Blk V g 70 (rdr t q7) := by rw [← hV]; exact hR1.far (by simp; omega) _
      have hgV : w.grownBy V (some g) := by rw [← hV]; exact grown_new (grownBy_trans hg.out hg1) (Nat.le_of_lt (by omega)) (grownBy_setCell _ S _ _)
      have hTV : Blk V w.heap.size 37 zc := by rw [← hV]; exact (hT.out.grown hg1 (by simp; omega)).far (by simp; omega) _
      have hrV : V.ownsRow (S + 1) 3 1 (.slice oa m cap) k (acc.map (Value.int .i64)) := by
        rw [← hV]
        refine (hrow.out.kept hg1 (.inr fun e => ?_)).kept (grownBy_setCell _ S _ _) (.inr fun e => ?_)
        · have := hrow.out.lt g e; omega
        · have := hrow.out.lt S e; omega
      rw [hV]
      have HRV := Lib.hid hRV
      have HGV := Lib.hid hgV
      have HTV := Lib.hid hTV
      have HrV := Lib.hid hrV
      clear hV hR1 hg1 hS1 hc1 hl1 hf1 hR hg hT hrow hS k7 hRV hgV hTV hrV
      by_cases he7 : e7 = 0
      case neg =>
        obtain rfl : r = (zeroI, e7, q7) := by rw [← HR4.out, if_neg he7]
        have d2 : ((e7 : Int) == 0) = false := by simp; omega
        have hTx := HTV.out
        clear HR4
        go_wp2_with (first | (refine wpList_store_blk rfl 37 _ _ rfl w.heap.size 0 rfl (itemV zeroI (.slice none 0 0)) rfl rfl (item_one _ _ rfl) hTx (by decide) ?_; intro Wz hTz hgz hzz; have hBz := blk_item hTz; have hcz := hBz.cell) | go_in)
        (try simp only [Exit.inBlock, Exit.then])
        refine ret_cell2 rfl rfl rfl hBz rfl rfl rfl rfl ?_
        exact itemRet_zero rfl (HRV.out.grown hgz (by simp; omega)) (grown_new HGV.out (Nat.le_refl _) hgz)
      subst he7
      obtain rfl : r = (⟨false, ⟨n1, n2, n3, acc, (n7 : Int)⟩⟩, 0, q7) := HR4.out.symm
      clear HR4
      have hcV := hSV.cell
      have hlV := hSV.lt
      go_wp2_with (first | (refine wpList_store_blk rfl 37 _ _ rfl w.heap.size 0 rfl (itemV ⟨false, ⟨n1, n2, n3, acc, (n7 : Int)⟩⟩ (.slice oa m cap)) rfl rfl (item_one _ _ rfl) HTV.out (Nat.le_of_eq rfl) ?_; intro Wz hTz hgz hzz; have hBz := blk_item hTz; have hcz := hBz.cell) | go_in)
      (try simp only [Exit.inBlock, Exit.then])
      refine ret_cell2 rfl rfl rfl hBz rfl rfl rfl rfl ?_
      have hrz := HrV.out.kept hgz (.inr fun e => by have := HrV.out.lt _ e; omega)
      exact ⟨_, rfl, (ints_of_row hrz hac.symm (by rw [hac]; have := h4.1; omega)).mono (fun b hb => ⟨by omega, hb.2⟩), HRV.out.grown hgz (by simp; omega), grown_new HGV.out (Nat.le_refl _) hgz⟩
    have d1 : decide (k < n4) = true := decide_eq_true hlt
    have k5 := num_max ht q hq _ hR.out
    have h5 := @numP_ok t 2147483647 q hq
    have hP2 : Hid ((if (numP t 2147483647 q).2.1 = 0 then pathG t (n4 - (k + 1)) (acc ++ [((numP t 2147483647 q).1 : Int)]) (numP t 2147483647 q).2.2 else (acc, (numP t 2147483647 q).2.1, (numP t 2147483647 q).2.2)) = r5) := Lib.hid (by have := hP.out; rw [show n4 - k = (n4 - (k + 1)) + 1 by omega] at this; exact this)
    generalize numP t 2147483647 q = r6 at k5 h5 hP2
    obtain ⟨n6, e6, q6⟩ := r6
    clear hP
    go_upto_region 18 with (first | (go_at_call 32; refine k5.mono ?_; rintro x6 wr1 ⟨rfl, hR1, hg1⟩) | go_in)
    have hS2 := hS.out.grown hg1 (by simp; omega)
    have hT2 := hT.out.grown hg1 (by simp; omega)
    have hg2 := grownBy_trans hg.out hg1
    have hrow2 : Hid (wr1.ownsRow (S + 1) 3 1 u k (acc.map (Value.int .i64))) := Lib.hid (hrow.out.kept hg1 (by
      right
      intro e
      have := hrow.out.lt g e
      omega))
    have HT2 := Lib.hid hT2
    clear hS hT hg hrow hR hg1 k5 hT2
    by_cases he6 : e6 = 0
    case neg =>
      obtain rfl : r5 = (acc, e6, q6) := by rw [← hP2.out, if_neg he6]
      obtain rfl : r = (zeroI, e6, q6) := by rw [← HR3.out]; unfold itemE; rw [if_neg he6]
      have d2 : ((e6 : Int) == 0) = false := by simp; omega
      have hTx := HT2.out
      clear HR3 hP2
      go_wp2_with (first | (refine wpList_store_blk rfl 37 _ _ rfl w.heap.size 0 rfl (itemV zeroI (.slice none 0 0)) rfl rfl (item_one _ _ rfl) hTx (by decide) ?_; intro Wz hTz hgz hzz; have hBz := blk_item hTz; have hcz := hBz.cell) | go_in)
      (try simp only [Exit.inBlock, Exit.then])
      refine ret_cell2 rfl rfl rfl hBz rfl rfl rfl rfl ?_
      exact itemRet_zero rfl (hR1.grown hgz (by simp; omega)) (grown_new hg2 (Nat.le_refl _) hgz)
    subst he6
    have hc2 := hS2.cell
    have hl2 := hS2.lt
    have hf2 := hS2.free
    go_wp2_with (first | (at_builtin; refine wpList_push3 rfl _ _ 33 rfl (S + 1) 3 (.int .i64 0) 1 8 Tryd.underlying33 Tryd.info3' rfl (by decide) _ _ _ rfl hrow2.out [.int .i64 (n6 : Int)] rfl rfl (by intro y hy; simp at hy; subst hy; rfl) (by omega) (by omega) (by omega) ?_; intro u1 wr2 hown2 hg3 hnil3 hf3; obtain ⟨oa1, m1, cap1, hu1⟩ := row_slice hown2; subst hu1; have hS3 := hS2.grown hg3 (fun e => by have := (hrow2.out.lt S e.symm).1; omega); have hc3 := hS3.cell; have hl3 := hS3.lt; have hfr3 := hS3.free) | go_in)
    go_roundw
    case measure => simp [intOf]; omega
    case rel =>
      have hub : ∀ b, u.ownBlock = some b → S + 1 ≤ b := fun b hb => (hrow2.out.lt b hb).1
      refine ⟨k + 1, q6, acc ++ [(n6 : Int)], .slice oa1 m1 cap1, by go_num, by omega, by simp [hac], h5.2, Lib.hid ?_, Lib.hid (hS3.set 3 _), Lib.hid ((hR1.grown hg3 (fun e => by have := hub g e.symm; omega)).far (by simp; omega) _), Lib.hid (grown_new (grown_row hg2 hg3 (fun b hb => by have := hub b hb; omega)) (Nat.le_of_lt hS1) (grownBy_setCell _ S _ _)), Lib.hid ((HT2.out.grown hg3 (fun e => by have := hub _ e.symm; omega)).far (by simp; omega) _), Lib.hid hP2.out⟩
      rw [List.map_append]
      exact hown2.kept (grownBy_setCell _ S _ _) (.inr fun e => by have := hown2.lt S e; omega)
end Go.Proofs.YtbgmjlonbbmffaaDoor
