/- Merged: Q20, Q21, Q22. -/
import Derived.Test.YtakcckdnliiieaaDoorQ18
import Derived.Laws.MakeOwn
/- The small functions of the laws of quote: text, class, wrong. -/
namespace Go.Proofs.YtakcckdnliiieaaDoor
open Go Go.RowKit
attribute [local go_sem] Oper.quietAt Oper.quietUpon
theorem strV_str (s : ByteArray) : strV s.data.toList = .string s := rfl
set_option maxRecDepth 100000 in
set_option maxHeartbeats 1000000 in
theorem text_yes {t s : ByteArray} {n : Nat} (ht : t.size ≤ 1000000) (h : unlitP t = (s.data.toList, n, 0)) (w : World) :
    Calls Tryd.prog 49 #[.string t, .string s, .int .i64 (n : Int)] w (Ret (.bool true) w) := by
  have k := @unliteral_any t w ht
  rw [h] at k
  have k' : Calls Tryd.prog 54 #[.string t] w (Ret (.tuple #[.string s, .int .i64 (n : Int), .int .i64 0]) w) := k
  clear k h
  go_enter Tryd.func49, Tryd.ntmps49
  go_wp2_with (go_at_call 54; refine k'.mono ?_; rintro x w2 ⟨rfl, hw2⟩)
  go_ret
  exact ⟨rfl, hw2⟩
set_option maxRecDepth 100000 in
set_option maxHeartbeats 1000000 in
theorem class_yes {t s : ByteArray} {n : Nat} (ht : t.size ≤ 1000000) (hs : s.size ≤ 1000000) (h : unclsP t = (BS.ofBytes s.data.toList, n, 0)) (w : World) :
    Calls Tryd.prog 50 #[.string t, .string s, .int .i64 (n : Int)] w (Ret (.bool true) w) := by
  have k := @unclass_any t w ht
  rw [h] at k
  have k' : Calls Tryd.prog 51 #[.string t] w (Ret (.tuple #[.agg (BS.ofBytes s.data.toList).cells, .int .i64 (n : Int), .int .i64 0]) w) := k
  have k18 := fun w => setOf_any s w (by omega)
  clear k h
  obtain ⟨S, hS⟩ : ∃ S, S = BS.ofBytes s.data.toList := ⟨_, rfl⟩
  rw [← hS] at k' k18
  clear hS
  go_enter Tryd.func50, Tryd.ntmps50
  go_upto_region 2 with (go_at_call 51; refine k'.mono ?_; rintro x w2 ⟨rfl, hw2⟩)
  have hX := Blk.new w2 24 S.cells
  have hb := (hw2.alloc hw2.size (.cells S.cells 24))
  have hcX := hX.cell
  have hlX := hX.lt
  (refine wp_region_quiet_all (C := Lies _) (by kernel_rfl) (by kernel_rfl) (Lies.drew (Lies.start _)) ?_; (repeat (first | (refine quiet_skip rfl ?_; simp only [Act.put, List.setIfInBounds_toArray, List.set_cons_zero, List.set_cons_succ]) | (apply quiet_op _ rfl; (focus (intro w1 hw1; have hc1 := hw1.cells; go_simp; (try go_bits); (try (rw [if_pos (by omega)]; go_simp)); first | (go_at_call 18; with_reducible exact Calls.lies hw1 (k18 _)) | (go_at_call 18; exact Calls.lies hw1 (k18 _)) | rfl)); simp only [Act.put, List.setIfInBounds_toArray, List.set_cons_zero, List.set_cons_succ]))); refine wpQuiet_nil ?_; intro w3 hw3)
  go_wp2
  go_ret
  exact ⟨by simp, Lies.below hw3 hb.size hb⟩
set_option maxRecDepth 100000 in
set_option maxHeartbeats 1000000 in
theorem wrong_lit {t : ByteArray} {n e : Nat} (ht : t.size ≤ 1000000) (h0 : byteAt t 0 ≠ some 91) (h : unlitP t = ([], n, e)) (w : World) :
    Calls Tryd.prog 52 #[.string t, .int .i64 (n : Int), .int .i64 (e : Int)] w (Ret (.bool true) w) := by
  have k := @unliteral_any t w ht
  rw [h] at k
  have k' : Calls Tryd.prog 54 #[.string t] w (Ret (.tuple #[.string ⟨#[]⟩, .int .i64 (n : Int), .int .i64 (e : Int)]) w) := k
  clear k h
  by_cases hlen : 0 < t.size
  · have he : (t.toList == []) = false := by
      rw [Lib.toList_data, beq_eq_false_iff_ne]
      intro h
      have : t.data.toList.length = 0 := by rw [h]; rfl
      rw [Array.length_toList] at this
      have h2 : t.size = t.data.size := rfl
      omega
    rw [byteAt_lt hlen] at h0
    have d1 : ((t[0].toNat : Int) == 91) = false := by simp at h0; simp; omega
    clear h0
    go_enter Tryd.func52, Tryd.ntmps52
    go_wp2_with (go_at_call 54; refine k'.mono ?_; rintro x w2 ⟨rfl, hw2⟩)
    go_ret
    exact ⟨by simp, hw2⟩
  · have he : (t.toList == []) = true := by rw [Lib.toList_data, show t.data.toList = [] from List.eq_nil_of_length_eq_zero (by rw [Array.length_toList]; show t.size = 0; omega)]; rfl
    clear h0
    go_enter Tryd.func52, Tryd.ntmps52
    go_wp2_with (go_at_call 54; refine k'.mono ?_; rintro x w2 ⟨rfl, hw2⟩)
    go_ret
    exact ⟨by simp, hw2⟩
set_option maxRecDepth 100000 in
set_option maxHeartbeats 1000000 in
theorem wrong_cls {t : ByteArray} {n e : Nat} (ht : t.size ≤ 1000000) (h0 : byteAt t 0 = some 91) (h : unclsP t = (BS.zero, n, e)) (w : World) :
    Calls Tryd.prog 52 #[.string t, .int .i64 (n : Int), .int .i64 (e : Int)] w (Ret (.bool true) w) := by
  have k := @unclass_any t w ht
  rw [h] at k
  have k' : Calls Tryd.prog 51 #[.string t] w (Ret (.tuple #[.agg BS.zero.cells, .int .i64 (n : Int), .int .i64 (e : Int)]) w) := k
  clear k h
  have hlen := (byteAt_256 h0).2
  have he : (t.toList == []) = false := by
    rw [Lib.toList_data, beq_eq_false_iff_ne]
    intro h
    have : t.data.toList.length = 0 := by rw [h]; rfl
    rw [Array.length_toList] at this
    have h2 : t.size = t.data.size := rfl
    omega
  rw [byteAt_lt hlen] at h0
  have d1 : ((t[0].toNat : Int) == 91) = true := by simp at h0; simp; omega
  clear h0
  go_enter Tryd.func52, Tryd.ntmps52
  go_wp2_with (go_at_call 51; refine k'.mono ?_; rintro x w2 ⟨rfl, hw2⟩)
  go_ret
  exact ⟨by simp, hw2.alloc hw2.size _⟩
end Go.Proofs.YtakcckdnliiieaaDoor

/- many: so many bytes that are the same. -/
namespace Go.Proofs.YtakcckdnliiieaaDoor
open Go Go.RowKit
def mixd (b n k : Nat) : Array Value := (List.replicate k (nb b) ++ List.replicate (n - k) (nb 0)).toArray
theorem mixd_size {b n k : Nat} (hk : k ≤ n) : (mixd b n k).size = n := by simp [mixd]; omega
theorem mixd_set {b n k : Nat} (hk : k < n) : (mixd b n k).setIfInBounds k (nb b) = mixd b n (k + 1) := by
  unfold mixd
  simp only [List.setIfInBounds_toArray]
  congr 1
  apply List.ext_getElem?
  intro i
  rw [List.getElem?_set]
  by_cases h : k = i
  · subst h
    rw [if_pos rfl, if_pos (by simp; omega), List.getElem?_append_left (by simp), List.getElem?_replicate, if_pos (by omega)]
  · rw [if_neg h]
    rcases Nat.lt_or_ge i k with h1 | h1
    · rw [List.getElem?_append_left (by simpa using h1), List.getElem?_append_left (by simp; omega), List.getElem?_replicate, List.getElem?_replicate, if_pos h1, if_pos (by omega)]
    · rw [List.getElem?_append_right (by simpa using h1), List.getElem?_append_right (by simp; omega), List.getElem?_replicate, List.getElem?_replicate]
      simp only [List.length_replicate]
      by_cases h2 : i < n
      · rw [if_pos (by omega), if_pos (by omega)]
      · rw [if_neg (by omega), if_neg (by omega)]
theorem mixd_at {b n k : Nat} (hk : k < n) : ∃ v, (mixd b n k)[k]? = some v := ⟨_, Array.getElem?_eq_getElem (by rw [mixd_size (by omega)]; exact hk)⟩
theorem made_mixd (b n : Nat) : madeCells (Value.int .u8 0).cells (n * 1) = mixd b n 0 := by
  apply Array.ext
  · rw [size_madeCells, mixd_size (by omega)]; omega
  · intro i h1 h2
    simp [madeCells, mixd, Value.cells, nb, Nat.mod_one]
theorem own_mixd {b n g base : Nat} {w : World} (h : Blk w g 5 (mixd b n n)) (hb : base ≤ g) (hn : n ≤ 1000) : w.ownsRow base 5 1 (.slice (some ⟨g, 0, none⟩) n n) n ((List.replicate n b).map nb) := by
  refine ⟨by simp, .inr ⟨g, n, mixd b n n, rfl, hb, h, Nat.le_refl _, by unfold maxLen; omega, by rw [mixd_size (Nat.le_refl _)]; omega, ?_⟩⟩
  simp [mixd]
set_option maxRecDepth 100000 in
set_option maxHeartbeats 1000000 in
theorem many_any {b n : Nat} (hb : b < 256) (hn : n ≤ 1000) (w : World) :
    Calls Tryd.prog 53 #[.int .u8 (b : Int), .int .i64 (n : Int)] w (Ret (strV (List.replicate n (UInt8.ofNat b))) w) := by
  obtain ⟨i0, hi, hz0, hz1, hz2⟩ := info_parts Tryd.info5
  have hmk := run_make (P := Tryd.prog) w 41 5 i0 (.int .u8 0) Tryd.underlying41 hi hz0 .i64 .i64 n n (by omega) (Int.le_refl _) (by rw [hz2]; omega) (by omega)
  simp only [Int.toNat_natCast, hz1] at hmk
  rw [made_mixd b n] at hmk
  clear hi hz0 hz1 hz2
  go_enter Tryd.func53, Tryd.ntmps53
  go_wp2_with fail
  have hB0 : Blk (w.alloc (.cells (mixd b n 0) 5)) w.heap.size 5 (mixd b n 0) := Blk.new w 5 _
  have hb0 : Below w.heap.size w (w.alloc (.cells (mixd b n 0) 5)) := (Below.refl _ w).alloc (Nat.le_refl _) _
  go_loopw [6] (fun j wr => ∃ k : Nat, j = .int .i64 (k : Int) ∧ k ≤ n ∧ Blk wr w.heap.size 5 (mixd b n k) ∧ Below w.heap.size w wr) (fun j _ => n - (intOf j).toNat)
  case atStart => exact ⟨0, rfl, by omega, hB0, hb0⟩
  case round =>
    clear hB0 hb0 hmk
    obtain ⟨k, rfl, hk, hB, hbl⟩ := hrel
    by_cases hlt : k < n
    · obtain ⟨v, hv⟩ := @mixd_at b n k hlt
      have hc : wr.cell? ⟨w.heap.size, k, none⟩ = some v := by rw [hB.cell]; exact hv
      have hf := hB.free k
      have d1 : decide (k < n) = true := decide_eq_true hlt
      have HM : Hid (mixd b n (k + 1) = (mixd b n k).setIfInBounds k (nb b)) := Lib.hid (mixd_set hlt).symm
      clear hv
      go_wp2
      go_roundw
      case rel => exact ⟨k + 1, by go_num, by omega, by rw [HM.out]; exact hB.set k _, hbl.setCell (Nat.le_refl _) _⟩
      case measure => simp [intOf]; omega
    · obtain rfl : k = n := by omega
      have hrow := own_mixd hB (Nat.le_refl _) hn
      have hcv := run_convert_own (P := Tryd.prog) (List.replicate k b) Tryd.underlying41 Tryd.underlying5 Tryd.underlying9 hrow
      rw [List.map_replicate] at hcv
      have d1 : decide (k < k) = false := decide_eq_false hlt
      clear hrow
      go_wp2
      go_ret
      exact ⟨rfl, hbl⟩
end Go.Proofs.YtakcckdnliiieaaDoor

/- awake: the examples of the laws of quote. -/
namespace Go.Proofs.YtakcckdnliiieaaDoor
open Go Go.RowKit
attribute [local go_sem] Oper.quietAt Oper.quietUpon
theorem awake_facts : unclsP ⟨#[91, 94, 97, 93]⟩ = ((BS.ofBytes [97]).not, 4, 0) ∧ litB [97, 34, 10, 0] = [34, 97, 92, 34, 92, 110, 92, 120, 48, 48, 34] ∧ unlitP ⟨#[34, 92, 120, 52, 65, 34, 120]⟩ = ([74], 6, 0) ∧
    classB (BS.ofBytes [97, 98, 99, 100, 45]) = [91, 92, 45, 97, 45, 100, 93] ∧ classB (BS.ofBytes [97, 98]) = [91, 97, 98, 93] ∧ classB BS.zero = [91, 93] ∧ classB BS.full = [46] ∧
    unclsP ⟨#[91, 98, 45, 97, 93]⟩ = (BS.zero, 1, 4) ∧ unclsP ⟨#[91, 97]⟩ = (BS.zero, 2, 8) ∧ unclsP ⟨#[91, 97, 94, 93]⟩ = (BS.zero, 2, 4) := by decide +kernel
theorem class_str {s : BS} {l : List UInt8} (A : ByteArray) (h : classB s = l) (hA : strV l = .string A) (w : World) (he : Env w) : Calls Tryd.prog 48 #[.agg s.cells] w (Ret (.string A) w) := by
  have := class_any s w he
  rw [h, hA] at this
  exact this
theorem setOf_set {s : BS} (A : ByteArray) (h : BS.ofBytes A.data.toList = s) (hs : A.size ≤ 1000000) (w : World) : Calls Tryd.prog 18 #[.string A] w (Ret (.agg s.cells) w) := by
  have := setOf_any A w (by omega)
  rwa [h] at this
set_option maxRecDepth 100000 in
set_option maxHeartbeats 2000000 in
theorem awake3_any (w : World) (he : Env w) : Calls Tryd.prog 46 #[] w (Ret (.bool true) w) := by
  obtain ⟨a1, a2, a3, a4, a5, a6, a7, a8, a9, a10⟩ := awake_facts
  obtain ⟨S1, hS1⟩ : ∃ S, S = BS.ofBytes [97] := ⟨_, rfl⟩
  obtain ⟨S2, hS2⟩ : ∃ S, S = BS.ofBytes [97, 98, 99, 100, 45] := ⟨_, rfl⟩
  obtain ⟨S3, hS3⟩ : ∃ S, S = BS.ofBytes [97, 98] := ⟨_, rfl⟩
  rw [← hS1] at a1
  rw [← hS2] at a4
  rw [← hS3] at a5
  have k51 : Calls Tryd.prog 51 #[.string ⟨#[91, 94, 97, 93]⟩] w (Ret (.tuple #[.agg S1.not.cells, .int .i64 4, .int .i64 0]) w) := by
    have := @unclass_any ⟨#[91, 94, 97, 93]⟩ w (by show 4 ≤ _; omega)
    rw [a1] at this; exact this
  have c47 : ∀ w, Calls Tryd.prog 47 #[.string ⟨#[97, 34, 10, 0]⟩] w (Ret (.string ⟨#[34, 97, 92, 34, 92, 110, 92, 120, 48, 48, 34]⟩) w) := fun w => by
    have := literal_any ⟨#[97, 34, 10, 0]⟩ w (by show 4 ≤ _; omega)
    rw [show litB (ByteArray.mk #[97, 34, 10, 0]).data.toList = _ from a2] at this; exact this
  have c49 : ∀ w, Calls Tryd.prog 49 #[.string ⟨#[34, 92, 120, 52, 65, 34, 120]⟩, .string ⟨#[74]⟩, .int .i64 6] w (Ret (.bool true) w) := fun w => text_yes (n := 6) (by show 7 ≤ _; omega) a3 w
  have c18a : ∀ w, Calls Tryd.prog 18 #[.string ⟨#[97, 98, 99, 100, 45]⟩] w (Ret (.agg S2.cells) w) := setOf_set _ hS2.symm (by show 5 ≤ _; omega)
  have c18b : ∀ w, Calls Tryd.prog 18 #[.string ⟨#[97, 98]⟩] w (Ret (.agg S3.cells) w) := setOf_set _ hS3.symm (by show 2 ≤ _; omega)
  have c18c : ∀ w, Calls Tryd.prog 18 #[.string ⟨#[97]⟩] w (Ret (.agg S1.cells) w) := setOf_set _ hS1.symm (by show 1 ≤ _; omega)
  have c48a : ∀ w, Env w → Calls Tryd.prog 48 #[.agg S2.cells] w (Ret (.string ⟨#[91, 92, 45, 97, 45, 100, 93]⟩) w) := class_str _ a4 rfl
  have c48b : ∀ w, Env w → Calls Tryd.prog 48 #[.agg S3.cells] w (Ret (.string ⟨#[91, 97, 98, 93]⟩) w) := class_str _ a5 rfl
  have c48c : ∀ w, Env w → Calls Tryd.prog 48 #[.agg BS.zero.cells] w (Ret (.string ⟨#[91, 93]⟩) w) := class_str _ a6 rfl
  have c48d : ∀ w, Env w → Calls Tryd.prog 48 #[.agg BS.full.cells] w (Ret (.string ⟨#[46]⟩) w) := class_str _ a7 rfl
  have c52a : ∀ w, Calls Tryd.prog 52 #[.string ⟨#[91, 98, 45, 97, 93]⟩, .int .i64 1, .int .i64 4] w (Ret (.bool true) w) := fun w => wrong_cls (n := 1) (e := 4) (by show 5 ≤ _; omega) rfl a8 w
  have c52b : ∀ w, Calls Tryd.prog 52 #[.string ⟨#[91, 97]⟩, .int .i64 2, .int .i64 8] w (Ret (.bool true) w) := fun w => wrong_cls (n := 2) (e := 8) (by show 2 ≤ _; omega) rfl a9 w
  have c52c : ∀ w, Calls Tryd.prog 52 #[.string ⟨#[91, 97, 94, 93]⟩, .int .i64 2, .int .i64 4] w (Ret (.bool true) w) := fun w => wrong_cls (n := 2) (e := 4) (by show 4 ≤ _; omega) rfl a10 w
  clear a1 a2 a3 a4 a5 a6 a7 a8 a9 a10 hS1 hS2 hS3
  go_enter Tryd.func46, Tryd.ntmps46
  go_upto_region 2 with (go_at_call 51; refine k51.mono ?_; rintro x w2 ⟨rfl, hw2⟩)
  have hX := Blk.new w2 24 S1.not.cells
  have hb := (hw2.alloc hw2.size (.cells S1.not.cells 24))
  have he2 := (he.lies hw2).alloc (.cells S1.not.cells 24)
  have hcX := hX.cell
  have hlX := hX.lt
  clear k51
  (refine wp_region_quiet_all (C := Lies _) (by kernel_rfl) (by kernel_rfl) (Lies.drew (Lies.start _)) ?_; (repeat (first | (refine quiet_skip rfl ?_; simp only [Act.put, List.setIfInBounds_toArray, List.set_cons_zero, List.set_cons_succ]) | (apply quiet_op _ rfl; (focus (intro w1 hw1; have hc1 := hw1.cells; go_simp; (try go_bits); (try (rw [if_pos (by omega)]; go_simp)); first | (go_at_call 47; with_reducible exact Calls.lies hw1 (c47 _)) | (go_at_call 49; with_reducible exact Calls.lies hw1 (c49 _)) | (go_at_call 18; with_reducible exact Calls.lies hw1 (c18a _)) | (go_at_call 18; with_reducible exact Calls.lies hw1 (c18b _)) | (go_at_call 18; with_reducible exact Calls.lies hw1 (c18c _)) | (go_at_call 48; with_reducible exact Calls.lies hw1 (c48a _ (he2.lies hw1))) | (go_at_call 48; with_reducible exact Calls.lies hw1 (c48b _ (he2.lies hw1))) | (go_at_call 48; with_reducible exact Calls.lies hw1 (c48c _ (he2.lies hw1))) | (go_at_call 48; with_reducible exact Calls.lies hw1 (c48d _ (he2.lies hw1))) | (go_at_call 31; with_reducible exact Calls.lies hw1 (all_any _)) | (go_at_call 30; with_reducible exact Calls.lies hw1 (not_any S1 _)) | (go_at_call 52; with_reducible exact Calls.lies hw1 (c52a _)) | (go_at_call 52; with_reducible exact Calls.lies hw1 (c52b _)) | (go_at_call 52; with_reducible exact Calls.lies hw1 (c52c _)) | (go_at_call 47; exact Calls.lies hw1 (c47 _)) | (go_at_call 49; exact Calls.lies hw1 (c49 _)) | (go_at_call 18; exact Calls.lies hw1 (c18a _)) | (go_at_call 18; exact Calls.lies hw1 (c18b _)) | (go_at_call 18; exact Calls.lies hw1 (c18c _)) | (go_at_call 48; exact Calls.lies hw1 (c48a _ (he2.lies hw1))) | (go_at_call 48; exact Calls.lies hw1 (c48b _ (he2.lies hw1))) | (go_at_call 48; exact Calls.lies hw1 (c48c _ (he2.lies hw1))) | (go_at_call 48; exact Calls.lies hw1 (c48d _ (he2.lies hw1))) | (go_at_call 31; exact Calls.lies hw1 (all_any _)) | (go_at_call 30; exact Calls.lies hw1 (not_any S1 _)) | (go_at_call 52; exact Calls.lies hw1 (c52a _)) | (go_at_call 52; exact Calls.lies hw1 (c52b _)) | (go_at_call 52; exact Calls.lies hw1 (c52c _)) | rfl)); simp only [Act.put, List.setIfInBounds_toArray, List.set_cons_zero, List.set_cons_succ]))); refine wpQuiet_nil ?_; intro w3 hw3)
  go_wp2
  go_ret
  exact ⟨by simp, Lies.below hw3 hb.size hb⟩
end Go.Proofs.YtakcckdnliiieaaDoor
