/- Only and Compare of the reference. -/
import Derived.Test.YtakcckdnliiieaaDoorSet3
namespace Go.Proofs.YtakcckdnliiieaaDoor
open Go Go.RowKit
attribute [local go_sem] Oper.quietAt Oper.quietUpon
def BS.only (s : BS) : Nat × Bool := match s.list with | [n] => (n, true) | _ => (0, false)
theorem BS.only_no {s : BS} (h : s.len ≠ 1) : s.only = (0, false) := by
  unfold BS.only
  unfold BS.len at h
  split
  · rename_i n hn; rw [hn] at h; simp at h
  · rfl
theorem BS.only_yes {s : BS} (h : s.len = 1) : ∃ n, s.list = [n] ∧ n < 256 ∧ s.only = (n, true) := by
  unfold BS.len at h
  match hl : s.list with
  | [n] => exact ⟨n, rfl, ((BS.mem_list s n).1 (by rw [hl]; simp)).1, by unfold BS.only; rw [hl]⟩
  | [] => rw [hl] at h; simp at h
  | a :: b :: l => rw [hl] at h; simp at h
/-- The reference's List, its string a name. -/
theorem refList_str (s : BS) (A : ByteArray) (hA : A = ⟨s.bytes.toArray⟩) (w : World) : Calls Tryd.prog 27 #[.agg s.cells] w (Ret (.string A) w) := by
  subst hA; exact refList_any s w
theorem size_str {s : BS} {A : ByteArray} (hA : A = ⟨s.bytes.toArray⟩) : A.size = s.len := by
  subst hA; show s.bytes.toArray.size = _; simp [BS.bytes_length]
set_option maxHeartbeats 1000000 in
theorem refOnly_any (s : BS) (w : World) :
    Calls Tryd.prog 17 #[.agg s.cells] w (Ret (.tuple #[.int .u8 (s.only.1 : Int), .bool s.only.2]) w) := by
  obtain ⟨A, hA⟩ : ∃ A : ByteArray, A = ⟨s.bytes.toArray⟩ := ⟨_, rfl⟩
  have hsz := size_str hA
  by_cases h : s.len = 1
  · obtain ⟨n, hl, hn, ho⟩ := BS.only_yes h
    rw [ho]
    have h1 : 0 < A.size := by omega
    have h2 : ((A.size : Int) != 1) = false := by rw [hsz, h]; rfl
    have hb : (A[0]).toNat = n := by subst hA; show ((s.bytes.toArray)[0]).toNat = n; simp [BS.bytes, hl]; omega
    have hA' := Lib.hid hA
    have hb' := Lib.hid hb
    clear hsz hA h hb hl ho
    go_enter Tryd.func17, Tryd.ntmps17
    go_wp2_with (go_at_call 27; refine (refList_str s A hA'.out _).mono ?_; rintro e w2 ⟨rfl, hw2⟩)
    go_ret2
    refine ⟨?_, Lies.below hw2 (by simp) (by (repeat' first | exact Below.refl _ _ | assumption | refine Below.alloc ?_ (by simp <;> omega) _ | refine Below.setCell ?_ (by simp <;> omega) _ | refine Below.drew ?_))⟩
    rw [← hb'.out]; rfl
  · rw [BS.only_no h]
    have h2 : ((A.size : Int) != 1) = true := by rw [hsz, bne_iff_ne]; omega
    have hA' := Lib.hid hA
    clear hsz hA
    go_enter Tryd.func17, Tryd.ntmps17
    go_wp2_with (go_at_call 27; refine (refList_str s A hA'.out _).mono ?_; rintro e w2 ⟨rfl, hw2⟩)
    go_ret2
    exact ⟨rfl, Lies.below hw2 (by simp) (by (repeat' first | exact Below.refl _ _ | assumption | refine Below.alloc ?_ (by simp <;> omega) _ | refine Below.setCell ?_ (by simp <;> omega) _ | refine Below.drew ?_))⟩

/-- How two texts stand. -/
def cmpL : List UInt8 → List UInt8 → Int
  | [], [] => 0
  | [], _ :: _ => -1
  | _ :: _, [] => 1
  | a :: l, b :: m => if a < b then -1 else if b < a then 1 else cmpL l m
theorem cmpL_lt : ∀ (l m : List UInt8), Op.bytesLess l m = decide (cmpL l m = -1)
  | [], [] => by simp [Op.bytesLess, cmpL]
  | [], b :: m => by simp [Op.bytesLess, cmpL]
  | a :: l, [] => by simp [Op.bytesLess, cmpL]
  | a :: l, b :: m => by
    have ih := cmpL_lt l m
    simp only [Op.bytesLess, cmpL, ih]
    by_cases h1 : a < b
    · simp [h1]
    · by_cases h2 : b < a
      · have : ¬ a = b := by rintro rfl; exact h1 h2
        simp [h1, h2, this]
      · have : a = b := UInt8.le_antisymm (UInt8.not_lt.1 h2) (UInt8.not_lt.1 h1)
        simp [h1, h2, this]
theorem cmpL_eq : ∀ (l m : List UInt8), cmpL l m = 0 ↔ l = m
  | [], [] => by simp [cmpL]
  | [], b :: m => by simp [cmpL]
  | a :: l, [] => by simp [cmpL]
  | a :: l, b :: m => by
    have ih := cmpL_eq l m
    simp only [cmpL]
    by_cases h1 : a < b
    · have : ¬ a = b := by rintro rfl; exact UInt8.lt_irrefl _ h1
      simp [h1, this]
    · by_cases h2 : b < a
      · have : ¬ a = b := by rintro rfl; exact h1 h2
        simp [h1, h2, this]
      · have : a = b := UInt8.le_antisymm (UInt8.not_lt.1 h2) (UInt8.not_lt.1 h1)
        simp [h1, h2, this, ih]
theorem cmpL_three : ∀ (l m : List UInt8), cmpL l m = -1 ∨ cmpL l m = 0 ∨ cmpL l m = 1
  | [], [] => by simp [cmpL]
  | [], b :: m => by simp [cmpL]
  | a :: l, [] => by simp [cmpL]
  | a :: l, b :: m => by
    have ih := cmpL_three l m
    simp only [cmpL]
    split
    · simp
    · split
      · simp
      · exact ih
theorem cmpL_swap : ∀ (l m : List UInt8), cmpL m l = - cmpL l m
  | [], [] => by simp [cmpL]
  | [], b :: m => by simp [cmpL]
  | a :: l, [] => by simp [cmpL]
  | a :: l, b :: m => by
    have ih := cmpL_swap l m
    simp only [cmpL]
    by_cases h1 : a < b
    · have h2 : ¬ b < a := fun h => UInt8.lt_irrefl _ (UInt8.lt_trans h1 h)
      simp [h1, h2]
    · by_cases h2 : b < a
      · simp [h1, h2]
      · simp [h1, h2, ih]
theorem drop_byte (A : ByteArray) (k : Nat) (h : k < A.size) : A.data.toList.drop k = A[k] :: A.data.toList.drop (k + 1) := by
  rw [List.drop_eq_getElem_cons (by simpa using h)]; rfl
theorem drop_end (A : ByteArray) (k : Nat) (h : A.size ≤ k) : A.data.toList.drop k = [] :=
  List.drop_eq_nil_of_le (by rw [Array.length_toList]; exact h)
def BS.cmp (s t : BS) : Int := cmpL s.bytes t.bytes
set_option maxRecDepth 100000 in
set_option maxHeartbeats 2000000 in
theorem refCompare_any (s t : BS) (w : World) :
    Calls Tryd.prog 45 #[.agg s.cells, .agg t.cells] w (Ret (.int .i64 (s.cmp t)) w) := by
  obtain ⟨A, hA⟩ : ∃ A : ByteArray, A = ⟨s.bytes.toArray⟩ := ⟨_, rfl⟩
  obtain ⟨B, hB⟩ : ∃ B : ByteArray, B = ⟨t.bytes.toArray⟩ := ⟨_, rfl⟩
  have hsA : A.size ≤ 256 := by rw [size_str hA]; exact BS.len_le s
  have hsB : B.size ≤ 256 := by rw [size_str hB]; exact BS.len_le t
  have HA := Lib.hid hA
  have HB := Lib.hid hB
  have hcmp : s.cmp t = cmpL A.data.toList B.data.toList := by rw [hA, hB]; rfl
  rw [hcmp]
  clear hA hB hcmp
  go_enter Tryd.func45, Tryd.ntmps45
  go_upto_region 1 with (fail)
  (refine wp_region_quiet_all (C := Lies _) (by kernel_rfl) (by kernel_rfl) (Lies.drew (Lies.start _)) ?_; (repeat (first | (refine quiet_skip rfl ?_; simp only [Act.put, List.setIfInBounds_toArray, List.set_cons_zero, List.set_cons_succ]) | (apply quiet_op _ rfl; (focus (intro w1 hw1; have hc1 := hw1.cells; go_simp; (try go_bits); (try (rw [if_pos (by omega)]; go_simp)); first | (go_at_call 27; with_reducible exact Calls.lies hw1 (refList_str s A HA.out _)) | (go_at_call 27; with_reducible exact Calls.lies hw1 (refList_str t B HB.out _)) | (go_at_call 27; exact Calls.lies hw1 (refList_str s A HA.out _)) | (go_at_call 27; exact Calls.lies hw1 (refList_str t B HB.out _)) | rfl)); simp only [Act.put, List.setIfInBounds_toArray, List.set_cons_zero, List.set_cons_succ]))); refine wpQuiet_nil ?_; intro w2 hw2)
  have hb2 : Below w.heap.size w w2 := Lies.below hw2 (by simp <;> omega) (by (repeat' first | exact Below.refl _ _ | assumption | refine Below.alloc ?_ (by simp <;> omega) _ | refine Below.setCell ?_ (by simp <;> omega) _ | refine Below.drew ?_))
  go_wp2_with fail
  go_loopw [7] (fun i wr => Below w.heap.size w wr ∧ ∃ k : Nat, k ≤ A.size ∧ k ≤ B.size ∧ i = .int .i64 (k : Int) ∧ Hid (cmpL A.data.toList B.data.toList = cmpL (A.data.toList.drop k) (B.data.toList.drop k))) (fun i _ => A.size - (intOf i).toNat)
  case atStart => exact ⟨hb2, 0, by omega, by omega, rfl, Lib.hid rfl⟩
  case round =>
    obtain ⟨hbr, k, hkA, hkB, rfl, hc⟩ := hrel
    by_cases h1 : k < A.size
    · have hd1 : decide ((k : Int) < (A.size : Int)) = true := by simp; omega
      by_cases h2 : k < B.size
      · have hd2 : decide ((k : Int) < (B.size : Int)) = true := by simp; omega
        have hdA : A.data.toList.drop k = A[k] :: A.data.toList.drop (k + 1) := by rw [List.drop_eq_getElem_cons (by simpa using h1)]; rfl
        have hdB : B.data.toList.drop k = B[k] :: B.data.toList.drop (k + 1) := by rw [List.drop_eq_getElem_cons (by simpa using h2)]; rfl
        have hc' : Hid (cmpL A.data.toList B.data.toList = if A[k] < B[k] then -1 else if B[k] < A[k] then 1 else cmpL (A.data.toList.drop (k + 1)) (B.data.toList.drop (k + 1))) := by
          rw [hc.out, hdA, hdB]; rfl
        clear hdA hdB hc
        by_cases h3 : A[k].toNat < B[k].toNat
        · have hd3 : decide ((A[k].toNat : Int) < (B[k].toNat : Int)) = true := by simp; omega
          go_upto_region 5 with (fail)
          (refine wp_region_quiet_all (C := Lies _) (by kernel_rfl) (by kernel_rfl) (Lies.drew (Lies.start _)) ?_; (repeat (first | (refine quiet_skip rfl ?_; simp only [Act.put, List.setIfInBounds_toArray, List.set_cons_zero, List.set_cons_succ]) | (apply quiet_op _ rfl; (focus (intro w1 hw1; have hc1 := hw1.cells; go_simp; (try go_bits); (try (rw [if_pos (by omega)]; go_simp)); first | rfl)); simp only [Act.put, List.setIfInBounds_toArray, List.set_cons_zero, List.set_cons_succ]))); refine wpQuiet_nil ?_; intro w3 hw3)
          go_wp2
          go_ret
          refine ⟨?_, Lies.below hw3 hbr.size hbr⟩
          rw [hc'.out, if_pos (UInt8.lt_iff_toNat_lt.2 h3)]; rfl
        · have hd3 : decide ((A[k].toNat : Int) < (B[k].toNat : Int)) = false := by simp; omega
          by_cases h4 : B[k].toNat < A[k].toNat
          · have hd4 : decide ((B[k].toNat : Int) < (A[k].toNat : Int)) = true := by simp; omega
            go_upto_region 5 with (fail)
            (refine wp_region_quiet_all (C := Lies _) (by kernel_rfl) (by kernel_rfl) (Lies.drew (Lies.start _)) ?_; (repeat (first | (refine quiet_skip rfl ?_; simp only [Act.put, List.setIfInBounds_toArray, List.set_cons_zero, List.set_cons_succ]) | (apply quiet_op _ rfl; (focus (intro w1 hw1; have hc1 := hw1.cells; go_simp; (try go_bits); (try (rw [if_pos (by omega)]; go_simp)); first | rfl)); simp only [Act.put, List.setIfInBounds_toArray, List.set_cons_zero, List.set_cons_succ]))); refine wpQuiet_nil ?_; intro w3 hw3)
            go_upto_region 7 with (fail)
            (refine wp_region_quiet_all (C := Lies _) (by kernel_rfl) (by kernel_rfl) (Lies.drew (Lies.start _)) ?_; (repeat (first | (refine quiet_skip rfl ?_; simp only [Act.put, List.setIfInBounds_toArray, List.set_cons_zero, List.set_cons_succ]) | (apply quiet_op _ rfl; (focus (intro w1 hw1; have hc1 := hw1.cells; go_simp; (try go_bits); (try (rw [if_pos (by omega)]; go_simp)); first | rfl)); simp only [Act.put, List.setIfInBounds_toArray, List.set_cons_zero, List.set_cons_succ]))); refine wpQuiet_nil ?_; intro w4 hw4)
            go_wp2
            go_ret
            refine ⟨?_, Lies.below hw4 (Lies.below hw3 hbr.size hbr).size (Lies.below hw3 hbr.size hbr)⟩
            rw [hc'.out, if_neg (fun h => h3 (UInt8.lt_iff_toNat_lt.1 h)), if_pos (UInt8.lt_iff_toNat_lt.2 h4)]; rfl
          · have hd4 : decide ((B[k].toNat : Int) < (A[k].toNat : Int)) = false := by simp; omega
            go_upto_region 5 with (fail)
            (refine wp_region_quiet_all (C := Lies _) (by kernel_rfl) (by kernel_rfl) (Lies.drew (Lies.start _)) ?_; (repeat (first | (refine quiet_skip rfl ?_; simp only [Act.put, List.setIfInBounds_toArray, List.set_cons_zero, List.set_cons_succ]) | (apply quiet_op _ rfl; (focus (intro w1 hw1; have hc1 := hw1.cells; go_simp; (try go_bits); (try (rw [if_pos (by omega)]; go_simp)); first | rfl)); simp only [Act.put, List.setIfInBounds_toArray, List.set_cons_zero, List.set_cons_succ]))); refine wpQuiet_nil ?_; intro w3 hw3)
            go_upto_region 7 with (fail)
            (refine wp_region_quiet_all (C := Lies _) (by kernel_rfl) (by kernel_rfl) (Lies.drew (Lies.start _)) ?_; (repeat (first | (refine quiet_skip rfl ?_; simp only [Act.put, List.setIfInBounds_toArray, List.set_cons_zero, List.set_cons_succ]) | (apply quiet_op _ rfl; (focus (intro w1 hw1; have hc1 := hw1.cells; go_simp; (try go_bits); (try (rw [if_pos (by omega)]; go_simp)); first | rfl)); simp only [Act.put, List.setIfInBounds_toArray, List.set_cons_zero, List.set_cons_succ]))); refine wpQuiet_nil ?_; intro w4 hw4)
            go_wp2
            go_roundw
            case rel => exact ⟨Lies.below hw4 (Lies.below hw3 hbr.size hbr).size (Lies.below hw3 hbr.size hbr), k + 1, by omega, by omega, by go_num, Lib.hid (by rw [hc'.out, if_neg (fun h => h3 (UInt8.lt_iff_toNat_lt.1 h)), if_neg (fun h => h4 (UInt8.lt_iff_toNat_lt.1 h))])⟩
            case measure => simp [intOf]; omega
      · have hd2 : decide ((k : Int) < (B.size : Int)) = false := by simp; omega
        have hk : k = B.size := by omega
        have hc' : Hid (cmpL A.data.toList B.data.toList = 1) := by
          rw [hc.out, drop_byte A k h1, drop_end B k (by omega)]; rfl
        have hd3 : decide ((A.size : Int) < (B.size : Int)) = false := by simp; omega
        have hd4 : decide ((B.size : Int) < (A.size : Int)) = true := by simp; omega
        clear hc hk
        go_wp2
        go_ret
        refine ⟨?_, hbr⟩
        rw [hc'.out]; rfl
    · have hd1 : decide ((k : Int) < (A.size : Int)) = false := by simp; omega
      have hk : k = A.size := by omega
      by_cases h2 : A.size < B.size
      · have hc' : Hid (cmpL A.data.toList B.data.toList = -1) := by
          rw [hc.out, drop_end A k (by omega), drop_byte B k (by omega)]; rfl
        have hd3 : decide ((A.size : Int) < (B.size : Int)) = true := by simp; omega
        clear hc hk
        go_wp2
        go_ret
        refine ⟨?_, hbr⟩
        rw [hc'.out]; rfl
      · have hc' : Hid (cmpL A.data.toList B.data.toList = 0) := by
          rw [hc.out, drop_end A k (by omega), drop_end B k (by omega)]; rfl
        have hd3 : decide ((A.size : Int) < (B.size : Int)) = false := by simp; omega
        have hd4 : decide ((B.size : Int) < (A.size : Int)) = false := by simp; omega
        clear hc hk
        go_wp2
        go_ret
        refine ⟨?_, hbr⟩
        rw [hc'.out]; rfl
end Go.Proofs.YtakcckdnliiieaaDoor
