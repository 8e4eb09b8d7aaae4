/- many: so many bytes that are the same. -/
import Derived.Test.YtakcckdnliiieaaDoorQ20
import Derived.Laws.MakeOwn
namespace Go.Proofs.YtakcckdnliiieaaDoor
open Go Go.RowKit
def mixd (b n k : Nat) : Array Value := (List.replicate k (nb b) ++ List.replicate (n - k) (nb 0)).toArray
theorem mixd_size {b n k : Nat} (hk : k ≤ n) : (mixd b n k).size = n := by simp [mixd]; omega
theorem mixd_set {b n k : Nat} (hk : k < n) : (mixd b n k).setIfInBounds k (nb b) = mixd b n (k + 1) := by
  unfold mixd
  simp only [List.setIfInBounds_toArray]
  congr 1
  apply List.ext_getElem?
  intro i
  rw [List.getElem?_set]
  by_cases h : k = i
  · subst h
    rw [if_pos rfl, if_pos (by simp; omega), List.getElem?_append_left (by simp), List.getElem?_replicate, if_pos (by omega)]
  · rw [if_neg h]
    rcases Nat.lt_or_ge i k with h1 | h1
    · rw [List.getElem?_append_left (by simpa using h1), List.getElem?_append_left (by simp; omega), List.getElem?_replicate, List.getElem?_replicate, if_pos h1, if_pos (by omega)]
    · rw [List.getElem?_append_right (by simpa using h1), List.getElem?_append_right (by simp; omega), List.getElem?_replicate, List.getElem?_replicate]
      simp only [List.length_replicate]
      by_cases h2 : i < n
      · rw [if_pos (by omega), if_pos (by omega)]
      · rw [if_neg (by omega), if_neg (by omega)]
theorem mixd_at {b n k : Nat} (hk : k < n) : ∃ v, (mixd b n k)[k]? = some v := ⟨_, Array.getElem?_eq_getElem (by rw [mixd_size (by omega)]; exact hk)⟩
theorem made_mixd (b n : Nat) : madeCells (Value.int .u8 0).cells (n * 1) = mixd b n 0 := by
  apply Array.ext
  · rw [size_madeCells, mixd_size (by omega)]; omega
  · intro i h1 h2
    simp [madeCells, mixd, Value.cells, nb, Nat.mod_one]
theorem own_mixd {b n g base : Nat} {w : World} (h : Blk w g 5 (mixd b n n)) (hb : base ≤ g) (hn : n ≤ 1000) : w.ownsRow base 5 1 (.slice (some ⟨g, 0, none⟩) n n) n ((List.replicate n b).map nb) := by
  refine ⟨by simp, .inr ⟨g, n, mixd b n n, rfl, hb, h, Nat.le_refl _, by unfold maxLen; omega, by rw [mixd_size (Nat.le_refl _)]; omega, ?_⟩⟩
  simp [mixd]
set_option maxRecDepth 100000 in
set_option maxHeartbeats 1000000 in
theorem many_any {b n : Nat} (hb : b < 256) (hn : n ≤ 1000) (w : World) :
    Calls Tryd.prog 53 #[.int .u8 (b : Int), .int .i64 (n : Int)] w (Ret (strV (List.replicate n (UInt8.ofNat b))) w) := by
  obtain ⟨i0, hi, hz0, hz1, hz2⟩ := info_parts Tryd.info5
  have hmk := run_make (P := Tryd.prog) w 41 5 i0 (.int .u8 0) Tryd.underlying41 hi hz0 .i64 .i64 n n (by omega) (Int.le_refl _) (by rw [hz2]; omega) (by omega)
  simp only [Int.toNat_natCast, hz1] at hmk
  rw [made_mixd b n] at hmk
  clear hi hz0 hz1 hz2
  go_enter Tryd.func53, Tryd.ntmps53
  go_wp2_with fail
  have hB0 : Blk (w.alloc (.cells (mixd b n 0) 5)) w.heap.size 5 (mixd b n 0) := Blk.new w 5 _
  have hb0 : Below w.heap.size w (w.alloc (.cells (mixd b n 0) 5)) := (Below.refl _ w).alloc (Nat.le_refl _) _
  go_loopw [6] (fun j wr => ∃ k : Nat, j = .int .i64 (k : Int) ∧ k ≤ n ∧ Blk wr w.heap.size 5 (mixd b n k) ∧ Below w.heap.size w wr) (fun j _ => n - (intOf j).toNat)
  case atStart => exact ⟨0, rfl, by omega, hB0, hb0⟩
  case round =>
    clear hB0 hb0 hmk
    obtain ⟨k, rfl, hk, hB, hbl⟩ := hrel
    by_cases hlt : k < n
    · obtain ⟨v, hv⟩ := @mixd_at b n k hlt
      have hc : wr.cell? ⟨w.heap.size, k, none⟩ = some v := by rw [hB.cell]; exact hv
      have hf := hB.free k
      have d1 : decide (k < n) = true := decide_eq_true hlt
      have HM : Hid (mixd b n (k + 1) = (mixd b n k).setIfInBounds k (nb b)) := Lib.hid (mixd_set hlt).symm
      clear hv
      go_wp2
      go_roundw
      case rel => exact ⟨k + 1, by go_num, by omega, by rw [HM.out]; exact hB.set k _, hbl.setCell (Nat.le_refl _) _⟩
      case measure => simp [intOf]; omega
    · obtain rfl : k = n := by omega
      have hrow := own_mixd hB (Nat.le_refl _) hn
      have hcv := run_convert_own (P := Tryd.prog) (List.replicate k b) Tryd.underlying41 Tryd.underlying5 Tryd.underlying9 hrow
      rw [List.map_replicate] at hcv
      have d1 : decide (k < k) = false := decide_eq_false hlt
      clear hrow
      go_wp2
      go_ret
      exact ⟨rfl, hbl⟩
end Go.Proofs.YtakcckdnliiieaaDoor
