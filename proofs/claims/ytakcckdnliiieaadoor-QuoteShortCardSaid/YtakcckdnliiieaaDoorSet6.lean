/- set.each: the iterator over a set. -/
import Derived.Test.YtakcckdnliiieaaDoorSet5
import Derived.RangeFuncNested
import Derived.RangeFuncBound
import Derived.RangeFuncCalls
import Derived.RangeFuncLeaves
import Derived.Shelf.Abstract
import Derived.Shelf.RegionOpen
import Derived.WalkKit
import Derived.OwnWalkIn
import Derived.TacticsInMore
import Derived.LoopNIn
import Derived.LoopIn
namespace Go.Proofs.YtakcckdnliiieaaDoor
open Go Go.RowKit Go.Shelf
/-- A word but for its lowest bit. -/
def cutB (x : BitVec 64) : BitVec 64 := x &&& (x - 1#64)
theorem ctzW_form (x : BitVec 64) (hx : x ≠ 0) : ∃ m, x.toNat = 2 ^ ctzW x * (2 * m + 1) ∧ (cutB x).toNat = 2 ^ ctzW x * (2 * m) ∧ ctzW x < 64 := by
  have h0 : x.toNat ≠ 0 := fun h => hx (BitVec.eq_of_toNat_eq (by simpa using h))
  obtain ⟨m, hm, hk⟩ := Lib.ctzFrom_spec 64 x.toNat (by omega) x.isLt
  have hc : Lib.ctzFrom 64 x.toNat = ctzW x := by unfold ctzW Lib.ctz; rw [if_neg h0]
  rw [hc] at hm hk
  generalize ctzW x = k at *
  refine ⟨m, hm, ?_, hk⟩
  have hp : 0 < 2 ^ k := Nat.pow_pos (by decide)
  have hs : (x - 1#64).toNat = 2 ^ k * (2 * m) + (2 ^ k - 1) := by
    rw [BitVec.toNat_sub]
    have hl := x.isLt
    have h1 : 2 ^ k * (2 * m + 1) = 2 ^ k * (2 * m) + 2 ^ k := by rw [Nat.mul_add, Nat.mul_one]
    rw [h1] at hm
    simp only [BitVec.toNat_ofNat]
    omega
  unfold cutB
  rw [BitVec.toNat_and, hs, hm]
  apply Nat.eq_of_testBit_eq
  intro j
  rw [Nat.testBit_and, Nat.testBit_two_pow_mul_add _ (by omega), Nat.testBit_two_pow_mul, Nat.testBit_two_pow_mul]
  by_cases hj : j < k
  · have : ¬ k ≤ j := by omega
    simp [hj, this]
  · have h2 : k ≤ j := by omega
    simp only [hj, if_false, h2, decide_true, Bool.true_and]
    cases j - k with
    | zero => simp [Nat.testBit_zero]
    | succ i => rw [Nat.testBit_succ, Nat.testBit_succ]; simp [show (2 * m + 1) / 2 = m by omega, show 2 * m / 2 = m by omega]
theorem low_bits (x : BitVec 64) (hx : x ≠ 0) : ctzW x < 64 ∧ x.getLsbD (ctzW x) = true ∧ (∀ j, j < ctzW x → x.getLsbD j = false) ∧ (∀ j, (cutB x).getLsbD j = (x.getLsbD j && decide (ctzW x < j))) ∧ (cutB x).toNat < x.toNat := by
  obtain ⟨m, h1, h2, hk⟩ := ctzW_form x hx
  generalize ctzW x = k at *
  have hb : ∀ j, x.getLsbD j = (decide (k ≤ j) && (2 * m + 1).testBit (j - k)) := by
    intro j
    show x.toNat.testBit j = _; rw [h1, Nat.testBit_two_pow_mul]
  refine ⟨hk, ?_, ?_, ?_, ?_⟩
  · rw [hb]; simp
  · intro j hj; rw [hb]; simp; omega
  · intro j
    show (cutB x).toNat.testBit j = _; rw [hb, h2, Nat.testBit_two_pow_mul]
    by_cases hj : k ≤ j
    · obtain ⟨i, rfl⟩ : ∃ i, j = k + i := ⟨j - k, by omega⟩
      rw [show k + i - k = i by omega]
      cases i with
      | zero => simp
      | succ i => rw [Nat.testBit_succ, Nat.testBit_succ]; simp [show (2 * m + 1) / 2 = m by omega, show 2 * m / 2 = m by omega]
    · simp [hj]
  · have hp : 0 < 2 ^ k := Nat.pow_pos (by decide)
    rw [h1, h2, Nat.mul_add, Nat.mul_one]; omega
/-- x is word i of s, the bits below c gone. -/
def BS.Rest (s : BS) (i c : Nat) (x : BitVec 64) : Prop := c ≤ 64 ∧ ∀ j, x.getLsbD j = (decide (c ≤ j) && (s.word i).getLsbD j)
theorem BS.Rest.start (s : BS) (i : Nat) : s.Rest i 0 (s.word i) := ⟨by omega, fun j => by simp⟩
theorem BS.word_has (s : BS) (i j : Nat) (hj : j < 64) : (s.word i).getLsbD j = s.has (i * 64 + j) := by
  unfold BS.has
  rw [show (i * 64 + j) / 64 = i by omega, show (i * 64 + j) % 64 = j by omega]
theorem BS.upTo_skip (s : BS) (a : Nat) : ∀ b, a ≤ b → (∀ n, a ≤ n → n < b → s.has n = false) → s.upTo b = s.upTo a
  | 0, h, _ => by rw [show a = 0 by omega]
  | b + 1, h, hn => by
    by_cases e : a = b + 1
    · rw [e]
    · rw [BS.upTo_succ, hn b (by omega) (by omega), BS.upTo_skip s a b (by omega) (fun n h1 h2 => hn n h1 (by omega))]; simp
theorem BS.Rest.none {s : BS} {i c : Nat} (h : s.Rest i c 0#64) : s.upTo ((i + 1) * 64) = s.upTo (i * 64 + c) := by
  apply BS.upTo_skip
  · have := h.1; omega
  · intro n h1 h2
    obtain ⟨j, rfl⟩ : ∃ j, n = i * 64 + j := ⟨n - i * 64, by omega⟩
    have hj := h.2 j
    rw [BS.word_has s i j (by omega)] at hj
    simp at hj
    exact hj (by omega)
theorem BS.Rest.next {s : BS} {i c : Nat} {x : BitVec 64} (h : s.Rest i c x) (hx : x ≠ 0) :
    s.Rest i (ctzW x + 1) (cutB x) ∧ s.upTo (i * 64 + (ctzW x + 1)) = s.upTo (i * 64 + c) ++ [i * 64 + ctzW x] ∧ ctzW x < 64 ∧ (cutB x).toNat < x.toNat := by
  obtain ⟨hk, h1, h2, h3, h4⟩ := low_bits x hx
  generalize ctzW x = k at *
  have hck : c ≤ k := by
    have := h.2 k
    rw [h1] at this
    simp at this
    exact this.1
  refine ⟨⟨by omega, fun j => ?_⟩, ?_, hk, h4⟩
  · rw [h3, h.2]
    by_cases hj : k < j
    · have a : c ≤ j := by omega
      have b : k + 1 ≤ j := by omega
      simp [hj, a, b]
    · have b : ¬ k + 1 ≤ j := by omega
      simp [hj, b]
  · have hkt := h.2 k
    rw [h1, BS.word_has s i k hk] at hkt
    simp at hkt
    rw [← Nat.add_assoc, BS.upTo_succ, hkt.2]
    simp only [if_true]
    congr 1
    apply BS.upTo_skip
    · omega
    · intro n h5 h6
      obtain ⟨j, rfl⟩ : ∃ j, n = i * 64 + j := ⟨n - i * 64, by omega⟩
      have hj := h.2 j
      rw [h2 j (by omega), BS.word_has s i j (by omega)] at hj
      simp at hj
      exact hj (by omega)
attribute [local go_sem] Oper.semAt_some
abbrev BS.upB (s : BS) (n : Nat) : List UInt8 := (s.upTo n).map UInt8.ofNat
theorem BS.upTo_prefix (s : BS) (a : Nat) : ∀ b, a ≤ b → s.upTo a <+: s.upTo b
  | 0, h => by rw [show a = 0 by omega]; exact List.prefix_refl _
  | b + 1, h => by
    by_cases e : a = b + 1
    · rw [e]; exact List.prefix_refl _
    · rw [BS.upTo_succ]; exact (BS.upTo_prefix s a b (by omega)).trans (List.prefix_append _ _)
theorem BS.upB_prefix (s : BS) {n : Nat} (h : n ≤ 256) : s.upB n <+: s.bytes := by
  show (s.upTo n).map _ <+: s.list.map _
  obtain ⟨r, hr⟩ := BS.upTo_prefix s n 256 h
  exact ⟨r.map UInt8.ofNat, by rw [BS.list_eq, ← hr, List.map_append]⟩
theorem BS.upB_len (s : BS) {n : Nat} (h : n ≤ 256) : (s.upB n).length ≤ s.bytes.length := (s.upB_prefix h).length_le
set_option maxRecDepth 100000 in
set_option maxHeartbeats 2000000 in
theorem each1_in (n : Nat) (hn : 1 ≤ n) (l Bs n₀ : Nat) (s : BS) (J Jx : List UInt8 → World → Prop) (h0n : 0 < n₀)
    (hY : ∀ pre x W, J pre W → pre.length < s.bytes.length → YieldAt Fence.wide (n - 1) Tryd.prog l #[nb x.toNat] W fun e W' =>
      (e = .returned (.bool true) ∧ J (pre ++ [x]) W' ∧ Below n₀ W W') ∨ (e = .returned (.bool false) ∧ Jx (pre ++ [x]) W'))
    (W : World) (hBs : Blk W Bs 24 s.cells) (he : Env W) (h0 : J [] W) :
    CallsIn Fence.wide n Tryd.prog 74 #[.func (.yield l) #[] #[], .pointer (some ⟨Bs, 0, none⟩)] W fun e W' => (∃ v, e = .returned v) ∧
      ((∃ ys, ys = s.bytes ∧ J ys W') ∨ (∃ pre, (∃ k, k ≤ 256 ∧ pre = s.upB k) ∧ Jx pre W')) := by
  refine callsIn_of_wp Tryd.func74 rfl trivial ?_ rfl
  simp only [Tryd.ntmps74, List.size_toArray, List.length_cons, List.length_nil, Nat.reduceAdd, Nat.reduceSub, Array.replicate_succ, Array.replicate_zero, List.push_toArray, List.append_toArray, List.nil_append, List.cons_append]
  have hcs := hBs.cell
  gi_wp2
  gi_loopw [6] (fun i wr => ∃ k : Nat, k ≤ 4 ∧ i = .int .i64 (k : Int) ∧ J (s.upB (k * 64)) wr ∧ Env wr)
    (fun i _ => 4 - (intOf i).toNat)
  case atStart => exact ⟨0, by omega, rfl, h0, he⟩
  case round =>
    obtain ⟨i, hi, rfl, hJs, her⟩ := hrel
    by_cases hlt : i < 4
    · have hd : decide ((i : Int) < 4) = true := by simp; omega
      have hi4 : (i : Int) < 4 := by omega
      gi_wp2

      gi_loopw [4] (fun v wr2 => ∃ (c : Nat) (x : BitVec 64), s.Rest i c x ∧ v = .int .u64 (tn x) ∧ J (s.upB (i * 64 + c)) wr2 ∧ Env wr2)
        (fun v _ => (intOf v).toNat)
      case atStart => exact ⟨0, _, BS.Rest.start s i, rfl, hJs, her⟩
      case round =>
        clear hJs her he h0 hBs hcs
        obtain ⟨c, x, hR, rfl, hJ2, he2⟩ := hrel
        by_cases hx : x = 0#64
        · have hz : (tn x != 0) = false := by rw [tn_bne_zero]; simp [hx]
          gi_wp2
          go_roundw
          case rel => exact ⟨i + 1, by omega, by go_num, by subst hx; rw [BS.upB, hR.none]; exact hJ2, he2⟩
          case measure => simp [intOf]; omega
        · have hz : (tn x != 0) = true := by rw [tn_bne_zero]; simp [hx]
          have hsub := wrap_sub_one x
          have hand : bits .and .u64 (tn x) (tn (x - 1#64)) = tn (cutB x) := by rw [bv_and]; rfl
          obtain ⟨hR2, hup, hk, hlt2⟩ := hR.next hx
          have hn256 : i * 64 + ctzW x < 256 := by omega
          have hmem : i * 64 + ctzW x ∈ s.upTo (i * 64 + (ctzW x + 1)) := by rw [hup]; simp
          have hup' : s.upB (i * 64 + (ctzW x + 1)) = s.upB (i * 64 + c) ++ [UInt8.ofNat (i * 64 + ctzW x)] := by rw [BS.upB, hup]; simp
          obtain ⟨fn, tmps, assign, body, hy, hRd⟩ := hY _ (UInt8.ofNat (i * 64 + ctzW x)) wr hJ2 (by
            have := BS.upB_len s (n := i * 64 + (ctzW x + 1)) (by omega)
            rw [hup', List.length_append, List.length_singleton] at this; exact this)
          have hnb : nb (UInt8.ofNat (i * 64 + ctzW x)).toNat = .int .u8 ((i : Int) * 64 + (ctzW x : Nat)) := by
            unfold nb; simp; omega
          rw [hnb] at hy
          gi_wp2_with (refine ⟨trivial, ?_⟩; gi_at_call 75; refine (callsIn_wide.2 (tz_any x hx _ he2)).mono ?_; rintro e w2 ⟨rfl, rfl⟩)
          refine hRd.mono ?_
          rintro e W3 (⟨rfl, hJ3, hk3⟩ | ⟨rfl, hJx3⟩)
          · gi_wp2
            go_roundw
            case rel => exact ⟨ctzW x + 1, cutB x, hR2, rfl, by rw [hup']; exact hJ3, he2.below hk3 h0n⟩
            case measure => simp only [intOf, tn]; omega
          · gi_wp2
            refine bodyPost_ret (results_none rfl _ _ _) rfl ?_
            exact ⟨⟨_, rfl⟩, .inr ⟨_, ⟨i * 64 + (ctzW x + 1), by omega, hup'.symm⟩, hJx3⟩⟩
    · obtain rfl : i = 4 := by omega
      gi_wp2
      go_end0
      exact ⟨⟨_, rfl⟩, .inl ⟨_, rfl, hJs⟩⟩
theorem Blk.stay {w w' : World} {g : Nat} {t : TypeId} {cs : Array Value} (h : Blk w g t cs) (hb : Below w.heap.size w w') : Blk w' g t cs := h.below hb h.lt
/-- set.each(s): a value that gives the bytes of s in their order. -/
theorem each_stops (n : Nat) (hn : 1 ≤ n) (Bs n₀ : Nat) (s : BS) (w : World) (h0n : 0 < n₀) (hBs : Blk w Bs 24 s.cells) (he : Env w) :
    SeqStopsK Fence.wide n Tryd.prog 74 #[.pointer (some ⟨Bs, 0, none⟩)] (fun x : UInt8 => #[nb x.toNat]) (Below n₀) (fun ys => ys = s.bytes) (fun pre => pre <+: s.bytes) s.bytes.length w := fun l J Jx W hW _ _ hY h0 => by
  refine (each1_in n hn l Bs n₀ s J Jx h0n hY W (hBs.stay hW) (he.below hW he.1) h0).mono ?_
  rintro e W' ⟨he, ⟨ys, rfl, hj⟩ | ⟨pre, ⟨k, hk, rfl⟩, hj⟩⟩
  · exact ⟨he, .inl ⟨_, rfl, hj⟩⟩
  · exact ⟨he, .inr ⟨_, s.upB_prefix hk, hj⟩⟩
set_option maxHeartbeats 1000000 in
theorem each_any (s : BS) (w : World) :
    Calls Tryd.prog 59 #[.agg s.cells] w fun e w' => e = .returned (.func (.func 74) #[] #[.pointer (some ⟨w.heap.size, 0, none⟩)]) ∧ w' = w.alloc (.cells s.cells 24) := by
  go_enter Tryd.func59, Tryd.ntmps59
  go_wp2
  go_ret
  exact ⟨rfl, rfl⟩
end Go.Proofs.YtakcckdnliiieaaDoor
