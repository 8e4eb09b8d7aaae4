/- put: numbers as bytes, seven bits each. -/
import Derived.Test.YtbgmjlonbbmffaaDoorApp
import Derived.Test.YtbgmjlonbbmffaaDoorL3
import Derived.Laws.Bits128
import Derived.Laws.BitsLemmas
namespace Go.Proofs.YtbgmjlonbbmffaaDoor
open Go Go.RowKit
/-- A number's bytes. -/
def vb (n : Nat) : List Nat := if n < 128 then [n] else (n % 128 + 128) :: vb (n / 128)
  termination_by n
  decreasing_by omega
theorem vb_small {n : Nat} (h : n < 128) : vb n = [n] := by rw [vb, if_pos h]
theorem vb_great {n : Nat} (h : ¬ n < 128) : vb n = (n % 128 + 128) :: vb (n / 128) := by rw [vb, if_neg h]
def vbs (l : List Int) : List Nat := l.flatMap fun x => vb x.toNat
theorem vbs_snoc (l : List Int) (x : Int) : vbs (l ++ [x]) = vbs l ++ vb x.toNat := by simp [vbs]
theorem vb_len : ∀ (k n : Nat), n < 128 ^ (k + 1) → (vb n).length ≤ k + 1
  | 0, n, h => by rw [vb_small (by simpa using h)]; simp
  | k + 1, n, h => by
    by_cases hn : n < 128
    · rw [vb_small hn]; simp
    · rw [vb_great hn]
      have := vb_len k (n / 128) (by rw [Nat.pow_succ] at h; omega)
      simp; omega
theorem vb_five {n : Nat} (h : n < 34359738368) : (vb n).length ≤ 5 := vb_len 4 n (by simpa using h)
theorem vbs_len {l : List Int} (h : ∀ x ∈ l, 0 ≤ x ∧ x < 34359738368) : (vbs l).length ≤ 5 * l.length := by
  induction l with
  | nil => simp [vbs]
  | cons x l ih =>
    have h1 := h x (by simp)
    have h2 := ih (fun y hy => h y (by simp [hy]))
    have h3 := @vb_five x.toNat (by omega)
    simp only [vbs, List.flatMap_cons, List.length_append, List.length_cons] at h2 ⊢
    omega
theorem or_128 (m : Int) (h0 : 0 ≤ m) (h1 : m < 128) : bits .or .i64 m 128 = m + 128 := by
  obtain ⟨n, rfl⟩ : ∃ n : Nat, m = (n : Int) := ⟨m.toNat, by omega⟩
  have key : ∀ n : Nat, n < 128 → bits .or .i64 (n : Int) 128 = (n : Int) + 128 := by decide +kernel
  exact key n (by omega)
theorem grown_comp {a b c : World} {v v1 : Value} (h : a.grownBy b v.ownBlock) (hf : ∀ g, v1.ownBlock = some g → v.ownBlock = some g ∨ a.heap.size ≤ g) (k : b.grownBy c v1.ownBlock) : a.grownBy c v.ownBlock :=
  ⟨k.os.trans h.os, k.tape.trans h.tape, k.output.trans h.output, Nat.le_trans h.size k.size, fun i hi hne => (k.block i (Nat.lt_of_lt_of_le hi h.size) (fun e => by
    rcases hf i e.symm with h1 | h1
    · exact hne h1.symm
    · omega)).trans (h.block i hi hne)⟩
theorem fresh_comp {a b : World} {v v1 v2 : Value} (hs : a.heap.size ≤ b.heap.size) (hf : ∀ g, v1.ownBlock = some g → v.ownBlock = some g ∨ a.heap.size ≤ g) (hk : ∀ g, v2.ownBlock = some g → v1.ownBlock = some g ∨ b.heap.size ≤ g) :
    ∀ g, v2.ownBlock = some g → v.ownBlock = some g ∨ a.heap.size ≤ g := fun g hg => by
  rcases hk g hg with h | h
  · exact hf g h
  · exact .inr (by omega)
theorem Tryd.info5' : (Tryd.prog.info? 5).map (fun i => (i.zero, i.size, i.bytes)) = some (some (.int .u8 0), 1, 1) := by kernel_rfl
set_option maxRecDepth 100000 in
set_option maxHeartbeats 2000000 in
theorem put_any {w : World} {F : Nat → Prop} {base n : Nat} {v nv : Value} {xs : List Nat} {l : List Int} (hrow : w.ownsRow base 5 1 v n (xs.map nb)) (hN : IntsAt w F nv l) (hF : ∀ b, F b → v.ownBlock ≠ some b ∧ b < w.heap.size)
    (hpos : ∀ x ∈ l, 0 ≤ x ∧ x < 34359738368) (hbd : n + 5 * l.length ≤ 140737488355000) (hbase : base ≤ w.heap.size) :
    Calls Tryd.prog 26 #[v, nv] w fun e w' => ∃ v', e = .returned v' ∧ w'.ownsRow base 5 1 v' (n + (vbs l).length) ((xs ++ vbs l).map nb) ∧ w.grownBy w' v.ownBlock ∧ ∀ g, v'.ownBlock = some g → v.ownBlock = some g ∨ w.heap.size ≤ g := by
  obtain ⟨oa, cap, hv⟩ := hN.slice
  have hml := hN.len
  have HN := Lib.hid hN
  have HP := Lib.hid hpos
  have HF := Lib.hid hF
  clear hN hpos hF
  subst hv
  go_enter Tryd.func26, Tryd.ntmps26
  go_wp2_with fail
  go_loopw [0, 9] (fun u j wr => ∃ k : Nat, j = .int .i64 (k : Int) ∧ k ≤ l.length ∧ Hid (wr.ownsRow base 5 1 u (n + (vbs (l.take k)).length) ((xs ++ vbs (l.take k)).map nb)) ∧ Hid (w.grownBy wr v.ownBlock) ∧ Hid (∀ g, u.ownBlock = some g → v.ownBlock = some g ∨ w.heap.size ≤ g)) (fun _ j _ => l.length - (intOf j).toNat)
  case atStart => exact ⟨0, rfl, by omega, Lib.hid (by simpa [vbs] using hrow), Lib.hid ⟨rfl, rfl, rfl, Nat.le_refl _, fun _ _ _ => rfl⟩, Lib.hid (fun g hg => .inl hg)⟩
  case round =>
    clear hrow
    obtain ⟨k, rfl, hk, hrow, hgr, hfr⟩ := hrel
    by_cases hlt : k < l.length
    case neg =>
      obtain rfl : k = l.length := by omega
      have d1 : decide (l.length < l.length) = false := decide_eq_false hlt
      go_wp2
      go_ret
      have h1 := hrow.out
      rw [List.take_length] at h1
      exact ⟨_, rfl, h1, hgr.out, hfr.out⟩
    have d1 : decide (k < l.length) = true := decide_eq_true hlt
    have hx := HP.out _ (List.getElem_mem hlt)
    have HNr : IntsAt wr F (.slice oa l.length cap) l := HN.out.kept hgr.out (fun r e hr => (HF.out r hr).1 e)
    obtain ⟨b, off, cap', hv, _, hc, hb⟩ := HNr.cell hlt
    injection hv with e1 e2 e3
    subst e1
    clear e2 e3 HNr
    obtain ⟨X, hX⟩ : ∃ X : Nat, l[k] = (X : Int) := ⟨l[k].toNat, by omega⟩
    rw [hX] at hc hx
    have hst : vbs (l.take (k + 1)) = vbs (l.take k) ++ vb X := by
      rw [List.take_succ_eq_append_getElem hlt, vbs_snoc, hX]; rfl
    have hvl : (vbs (l.take k)).length ≤ 5 * k := by
      have := @vbs_len (l.take k) (fun x hx => HP.out x (List.mem_of_mem_take hx))
      rw [List.length_take] at this
      omega
    have HST := Lib.hid hst
    clear hst hX
    obtain ⟨Y, hY⟩ : ∃ Y, Y = vbs (l.take k) := ⟨_, rfl⟩
    rw [← hY] at hrow hvl
    have HY := Lib.hid hY
    clear hY
    have hw1 := hgr.out.size
    go_wp2_with fail
    go_loopw [0, 6] (fun u j wq => ∃ (m : Nat) (Z : List Nat), j = .int .i64 (m : Int) ∧ Hid (Z ++ vb m = vb X) ∧ m ≤ X ∧ Z.length ≤ 5 ∧ Hid (wq.ownsRow base 5 1 u (n + Y.length + Z.length) ((xs ++ Y ++ Z).map nb)) ∧ w.heap.size ≤ wq.heap.size ∧ Hid (w.grownBy wq v.ownBlock) ∧ Hid (∀ g, u.ownBlock = some g → v.ownBlock = some g ∨ w.heap.size ≤ g)) (fun _ j _ => (intOf j).toNat)
    case atStart => exact ⟨X, [], rfl, Lib.hid rfl, Nat.le_refl _, by simp, Lib.hid (by simpa using hrow.out), hw1, hgr, hfr⟩
    case round =>
      clear hrow hgr hfr hc hb hw1
      rename_i wr0
      obtain ⟨m, Z, rfl, hz, hmX, hZ, hrow, hws, hgr, hfr⟩ := hrel
      by_cases hm : 128 ≤ m
      · have d2 : decide (128 ≤ (m : Int)) = true := decide_eq_true (by omega)
        have hvm := vb_great (n := m) (by omega)
        have e2 : bits .or .i64 ((m : Int) % 128) 128 % 256 = ((m % 128 + 128 : Nat) : Int) := by rw [or_128 _ (by omega) (by omega)]; omega
        have hzl := vb_five (n := X) (by omega)
        have hZ1 : Z.length + 1 ≤ 5 := by
          have := congrArg List.length hz.out
          rw [hvm, List.length_append, List.length_cons] at this
          have h1 : 1 ≤ (vb (m / 128)).length := by rw [vb]; split <;> simp
          omega
        have HVM := Lib.hid hvm
        have E2 := Lib.hid e2
        have E1 := Lib.hid (i64_and127 (m : Int))
        clear hvm e2
        go_wp2_with (at_builtin; rw [E1.out, E2.out]; refine wpList_push3 rfl _ _ 61 rfl base 5 (.int .u8 0) 1 1 Tryd.underlying61 Tryd.info5' rfl (by decide) _ _ _ rfl hrow.out [nb (m % 128 + 128)] rfl rfl (by intro y hy; simp at hy; subst hy; rfl) (by omega) (by omega) (by omega) ?_; intro v1 w1 hown1 hg1 hnil1 hf1)
        have hgr1 := grown_comp hgr.out hfr.out hg1
        have hfr1 := fresh_comp hws hfr.out (fun g hg => (hf1 g hg).imp id (fun h => Nat.le_of_lt h))
        have hws1 := hgr1.size
        go_roundw
        case rel => exact ⟨m / 128, Z ++ [m % 128 + 128], by go_num, Lib.hid (by rw [← hz.out, HVM.out]; simp), by omega, by simp; omega, Lib.hid (by simpa [Nat.add_assoc] using hown1), hws1, Lib.hid hgr1, Lib.hid hfr1⟩
        case measure => simp [intOf]; omega
      · have d2 : decide (128 ≤ (m : Int)) = false := decide_eq_false (by omega)
        have hvm := vb_small (n := m) (by omega)
        have e2 : (m : Int) % 256 = (m : Int) := by omega
        have hzl := vb_five (n := X) (by omega)
        have HVM := Lib.hid hvm
        clear hvm e2
        go_wp2_with (at_builtin; refine wpList_push3 rfl _ _ 61 rfl base 5 (.int .u8 0) 1 1 Tryd.underlying61 Tryd.info5' rfl (by decide) _ _ _ rfl hrow.out [nb m] rfl rfl (by intro y hy; simp at hy; subst hy; rfl) (by omega) (by omega) (by omega) ?_; intro v1 w1 hown1 hg1 hnil1 hf1)
        have hgr1 := grown_comp hgr.out hfr.out hg1
        have hfr1 := fresh_comp hws hfr.out (fun g hg => (hf1 g hg).imp id (fun h => Nat.le_of_lt h))
        have hrow1 : Hid (w1.ownsRow base 5 1 v1 (n + (vbs (l.take (k + 1))).length) ((xs ++ vbs (l.take (k + 1))).map nb)) := Lib.hid (by
          rw [HST.out, ← HY.out, ← hz.out, HVM.out]
          simpa [Nat.add_assoc] using hown1)
        go_roundw
        case rel => exact ⟨k + 1, by go_num, by omega, hrow1, Lib.hid hgr1, Lib.hid hfr1⟩
        case measure => simp [intOf]; omega
end Go.Proofs.YtbgmjlonbbmffaaDoor
