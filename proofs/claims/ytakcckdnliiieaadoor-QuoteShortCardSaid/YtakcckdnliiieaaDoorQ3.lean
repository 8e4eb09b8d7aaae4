/- quote.Literal; the reference's within, digit, Sign, Literal. -/
import Derived.Test.YtakcckdnliiieaaDoorQ2
import Derived.Test.YtakcckdnliiieaaDoorOwn
namespace Go.Proofs.YtakcckdnliiieaaDoor
open Go Go.RowKit
attribute [local go_sem] Oper.quietAt Oper.quietUpon
theorem IsB.alloc {B b : Nat} {l : List UInt8} {w : World} (h : Lib.IsBuilderF 74 5 B b (Lib.byteCells l) w) (o : Obj) : Lib.IsBuilderF 74 5 B b (Lib.byteCells l) (w.alloc o) := h.elim (fun h => .inl (h.alloc o)) (fun h => .inr (h.alloc o))
def sgns (L : List UInt8) (l : List UInt8) : List UInt8 := l.flatMap fun x => sgn L x.toNat
theorem sgns_snoc (L l : List UInt8) (x : UInt8) : sgns L (l ++ [x]) = sgns L l ++ sgn L x.toNat := by simp [sgns]
theorem sgns_len (L l : List UInt8) : (sgns L l).length ≤ 4 * l.length := by
  induction l with
  | nil => simp [sgns]
  | cons x l ih =>
    have := sgn_len L x.toNat
    simp [sgns] at ih ⊢
    omega
def litB (l : List UInt8) : List UInt8 := [34] ++ sgns [34] l ++ [34]
set_option maxRecDepth 100000 in
set_option maxHeartbeats 1000000 in
theorem literal_any (s : ByteArray) (w : World) (hs : s.size ≤ 1000000000) : Calls Tryd.prog 47 #[.string s] w (Ret (strV (litB s.data.toList)) w) := by
  obtain ⟨W0, hW0⟩ : ∃ W0, w.alloc (.cells #[.pointer none, .slice none 0 0] 74) = W0 := ⟨_, rfl⟩
  have hI0 : Lib.IsBuilderF 74 5 w.heap.size w.heap.size (Lib.byteCells []) W0 := by rw [← hW0]; exact Lib.IsBuilderF.of (Lib.fresh_isBuilder 74 5 w)
  have hB0 : Below w.heap.size w W0 := by rw [← hW0]; (repeat' first | exact Below.refl _ _ | assumption | refine Below.alloc ?_ (by simp <;> omega) _ | refine Below.setCell ?_ (by simp <;> omega) _ | refine Below.drew ?_)
  go_enter Tryd.func47, Tryd.ntmps47
  go_upto_region 2 with (fail)
  clear hW0
  have m0 := @wb_any w.heap.size w.heap.size [] 34 W0 (by omega) hI0 (by simp) hB0.size
  go_upto_region 4 with (go_at_call 64; refine m0.mono ?_; rintro e w1 ⟨rfl, hw1⟩)
  have hI1 := hw1.1
  have hB1 := hB0.trans hw1.2.1
  clear m0 hI0 hB0 hw1
  go_loopw [4] (fun i wr => ∃ k : Nat, k ≤ s.size ∧ i = .int .i64 (k : Int) ∧ Below w.heap.size w wr ∧ Lib.IsBuilderF 74 5 w.heap.size w.heap.size (Lib.byteCells ([34] ++ sgns [34] (s.data.toList.take k))) wr) (fun i _ => s.size - (intOf i).toNat)
  case atStart => exact ⟨0, by omega, rfl, hB1, hI1⟩
  clear hI1 hB1
  case round =>
    obtain ⟨k, hk, rfl, hb, hI⟩ := hrel
    by_cases hlt : k < s.size
    · have hln : (sgns [34] (s.data.toList.take k)).length ≤ 4 * k := by
        have := sgns_len [34] (s.data.toList.take k)
        have := List.length_take_le k s.data.toList
        omega
      have m1 := @put_any w.heap.size w.heap.size _ s[k].toNat ⟨#[34]⟩ wr s[k].toNat_lt hI (by simp; omega) hb.size
      clear hln
      go_wp2_with (go_at_call 65; refine m1.mono ?_; rintro e w2 ⟨rfl, hw2⟩)
      go_roundw
      case rel =>
        refine ⟨k + 1, by omega, by go_num, hb.trans hw2.2.1, ?_⟩
        have := hw2.1
        rw [take_snoc s k hlt, sgns_snoc]
        rw [List.append_assoc] at this
        exact this
      case measure => simp [intOf]; omega
    · obtain rfl : k = s.size := by omega
      rw [take_all] at hI
      have hln := sgns_len [34] s.data.toList
      rw [Array.length_toList] at hln
      have hln' : (sgns [34] s.data.toList).length ≤ 4 * s.size := hln
      clear hln
      have m1 := @wb_any w.heap.size w.heap.size _ 34 wr (by omega) hI (by simp; omega) hb.size
      go_upto_region 8 with (go_at_call 64; refine m1.mono ?_; rintro e w2 ⟨rfl, hw2⟩)
      have m2 := Tryd.Builder_String_any_k w.heap.size w.heap.size _ w2 hw2.1 (hb.trans hw2.2.1).size
      clear m1 hln'
      go_wp2_with (go_at_call 66; refine m2.mono ?_; rintro e w3 ⟨rfl, hw3⟩)
      go_ret
      exact ⟨rfl, (hb.trans hw2.2.1).trans hw3.2.1⟩
end Go.Proofs.YtakcckdnliiieaaDoor
