/- QuoteTexts, walked. -/
import Derived.Test.YtakcckdnliiieaaDoorQ22
import Derived.Test.YtakcckdnliiieaaDoorQ19
namespace Go.Proofs.YtakcckdnliiieaaDoor
open Go Go.RowKit
attribute [local go_sem] Oper.quietAt Oper.quietUpon
theorem size_toArray (l : List UInt8) : (ByteArray.mk l.toArray).size = l.length := by show l.toArray.size = _; simp
theorem litB_len (l : List UInt8) : (litB l).length ≤ 4 * l.length + 2 := by
  have := sgns_len [34] l
  unfold litB; simp; omega
set_option maxRecDepth 100000 in
set_option maxHeartbeats 2000000 in
theorem quoteTexts_any (s t : ByteArray) (w : World) (he : Env w) (hs0 : s.size ≤ 140737488351232) (ht0 : t.size ≤ 140737488351232) :
    Calls Tryd.prog 10 #[.string s, .string t] w (Ret (.bool true) w) := by
  by_cases hs : s.size ≤ 3000
  case neg =>
    have d1 : decide (3000 < (s.size : Int)) = true := decide_eq_true (by omega)
    clear hs
    go_enter Tryd.func10, Tryd.ntmps10
    go_wp2_with (go_at_call 46; refine (awake3_any _ he).mono ?_; rintro x w2 ⟨rfl, hw2⟩)
    go_ret
    exact ⟨rfl, hw2⟩
  have d1 : decide (3000 < (s.size : Int)) = false := decide_eq_false (by omega)
  by_cases ht : t.size ≤ 3000
  case neg =>
    have d2 : decide (3000 < (t.size : Int)) = true := decide_eq_true (by omega)
    clear hs ht
    go_enter Tryd.func10, Tryd.ntmps10
    go_wp2_with (go_at_call 46; refine (awake3_any _ he).mono ?_; rintro x w2 ⟨rfl, hw2⟩)
    go_ret
    exact ⟨rfl, hw2⟩
  have d2 : decide (3000 < (t.size : Int)) = false := decide_eq_false (by omega)
  obtain ⟨L, hL⟩ : ∃ L : ByteArray, L = ⟨(litB s.data.toList).toArray⟩ := ⟨_, rfl⟩
  have hLs : L.size ≤ 12002 := by rw [hL, size_toArray]; have := litB_len s.data.toList; have h3 : s.data.toList.length = s.data.size := Array.length_toList; have h2 : s.size = s.data.size := rfl; omega
  have k47 : Calls Tryd.prog 47 #[.string s] w (Ret (.string L) w) := by rw [hL]; exact literal_any s w (by omega)
  have k56 : ∀ w, Calls Tryd.prog 56 #[.string s] w (Ret (.string L) w) := fun w => by rw [hL]; exact refLiteral_any s w (by omega)
  clear hL
  go_enter Tryd.func10, Tryd.ntmps10
  go_upto_region 4 with (go_at_call 47; refine k47.mono ?_; rintro x w2 ⟨rfl, hw2⟩)
  have he2 := he.lies hw2
  clear d1 d2 k47
  go_wp2_with fail
  obtain ⟨cs, hcs⟩ : ∃ cs, #[Value.string t, Value.string L, Value.string (L ++ t), Value.string ({ data := #[34] } ++ t ++ { data := #[34] })] = cs := ⟨_, rfl⟩
  have hcell : ∀ k, k < 4 → ∃ A : ByteArray, cs[k]? = some (.string A) ∧ A.size ≤ 1000000 := by
    intro k hk
    have e1 : (L ++ t).size = L.size + t.size := by simp
    have e2 : ((ByteArray.mk #[34]) ++ t ++ (ByteArray.mk #[34])).size = 1 + t.size + 1 := by simp; rfl
    subst hcs
    have : k = 0 ∨ k = 1 ∨ k = 2 ∨ k = 3 := by omega
    rcases this with rfl | rfl | rfl | rfl
    · exact ⟨_, rfl, by omega⟩
    · exact ⟨_, rfl, by omega⟩
    · exact ⟨_, rfl, by omega⟩
    · exact ⟨_, rfl, by omega⟩
  rw [hcs]
  obtain ⟨W0, hW0⟩ : ∃ W0, w2.alloc (.cells cs 9) = W0 := ⟨_, rfl⟩
  have hC0 : Blk W0 w2.heap.size 9 cs := by rw [← hW0]; exact Blk.new w2 9 cs
  have hb0 : Below w.heap.size w W0 := by rw [← hW0]; exact hw2.alloc hw2.size _
  have he0 : Env W0 := by rw [← hW0]; exact he2.alloc _
  have HC := Lib.hid hcell
  rw [hW0]
  clear hW0 hcs hcell he2
  go_loopw [35] (fun j wr => ∃ k : Nat, j = .int .i64 (k : Int) ∧ k ≤ 4 ∧ Blk wr w2.heap.size 9 cs ∧ Env wr ∧ Below w.heap.size w wr) (fun j _ => 4 - (intOf j).toNat)
  case atStart => exact ⟨0, rfl, by omega, hC0, he0, hb0⟩
  case round =>
    clear hC0 hb0 he0
    obtain ⟨k, rfl, hk, hC, her, hbr⟩ := hrel
    by_cases hlt : k < 4
    · obtain ⟨A, hA, hAs⟩ := HC.out k hlt
      have hc : wr.cell? ⟨w2.heap.size, k, none⟩ = some (.string A) := by rw [hC.cell]; exact hA
      have hl := hC.lt
      have u1 := fun w => @unliteral_any A w hAs
      have u2 := fun w => @refUnliteral_any A w hAs
      obtain ⟨X, hX⟩ : ∃ X : ByteArray, X = ⟨(unlitP A).1.toArray⟩ := ⟨_, rfl⟩
      obtain ⟨n, hn⟩ : ∃ n, n = (unlitP A).2.1 := ⟨_, rfl⟩
      obtain ⟨e, hee⟩ : ∃ e, e = (unlitP A).2.2 := ⟨_, rfl⟩
      have u1' : ∀ w, Calls Tryd.prog 54 #[.string A] w (Ret (.tuple #[.string X, .int .i64 (n : Int), .int .i64 (e : Int)]) w) := fun w => by rw [hX, hn, hee]; exact u1 w
      have u2' : ∀ w, Calls Tryd.prog 55 #[.string A] w (Ret (.tuple #[.string X, .int .i64 (n : Int), .int .i64 (e : Int)]) w) := fun w => by rw [hX, hn, hee]; exact u2 w
      have d1 : decide (k < 4) = true := decide_eq_true hlt
      clear u1 u2 hX hn hee hA
      go_wp2_with (first | (go_at_call 54; refine (u1' _).mono ?_; rintro x w3 ⟨rfl, hw3⟩) | (go_at_call 55; refine (u2' _).mono ?_; rintro x w4 ⟨rfl, hw4⟩))
      have hC4 := (hC.lies hw3).lies hw4
      have her4 := (her.lies hw3).lies hw4
      have hbr3 := Lies.below hw3 hbr.size hbr
      have hbr4 := Lies.below hw4 hbr3.size hbr3
      go_roundw
      case rel => exact ⟨k + 1, by go_num, by omega, hC4, her4, hbr4⟩
      case measure => simp [intOf]; omega
    · have d1 : decide (k < 4) = false := decide_eq_false hlt
      obtain rfl : k = 4 := by omega
      go_wp2_with (first | (go_at_call 56; refine (k56 _).mono ?_; rintro x w3 ⟨rfl, hw3⟩) | (go_at_call 46; refine (awake3_any _ (her.lies hw3)).mono ?_; rintro x w4 ⟨rfl, hw4⟩))
      go_ret
      have hbr3 := Lies.below hw3 hbr.size hbr
      exact ⟨by simp, Lies.below hw4 hbr3.size hbr3⟩
end Go.Proofs.YtakcckdnliiieaaDoor
