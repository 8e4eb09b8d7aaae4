/- QuoteClasses, walked. -/
import Derived.Test.YtakcckdnliiieaaDoorQ23
import Derived.Test.YtakcckdnliiieaaDoorQ6
namespace Go.Proofs.YtakcckdnliiieaaDoor
open Go Go.RowKit
attribute [local go_sem] Oper.quietAt Oper.quietUpon
theorem classB_len (s : BS) : (classB s).length ≤ 2306 := by
  have h1 := runsT_len clsL s.runs
  have h2 := runsL_len s 256 (Nat.le_refl _)
  have h3 : s.runs = runsL (s.upTo 256) := by rw [BS.runs_eq, BS.list_eq]
  rw [← h3] at h2
  unfold classB
  split
  · simp
  · simp; omega
set_option maxRecDepth 100000 in
set_option maxHeartbeats 2000000 in
theorem quoteClasses_any (s : BS) (t : ByteArray) (w : World) (he : Env w) (ht0 : t.size ≤ 140737488351232) :
    Calls Tryd.prog 11 #[.agg s.cells, .string t] w (Ret (.bool true) w) := by
  have hS0 := Blk.new w 24 s.cells
  have hb0 : Below w.heap.size w (w.alloc (.cells s.cells 24)) := (Below.refl _ w).alloc (Nat.le_refl _) _
  have he0 : Env (w.alloc (.cells s.cells 24)) := he.alloc _
  by_cases ht : t.size ≤ 3000
  case neg =>
    have d2 : decide (3000 < (t.size : Int)) = true := decide_eq_true (by omega)
    clear ht
    go_enter Tryd.func11, Tryd.ntmps11
    go_wp2_with (go_at_call 46; refine (awake3_any _ he0).mono ?_; rintro x w2 ⟨rfl, hw2⟩)
    go_ret
    exact ⟨rfl, Lies.below hw2 hb0.size hb0⟩
  have d2 : decide (3000 < (t.size : Int)) = false := decide_eq_false (by omega)
  obtain ⟨L, hL⟩ : ∃ L : ByteArray, L = ⟨(classB s).toArray⟩ := ⟨_, rfl⟩
  have hLs : L.size ≤ 12002 := by rw [hL, size_toArray]; have := classB_len s; omega
  have k48 : ∀ w, Env w → Calls Tryd.prog 48 #[.agg s.cells] w (Ret (.string L) w) := fun w he => by rw [hL]; exact class_any s w he
  have k58 : ∀ w, Calls Tryd.prog 58 #[.agg s.cells] w (Ret (.string L) w) := fun w => by rw [hL]; exact refClass_any s w
  clear hL
  have hcS := hS0.cell
  have hlS := hS0.lt
  go_enter Tryd.func11, Tryd.ntmps11
  go_upto_region 4 with (go_at_call 48; refine (k48 _ he0).mono ?_; rintro x w2 ⟨rfl, hw2⟩)
  have he2 := he0.lies hw2
  have hS2 := hS0.lies hw2
  have hb2 := Lies.below hw2 hb0.size hb0
  have hl2 := hS2.lt
  clear d2 k48 hS0 hb0 he0 hcS hlS
  go_wp2_with fail
  obtain ⟨cs, hcs⟩ : ∃ cs, #[Value.string t, Value.string L, Value.string (L ++ t), Value.string ({ data := #[91] } ++ t ++ { data := #[93] }), Value.string ({ data := #[91, 94] } ++ t ++ { data := #[93] })] = cs := ⟨_, rfl⟩
  have hcell : ∀ k, k < 5 → ∃ A : ByteArray, cs[k]? = some (.string A) ∧ A.size ≤ 1000000 := by
    intro k hk
    have e1 : (L ++ t).size = L.size + t.size := by simp
    have e2 : ((ByteArray.mk #[91]) ++ t ++ (ByteArray.mk #[93])).size = 1 + t.size + 1 := by simp; rfl
    have e3 : ((ByteArray.mk #[91, 94]) ++ t ++ (ByteArray.mk #[93])).size = 2 + t.size + 1 := by simp; rfl
    subst hcs
    have : k = 0 ∨ k = 1 ∨ k = 2 ∨ k = 3 ∨ k = 4 := by omega
    rcases this with rfl | rfl | rfl | rfl | rfl
    · exact ⟨_, rfl, by omega⟩
    · exact ⟨_, rfl, by omega⟩
    · exact ⟨_, rfl, by omega⟩
    · exact ⟨_, rfl, by omega⟩
    · exact ⟨_, rfl, by omega⟩
  rw [hcs]
  obtain ⟨W0, hW0⟩ : ∃ W0, w2.alloc (.cells cs 9) = W0 := ⟨_, rfl⟩
  have hC0 : Blk W0 w2.heap.size 9 cs := by rw [← hW0]; exact Blk.new w2 9 cs
  have hS3 : Blk W0 w.heap.size 24 s.cells := by rw [← hW0]; exact hS2.alloc _
  have hb3 : Below w.heap.size w W0 := by rw [← hW0]; exact hb2.alloc hb2.size _
  have he3 : Env W0 := by rw [← hW0]; exact he2.alloc _
  have HC := Lib.hid hcell
  rw [hW0]
  clear hW0 hcs hcell he2 hS2 hb2 hl2
  go_loopw [33] (fun j wr => ∃ k : Nat, j = .int .i64 (k : Int) ∧ k ≤ 5 ∧ Blk wr w2.heap.size 9 cs ∧ Blk wr w.heap.size 24 s.cells ∧ Env wr ∧ Below w.heap.size w wr) (fun j _ => 5 - (intOf j).toNat)
  case atStart => exact ⟨0, rfl, by omega, hC0, hS3, he3, hb3⟩
  case round =>
    clear hC0 hS3 hb3 he3
    obtain ⟨k, rfl, hk, hC, hS, her, hbr⟩ := hrel
    by_cases hlt : k < 5
    · obtain ⟨A, hA, hAs⟩ := HC.out k hlt
      have hc : wr.cell? ⟨w2.heap.size, k, none⟩ = some (.string A) := by rw [hC.cell]; exact hA
      have hl := hC.lt
      have u1 := fun w => @unclass_any A w hAs
      have u2 := fun w => @refUnclass_any A w hAs
      obtain ⟨X, hX⟩ : ∃ X : BS, X = (unclsP A).1 := ⟨_, rfl⟩
      obtain ⟨n, hn⟩ : ∃ n, n = (unclsP A).2.1 := ⟨_, rfl⟩
      obtain ⟨e, hee⟩ : ∃ e, e = (unclsP A).2.2 := ⟨_, rfl⟩
      rw [← hX, ← hn, ← hee] at u1 u2
      have d1 : decide (k < 5) = true := decide_eq_true hlt
      clear hX hn hee hA
      go_wp2_with (first | (go_at_call 51; refine (u1 _).mono ?_; rintro x w3 ⟨rfl, hw3⟩; have hX3 := Blk.new w3 24 X.cells) | (go_at_call 57; refine (u2 _).mono ?_; rintro x w4 ⟨rfl, hw4⟩; have hX4 := hX3.lies hw4; have hcX4 := hX4.cell; have hlX4 := hX4.lt))
      have hC3 := (hC.lies hw3).alloc (.cells X.cells 24)
      have hS3 := (hS.lies hw3).alloc (.cells X.cells 24)
      have her3 := (her.lies hw3).alloc (.cells X.cells 24)
      have hbr3 := Lies.below hw3 hbr.size hbr
      have hbr3' := hbr3.alloc hbr3.size (.cells X.cells 24)
      have hC4 := (hC3.lies hw4).alloc (.cells X.cells 24)
      have hS4 := (hS3.lies hw4).alloc (.cells X.cells 24)
      have her4 := (her3.lies hw4).alloc (.cells X.cells 24)
      have hbr4 := Lies.below hw4 hbr3'.size hbr3'
      have hbr5 := hbr4.alloc hbr4.size (.cells X.cells 24)
      go_roundw
      case rel => exact ⟨k + 1, by go_num, by omega, hC4, hS4, her4, hbr5⟩
      case measure => simp [intOf]; omega
    · have d1 : decide (k < 5) = false := decide_eq_false hlt
      obtain rfl : k = 5 := by omega
      have hcS := hS.cell
      have hlS := hS.lt
      go_wp2_with (first | (go_at_call 58; refine (k58 _).mono ?_; rintro x w3 ⟨rfl, hw3⟩) | (go_at_call 46; refine (awake3_any _ (her.lies hw3)).mono ?_; rintro x w4 ⟨rfl, hw4⟩))
      go_ret
      have hbr3 := Lies.below hw3 hbr.size hbr
      exact ⟨by simp, Lies.below hw4 hbr3.size hbr3⟩
end Go.Proofs.YtakcckdnliiieaaDoor
