/- quote's reader: begin, high, signs. -/
import Derived.Test.YtakcckdnliiieaaDoorQ10
namespace Go.Proofs.YtakcckdnliiieaaDoor
open Go Go.RowKit
attribute [local go_sem] Oper.quietAt Oper.quietUpon
/-- What stands behind a first sign: of a range its second one. -/
def highP (t : ByteArray) (L : List UInt8) (low i : Nat) : Nat × Nat × Nat := if seesB t i 45 then signP t L (i + 1) else (low, i, 0)
theorem hexP_le {t : ByteArray} {i : Nat} (hi : i ≤ t.size) : (hexP t i).2.1 ≤ t.size ∧ (hexP t i).1 < 256 ∧ ((hexP t i).2.2 = 0 → i < (hexP t i).2.1) := by
  have hlt : ∀ {j b}, byteAt t j = some b → j < t.size := fun {j b} h => by
    rcases Nat.lt_or_ge j t.size with h1 | h1
    · exact h1
    · rw [byteAt_ge h1] at h; cases h
  unfold hexP
  cases h1 : byteAt t i with
  | none => simp only; exact ⟨Nat.le_refl _, by omega, by omega⟩
  | some b =>
    have := hlt h1
    cases h2 : hexv b with
    | none => simp only [h2]; exact ⟨by omega, by omega, by omega⟩
    | some d =>
      have hd := hexv_lt h2
      cases h3 : byteAt t (i + 1) with
      | none => simp only [h2]; exact ⟨by omega, by omega, by omega⟩
      | some b2 =>
        have := hlt h3
        cases h4 : hexv b2 with
        | none => simp only [h2, h4]; exact ⟨by omega, by omega, by omega⟩
        | some d2 =>
          have hd2 := hexv_lt h4
          simp only [h2, h4]; exact ⟨by omega, by omega, by omega⟩
theorem meant_lt {L : List UInt8} {n m : Nat} (hn : n < 256) (h : meant L n = some m) : m < 256 := by
  unfold meant at h
  repeat' split at h
  all_goals first | (injection h; omega) | cases h
theorem byteAt_256 {t : ByteArray} {i b : Nat} (h : byteAt t i = some b) : b < 256 ∧ i < t.size := by
  rcases Nat.lt_or_ge i t.size with h1 | h1
  · rw [byteAt_lt h1] at h
    injection h with h
    exact ⟨by have := t[i].toNat_lt; omega, h1⟩
  · rw [byteAt_ge h1] at h; cases h
theorem signP_le {t : ByteArray} {L : List UInt8} {i : Nat} (hi : i ≤ t.size) : (signP t L i).2.1 ≤ t.size ∧ (signP t L i).1 < 256 ∧ ((signP t L i).2.2 = 0 → i < (signP t L i).2.1) := by
  unfold signP
  cases h1 : byteAt t i with
  | none => simp
  | some b =>
    have hb := byteAt_256 h1
    simp only
    by_cases h2 : b = 92
    · rw [if_pos h2]
      cases h3 : byteAt t (i + 1) with
      | none => simp
      | some c =>
        have hc := byteAt_256 h3
        simp only
        cases h4 : meant L c with
        | some m => have := meant_lt hc.1 h4; simp; omega
        | none =>
          simp only
          by_cases h5 : c = 120
          · rw [if_pos h5]
            have := @hexP_le t (i + 2) (by omega)
            exact ⟨this.1, this.2.1, fun h => by have := this.2.2 h; omega⟩
          · rw [if_neg h5]; simp; omega
    · rw [if_neg h2]
      split <;> simp <;> omega
set_option maxRecDepth 100000 in
set_option maxHeartbeats 2000000 in
theorem high_rd {t L : ByteArray} {en mb i g low : Nat} {w : World} (ht : t.size ≤ 1000000000) (hi : i ≤ t.size) (hL : L.size ≤ 1000) (hB : Blk w g 84 (rdr t L en mb i 0)) (hE : EscAt w mb L.data.toList) (hne : mb ≠ g) :
    Calls Tryd.prog 70 #[.pointer (some ⟨g, 0, none⟩), .int .u8 (low : Int)] w fun x w' => x = .returned (.tuple #[.int .u8 ((highP t L.data.toList low i).1 : Int), .bool ((highP t L.data.toList low i).2.2 == 0)]) ∧ Blk w' g 84 (rdr t L en mb (highP t L.data.toList low i).2.1 (highP t L.data.toList low i).2.2) ∧ w.grownBy w' (some g) := by
  have k1 := @sees_any t L en mb i 0 g 45 w ht hB
  cases hs : seesB t i 45
  · have hr : highP t L.data.toList low i = (low, i, 0) := by unfold highP; rw [hs]; rfl
    rw [hr]
    rw [hs] at k1
    clear hr hs
    go_enter Tryd.func70, Tryd.ntmps70
    go_wp2_with (go_at_call 68; refine k1.mono ?_; rintro e w2 ⟨rfl, hw2⟩)
    go_ret2
    exact ⟨rfl, hB.lies hw2, grown_lies hw2 _⟩
  · have hlt : i < t.size := by
      unfold seesB at hs
      rw [beq_iff_eq] at hs
      exact (byteAt_256 hs).2
    obtain ⟨r, hr⟩ : ∃ r, r = highP t L.data.toList low i := ⟨_, rfl⟩
    rw [← hr]
    have hr2 : r = signP t L.data.toList (i + 1) := by rw [hr]; unfold highP; rw [hs]; rfl
    rw [hs] at k1
    have HR := Lib.hid hr2
    clear hr hs hr2
    go_enter Tryd.func70, Tryd.ntmps70
    go_upto_region 3 with (go_at_call 68; refine k1.mono ?_; rintro e w2 ⟨rfl, hw2⟩)
    have hB2 := hB.lies hw2
    have hE2 := hE.lies hw2
    have hg2 := grown_lies hw2 (some g)
    clear k1 hB hE hw2
    have c4 : w2.cell? ⟨g, 4, none⟩ = some (.int .i64 (i : Int)) := hB2.cell 4
    have f4 := hB2.free 4
    obtain ⟨W3, hW3⟩ : ∃ W3, w2.setCell ⟨g, 4, none⟩ (.int .i64 ((i : Int) + 1)) = W3 := ⟨_, rfl⟩
    have hB3 : Blk W3 g 84 (rdr t L en mb (i + 1) 0) := by rw [← hW3]; exact hB2.set 4 (.int .i64 ((i + 1 : Nat) : Int))
    have hg3 : w2.grownBy W3 (some g) := by rw [← hW3]; exact grownBy_setCell _ _ _ _
    have hE3 := hE2.grown hg3 hne
    go_upto_region 4 with (fail)
    clear hW3 c4 f4
    have m1 := sign_rd ht (by omega) hL hB3 hE3 hne
    rw [← HR.out] at m1
    go_wp2_with (go_at_call 83; refine m1.mono ?_; rintro e w4 ⟨rfl, hB4, hg4⟩)
    go_ret2
    exact ⟨rfl, hB4, grownBy_trans (grownBy_trans hg2 hg3) hg4⟩
set_option maxHeartbeats 1000000 in
theorem signs_any (g : Nat) (w : World) : Calls Tryd.prog 69 #[.pointer (some ⟨g, 0, none⟩)] w fun e w' => e = .returned (.func (.func 82) #[] #[.pointer (some ⟨w.heap.size, 0, none⟩)]) ∧ w' = w.alloc (.cells #[.pointer (some ⟨g, 0, none⟩)] 80) := by
  go_enter Tryd.func69, Tryd.ntmps69
  go_wp2
  go_ret
  exact ⟨rfl, rfl⟩
/-- Where a reader stands when it has begun. -/
def beginP (t : ByteArray) (first : Nat) : Nat × Nat := match byteAt t 0 with | none => (0, 8) | some b => if b = first then (1, 0) else (0, 4)
set_option maxRecDepth 100000 in
set_option maxHeartbeats 2000000 in
theorem begin_any {t L : ByteArray} {first en : Nat} {w : World} (ht : t.size ≤ 1000000000) (hL : L.size ≤ 1000) (hen : en < 256) (hfi : first < 256) :
    Calls Tryd.prog 67 #[.string t, .string L, .int .u8 (first : Int), .int .u8 (en : Int)] w fun x w' => ∃ g mb, x = .returned (.pointer (some ⟨g, 0, none⟩)) ∧ w.heap.size ≤ mb ∧ mb < g ∧ Blk w' g 84 (rdr t L en mb (beginP t first).1 (beginP t first).2) ∧ EscAt w' mb L.data.toList ∧ Below w.heap.size w w' := by
  have k1 := escapes_any L w hL
  obtain ⟨r, hr⟩ : ∃ r, r = beginP t first := ⟨_, rfl⟩
  rw [← hr]
  unfold beginP at hr
  by_cases hlen : 0 < t.size
  case neg =>
    rw [byteAt_ge (by omega)] at hr
    simp only at hr
    subst hr
    go_enter Tryd.func67, Tryd.ntmps67
    go_upto_region 2 with (go_at_call 80; refine k1.mono ?_; rintro e w2 ⟨rfl, hE2, hb2⟩)
    have hml := World.ownsMap.lt hE2
    obtain ⟨W3, hW3⟩ : ∃ W3, w2.alloc (.cells (rdr t L en w.heap.size 0 0) 84) = W3 := ⟨_, rfl⟩
    have hB3 : Blk W3 w2.heap.size 84 (rdr t L en w.heap.size 0 0) := by rw [← hW3]; exact Blk.new w2 84 _
    have hE3 : EscAt W3 w.heap.size L.data.toList := by rw [← hW3]; exact World.ownsMap.alloc hE2 _
    have hb3 : Below w.heap.size w W3 := by rw [← hW3]; exact hb2.alloc hb2.size _
    have m1 := next_no ht hB3 (by omega)
    rw [show w2.alloc (.cells #[Value.string t, .string L, .int .u8 (en : Int), .map (some w.heap.size), .int .i64 0, .int .i64 0] 84) = W3 from hW3]
    clear hW3 k1
    go_wp2_with (go_at_call 81; refine m1.mono ?_; rintro e w4 ⟨rfl, hB4, hg4⟩)
    go_ret
    exact ⟨w2.heap.size, w.heap.size, rfl, Nat.le_refl _, hml, by rw [show (0 : Nat) = t.size by omega]; exact hB4, hE3.grown hg4 (by omega), below_grown hb3 hg4 hb2.size hb3.size⟩
  rw [byteAt_lt hlen] at hr
  simp only at hr
  have m1 := fun g mb w h => @next_yes t L en mb 0 0 g w ht h hlen
  obtain ⟨b, hb⟩ : ∃ b, b = t[0].toNat := ⟨_, rfl⟩
  have hb256 : b < 256 := by rw [hb]; exact t[0].toNat_lt
  rw [← hb] at m1 hr
  clear hb
  have M1 := Lib.hid m1
  clear m1
  by_cases hbf : b = first
  · rw [if_pos hbf] at hr
    subst hr hbf
    have d1 : ((b : Int) != (b : Int)) = false := by simp
    go_enter Tryd.func67, Tryd.ntmps67
    go_upto_region 2 with (go_at_call 80; refine k1.mono ?_; rintro e w2 ⟨rfl, hE2, hb2⟩)
    have hml := World.ownsMap.lt hE2
    obtain ⟨W3, hW3⟩ : ∃ W3, w2.alloc (.cells (rdr t L en w.heap.size 0 0) 84) = W3 := ⟨_, rfl⟩
    have hB3 : Blk W3 w2.heap.size 84 (rdr t L en w.heap.size 0 0) := by rw [← hW3]; exact Blk.new w2 84 _
    have hE3 : EscAt W3 w.heap.size L.data.toList := by rw [← hW3]; exact World.ownsMap.alloc hE2 _
    have hb3 : Below w.heap.size w W3 := by rw [← hW3]; exact hb2.alloc hb2.size _
    have m1 := M1.out _ _ W3 hB3
    rw [show w2.alloc (.cells #[Value.string t, .string L, .int .u8 (en : Int), .map (some w.heap.size), .int .i64 0, .int .i64 0] 84) = W3 from hW3]
    clear hW3 k1 M1
    go_wp2_with (go_at_call 81; refine m1.mono ?_; rintro e w4 ⟨rfl, hB4, hg4⟩)
    go_ret
    exact ⟨w2.heap.size, w.heap.size, rfl, Nat.le_refl _, hml, hB4, hE3.grown hg4 (by omega), below_grown hb3 hg4 hb2.size hb3.size⟩
  · rw [if_neg hbf] at hr
    subst hr
    have d1 : ((b : Int) != (first : Int)) = true := by simp; omega
    clear hbf
    go_enter Tryd.func67, Tryd.ntmps67
    go_upto_region 2 with (go_at_call 80; refine k1.mono ?_; rintro e w2 ⟨rfl, hE2, hb2⟩)
    have hml := World.ownsMap.lt hE2
    obtain ⟨W3, hW3⟩ : ∃ W3, w2.alloc (.cells (rdr t L en w.heap.size 0 0) 84) = W3 := ⟨_, rfl⟩
    have hB3 : Blk W3 w2.heap.size 84 (rdr t L en w.heap.size 0 0) := by rw [← hW3]; exact Blk.new w2 84 _
    have hE3 : EscAt W3 w.heap.size L.data.toList := by rw [← hW3]; exact World.ownsMap.alloc hE2 _
    have hb3 : Below w.heap.size w W3 := by rw [← hW3]; exact hb2.alloc hb2.size _
    have m1 := M1.out _ _ W3 hB3
    rw [show w2.alloc (.cells #[Value.string t, .string L, .int .u8 (en : Int), .map (some w.heap.size), .int .i64 0, .int .i64 0] 84) = W3 from hW3]
    clear hW3 k1 M1
    go_upto_region 3 with (go_at_call 81; refine m1.mono ?_; rintro e w4 ⟨rfl, hB4, hg4⟩)
    have m2 : Calls Tryd.prog 71 #[.pointer (some ⟨w2.heap.size, 0, none⟩), .int .i64 0] w4 fun x w' => x = .returned (.tuple #[]) ∧ Blk w' w2.heap.size 84 (rdr t L en w.heap.size 0 4) ∧ w4.grownBy w' (some w2.heap.size) := @fail_any t L en w.heap.size (0 + 1) 0 w2.heap.size 0 w4 hB4
    clear m1
    go_wp2_with (go_at_call 71; refine m2.mono ?_; rintro e w5 ⟨rfl, hB5, hg5⟩)
    go_ret
    have hb4 := below_grown hb3 hg4 hb2.size hb3.size
    exact ⟨w2.heap.size, w.heap.size, rfl, Nat.le_refl _, hml, hB5, (hE3.grown hg4 (by omega)).grown hg5 (by omega), below_grown hb4 hg5 hb2.size hb4.size⟩
end Go.Proofs.YtakcckdnliiieaaDoor
