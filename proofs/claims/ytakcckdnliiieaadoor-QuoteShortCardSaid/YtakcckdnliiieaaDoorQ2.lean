/- quote.plain, put, Literal: a contract a function. -/
import Derived.Test.YtakcckdnliiieaaDoorQ1
import Derived.Lib.IndexLaws
import Derived.Lib.Hide
import Derived.Deep.Cut
namespace Go.Proofs.YtakcckdnliiieaaDoor
open Go Go.RowKit
/-- Stands a byte in a text? -/
def inL (L : List UInt8) (n : Nat) : Bool := L.contains (UInt8.ofNat n)
theorem toUInt8_nat (n : Nat) : ((n : Int).toNat).toUInt8 = UInt8.ofNat n := rfl
theorem idx_no {s : ByteArray} {n : Nat} (h : inL s.data.toList n = false) (w : World) : Calls Tryd.prog 79 #[.string s, .int .u8 (n : Int)] w fun e w' => e = .returned (.int .i64 (-1)) ∧ w = w' := by
  refine (Tryd.strings_IndexByte s n w).mono ?_
  rintro e w' ⟨rfl, rfl⟩
  refine ⟨?_, rfl⟩
  rw [toUInt8_nat]
  have hge := Lib.indexByte_ge s.data.toList (UInt8.ofNat n)
  rcases (show -1 < Lib.indexByte s.data.toList (UInt8.ofNat n) ∨ Lib.indexByte s.data.toList (UInt8.ofNat n) ≤ -1 by omega) with hlt | hle
  · obtain ⟨o, ho⟩ : ∃ o : Nat, Lib.indexByte s.data.toList (UInt8.ofNat n) = o := ⟨(Lib.indexByte s.data.toList (UInt8.ofNat n)).toNat, by omega⟩
    have := (Lib.indexByte_some ho).1
    have hm : UInt8.ofNat n ∈ s.data.toList := List.mem_of_getElem? this
    unfold inL at h
    rw [List.contains_iff_mem.2 hm] at h
    cases h
  · have : Lib.indexByte s.data.toList (UInt8.ofNat n) = -1 := by omega
    rw [this]
theorem idx_yes {s : ByteArray} {n : Nat} (h : inL s.data.toList n = true) (w : World) : Calls Tryd.prog 79 #[.string s, .int .u8 (n : Int)] w fun e w' => ∃ k : Nat, e = .returned (.int .i64 (k : Int)) ∧ w = w' := by
  refine (Tryd.strings_IndexByte s n w).mono ?_
  rintro e w' ⟨rfl, rfl⟩
  rw [toUInt8_nat]
  have hge := Lib.indexByte_ge s.data.toList (UInt8.ofNat n)
  have hne : Lib.indexByte s.data.toList (UInt8.ofNat n) ≠ -1 := fun e => by
    have hm := List.contains_iff_mem.1 h
    obtain ⟨k, hk⟩ := List.getElem?_of_mem hm
    exact Lib.indexByte_none e k hk
  exact ⟨(Lib.indexByte s.data.toList (UInt8.ofNat n)).toNat, by congr 2; omega, rfl⟩
/-- Stands a byte for itself? -/
def pl (L : List UInt8) (n : Nat) : Bool := decide (32 ≤ n) && decide (n ≤ 126) && decide (n ≠ 92) && !inL L n
set_option maxHeartbeats 1000000 in
theorem plain_any (n : Nat) (s : ByteArray) (w : World) (hn : n < 256) :
    Calls Tryd.prog 77 #[.int .u8 (n : Int), .string s] w fun e w' => e = .returned (.bool (pl s.data.toList n)) ∧ w = w' := by
  by_cases h1 : 32 ≤ n
  · by_cases h2 : n ≤ 126
    · by_cases h3 : n = 92
      · have hp : pl s.data.toList n = false := by simp [pl, h3]
        subst h3
        rw [hp]
        go_enter Tryd.func77, Tryd.ntmps77
        go_wp2
        go_ret
        exact ⟨rfl, rfl⟩
      · have h3' : ((n : Int) != 92) = true := by simp; omega
        have d1 : decide (32 ≤ n) = true := decide_eq_true h1
        have d2 : decide (n ≤ 126) = true := decide_eq_true h2
        cases h4 : inL s.data.toList n
        · have hp : pl s.data.toList n = true := by simp [pl, h1, h2, h3, h4]
          rw [hp]
          have H4 := Lib.hid h4
          clear h4 hp
          go_enter Tryd.func77, Tryd.ntmps77
          go_wp2_with (go_at_call 79; refine (idx_no H4.out _).mono ?_; rintro e w' ⟨rfl, rfl⟩)
          go_ret
          exact ⟨rfl, rfl⟩
        · have hp : pl s.data.toList n = false := by simp [pl, h4]
          rw [hp]
          have H4 := Lib.hid h4
          clear h4 hp
          go_enter Tryd.func77, Tryd.ntmps77
          go_wp2_with (go_at_call 79; refine (idx_yes H4.out _).mono ?_; rintro e w' ⟨k, rfl, rfl⟩)
          go_ret
          exact ⟨rfl, rfl⟩
    · have hp : pl s.data.toList n = false := by simp [pl, h2]
      rw [hp]
      have d1 : decide (32 ≤ n) = true := decide_eq_true h1
      have d2 : decide (n ≤ 126) = false := decide_eq_false h2
      go_enter Tryd.func77, Tryd.ntmps77
      go_wp2
      go_ret
      exact ⟨rfl, rfl⟩
  · have hp : pl s.data.toList n = false := by simp [pl, h1]
    rw [hp]
    have d1 : decide (32 ≤ n) = false := decide_eq_false h1
    go_enter Tryd.func77, Tryd.ntmps77
    go_wp2
    go_ret
    exact ⟨rfl, rfl⟩
def hexd (n : Nat) : UInt8 := if n < 10 then UInt8.ofNat (48 + n) else UInt8.ofNat (87 + n)
/-- A byte's own sign. -/
def sgn (L : List UInt8) (n : Nat) : List UInt8 :=
  if pl L n then [UInt8.ofNat n] else if n = 10 then [92, 110] else if n = 13 then [92, 114] else if n = 9 then [92, 116] else if n = 92 then [92, 92] else if inL L n then [92, UInt8.ofNat n] else [92, 120, hexd (n / 16), hexd (n % 16)]
theorem sgn_len (L : List UInt8) (n : Nat) : (sgn L n).length ≤ 4 := by
  unfold sgn
  repeat' split
  all_goals simp
/-- Behind a write: the builder holds these bytes; nothing below has turned, nor another block that is no row of bytes. -/
def BW (B b : Nat) (l : List UInt8) (w w' : World) : Prop := Lib.IsBuilderF 74 5 B b (Lib.byteCells l) w' ∧ Below B w w' ∧ Lib.OthersKept 5 (some b) w w'
theorem BW.trans {B b : Nat} {l m : List UInt8} {u v w : World} (h : BW B b l u v) (k : BW B b m v w) : BW B b m u w := ⟨k.1, h.2.1.trans k.2.1, h.2.2.trans k.2.2⟩
theorem byte_cell {n : Nat} (hn : n < 256) : Lib.byteCells [UInt8.ofNat n] = [.int .u8 (n : Int)] := by
  simp [Lib.byteCells]
  omega
theorem wb_any {B b : Nat} {l : List UInt8} {n : Nat} {w : World} (hn : n < 256) (h : Lib.IsBuilderF 74 5 B b (Lib.byteCells l) w) (hl : l.length + 1 ≤ 140737488355328) (hB : B ≤ w.heap.size) :
    Calls Tryd.prog 64 #[.pointer (some ⟨b, 0, none⟩), .int .u8 (n : Int)] w fun e w' => e = .returned .nilIface ∧ BW B b (l ++ [UInt8.ofNat n]) w w' := by
  refine (writeByte_k B b _ n w h (by rw [Lib.byteCells_length]; exact hl) hB).mono ?_
  rintro e w' ⟨rfl, h1, h2, h3⟩
  exact ⟨rfl, .inr (by rw [Lib.byteCells_append, byte_cell hn]; exact h1), h2, h3⟩
theorem wbx_any {B b : Nat} {l : List UInt8} {x : UInt8} {w : World} (h : Lib.IsBuilderF 74 5 B b (Lib.byteCells l) w) (hl : l.length + 1 ≤ 140737488355328) (hB : B ≤ w.heap.size) :
    Calls Tryd.prog 64 #[.pointer (some ⟨b, 0, none⟩), .int .u8 (x.toNat : Int)] w fun e w' => e = .returned .nilIface ∧ BW B b (l ++ [x]) w w' := by
  have := @wb_any B b l x.toNat w x.toNat_lt h hl hB
  rwa [UInt8.ofNat_toNat] at this
theorem hexAt : ∀ k (h : k < 16), (ByteArray.mk #[48, 49, 50, 51, 52, 53, 54, 55, 56, 57, 97, 98, 99, 100, 101, 102])[k]'h = hexd k := by decide +kernel
theorem ws_any {B b : Nat} {l : List UInt8} (m : List UInt8) {w : World} (h : Lib.IsBuilderF 74 5 B b (Lib.byteCells l) w) (hl : l.length + m.length ≤ 140737488355328) (hB : B ≤ w.heap.size) :
    Calls Tryd.prog 78 #[.pointer (some ⟨b, 0, none⟩), .string ⟨m.toArray⟩] w fun e w' => e = .returned (.tuple #[.int .i64 (m.length : Int), .nilIface]) ∧ BW B b (l ++ m) w w' := by
  refine (writeString_k B b _ ⟨m.toArray⟩ w h (by rw [Lib.byteCells_length]; exact hl) hB).mono ?_
  rintro e w' ⟨rfl, h1, h2, h3⟩
  exact ⟨rfl, .inr (by rw [Lib.byteCells_append]; exact h1), h2, h3⟩
set_option maxRecDepth 100000 in
set_option maxHeartbeats 1000000 in
theorem put_any {B b : Nat} {l : List UInt8} {n : Nat} {s : ByteArray} {w : World} (hn : n < 256) (h : Lib.IsBuilderF 74 5 B b (Lib.byteCells l) w) (hl : l.length + 4 ≤ 140737488355328) (hB : B ≤ w.heap.size) :
    Calls Tryd.prog 65 #[.pointer (some ⟨b, 0, none⟩), .int .u8 (n : Int), .string s] w fun e w' => e = .returned (.tuple #[]) ∧ BW B b (l ++ sgn s.data.toList n) w w' := by
  have k1 := plain_any n s w hn
  cases hp : pl s.data.toList n <;> rw [hp] at k1
  · by_cases h10 : n = 10
    · have hs : sgn s.data.toList n = [92, 110] := by unfold sgn; rw [hp, if_neg (by simp), if_pos h10]
      rw [hs]
      subst h10
      clear hp hs
      go_enter Tryd.func65, Tryd.ntmps65
      go_wp2_with (first | (go_at_call 77; refine k1.mono ?_; rintro e w' ⟨rfl, rfl⟩) | (go_at_call 78; refine (ws_any [92, 110] h (by simp; omega) hB).mono ?_; rintro e w1 ⟨rfl, hw1⟩))
      go_end0
      exact ⟨rfl, hw1⟩
    have e10 : ((n : Int) == 10) = false := by simp; omega
    by_cases h13 : n = 13
    · have hs : sgn s.data.toList n = [92, 114] := by unfold sgn; rw [hp, if_neg (by simp), if_neg h10, if_pos h13]
      rw [hs]
      subst h13
      clear hp hs e10 h10
      go_enter Tryd.func65, Tryd.ntmps65
      go_wp2_with (first | (go_at_call 77; refine k1.mono ?_; rintro e w' ⟨rfl, rfl⟩) | (go_at_call 78; refine (ws_any [92, 114] h (by simp; omega) hB).mono ?_; rintro e w1 ⟨rfl, hw1⟩))
      go_end0
      exact ⟨rfl, hw1⟩
    have e13 : ((n : Int) == 13) = false := by simp; omega
    by_cases h9 : n = 9
    · have hs : sgn s.data.toList n = [92, 116] := by unfold sgn; rw [hp, if_neg (by simp), if_neg h10, if_neg h13, if_pos h9]
      rw [hs]
      subst h9
      clear hp hs e10 h10 e13 h13
      go_enter Tryd.func65, Tryd.ntmps65
      go_wp2_with (first | (go_at_call 77; refine k1.mono ?_; rintro e w' ⟨rfl, rfl⟩) | (go_at_call 78; refine (ws_any [92, 116] h (by simp; omega) hB).mono ?_; rintro e w1 ⟨rfl, hw1⟩))
      go_end0
      exact ⟨rfl, hw1⟩
    have e9 : ((n : Int) == 9) = false := by simp; omega
    by_cases h92 : n = 92
    · have hs : sgn s.data.toList n = [92, 92] := by unfold sgn; rw [hp, if_neg (by simp), if_neg h10, if_neg h13, if_neg h9, if_pos h92]
      rw [hs]
      subst h92
      clear hp hs e10 h10 e13 h13 h9 e9
      have m1 := @wb_any B b l 92 w hn h (by omega) hB
      go_enter Tryd.func65, Tryd.ntmps65
      go_upto_region 13 with (first | (go_at_call 77; refine k1.mono ?_; rintro e w' ⟨rfl, rfl⟩) | (go_at_call 64; refine m1.mono ?_; rintro e w1 ⟨rfl, hw1⟩))
      have hB1 : B ≤ w1.heap.size := Nat.le_trans hB hw1.2.1.size
      have m2 := @wb_any B b _ 92 w1 hn hw1.1 (by simp; omega) hB1
      clear m1 k1
      go_wp2_with (go_at_call 64; refine m2.mono ?_; rintro e w2 ⟨rfl, hw2⟩)
      go_end0
      exact ⟨rfl, by have := hw1.trans hw2; simpa using this⟩
    have e92 : ((n : Int) == 92) = false := by simp; omega
    cases hi : inL s.data.toList n
    · have hs : sgn s.data.toList n = [92, 120, hexd (n / 16), hexd (n % 16)] := by unfold sgn; rw [hp, hi, if_neg (by simp), if_neg h10, if_neg h13, if_neg h9, if_neg h92, if_neg (by simp)]
      rw [hs]
      have k2 := @idx_no s n hi w
      clear hp hs h10 h13 h9 h92 hi
      go_enter Tryd.func65, Tryd.ntmps65
      go_upto_region 1 with (first | (go_at_call 77; refine k1.mono ?_; rintro e w' ⟨rfl, rfl⟩) | (go_at_call 79; refine k2.mono ?_; rintro e w' ⟨rfl, rfl⟩) | (go_at_call 78; refine (ws_any [92, 120] h (by simp; omega) hB).mono ?_; rintro e w1 ⟨rfl, hw1⟩))
      clear k1 k2
      have hB1 : B ≤ w1.heap.size := Nat.le_trans hB hw1.2.1.size
      have hn1 : n / 16 < 16 := by omega
      have hn2 : n % 16 < 16 := by omega
      have m1 : ∀ x : UInt8, Calls Tryd.prog 64 #[.pointer (some ⟨b, 0, none⟩), .int .u8 (x.toNat : Int)] w1 fun e w' => e = .returned .nilIface ∧ BW B b (l ++ [92, 120] ++ [x]) w1 w' := fun x => wbx_any hw1.1 (by simp; omega) hB1
      go_upto_region 2 with (go_at_call 64; refine (m1 _).mono ?_; rintro e w2 ⟨rfl, hw2⟩)
      clear m1
      have hB2 : B ≤ w2.heap.size := Nat.le_trans hB1 hw2.2.1.size
      have m2 : ∀ x : UInt8, Calls Tryd.prog 64 #[.pointer (some ⟨b, 0, none⟩), .int .u8 (x.toNat : Int)] w2 fun e w' => e = .returned .nilIface ∧ BW B b (l ++ [92, 120] ++ [_] ++ [x]) w2 w' := fun x => wbx_any hw2.1 (by simp; omega) hB2
      go_wp2_with (go_at_call 64; refine (m2 _).mono ?_; rintro e w3 ⟨rfl, hw3⟩)
      go_end0
      refine ⟨rfl, ?_⟩
      have := (hw1.trans hw2).trans hw3
      rw [hexAt (n / 16) hn1, hexAt (n % 16) hn2] at this
      simpa using this
    · have hs : sgn s.data.toList n = [92, UInt8.ofNat n] := by unfold sgn; rw [hp, hi, if_neg (by simp), if_neg h10, if_neg h13, if_neg h9, if_neg h92, if_pos rfl]
      rw [hs]
      have k2 := @idx_yes s n hi w
      clear hp hs h10 h13 h9 h92 hi
      have m1 := @wb_any B b l 92 w (by omega) h (by omega) hB
      go_enter Tryd.func65, Tryd.ntmps65
      go_upto_region 13 with (first | (go_at_call 77; refine k1.mono ?_; rintro e w' ⟨rfl, rfl⟩) | (go_at_call 79; refine k2.mono ?_; rintro e w' ⟨k, rfl, rfl⟩) | (go_at_call 64; refine m1.mono ?_; rintro e w1 ⟨rfl, hw1⟩))
      have hB1 : B ≤ w1.heap.size := Nat.le_trans hB hw1.2.1.size
      have m2 := @wb_any B b _ n w1 hn hw1.1 (by simp; omega) hB1
      clear m1 k1 k2
      go_wp2_with (go_at_call 64; refine m2.mono ?_; rintro e w2 ⟨rfl, hw2⟩)
      go_end0
      exact ⟨rfl, by have := hw1.trans hw2; simpa using this⟩
  · have hs : sgn s.data.toList n = [UInt8.ofNat n] := by unfold sgn; rw [hp, if_pos rfl]
    rw [hs]
    clear hp hs
    have m1 := @wb_any B b l n w hn h (by omega) hB
    go_enter Tryd.func65, Tryd.ntmps65
    go_wp2_with (first | (go_at_call 77; refine k1.mono ?_; rintro e w' ⟨rfl, rfl⟩) | (go_at_call 64; refine m1.mono ?_; rintro e w1 ⟨rfl, hw1⟩))
    go_end0
    exact ⟨rfl, hw1⟩
end Go.Proofs.YtakcckdnliiieaaDoor
