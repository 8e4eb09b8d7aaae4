/- log.Show. -/
import Derived.Test.YtbgmjlonbbmffaaDoorL14
import Derived.Test.YtbgmjlonbbmffaaDoorL12
import Derived.Lib.AppendIntMem
namespace Go.Proofs.YtbgmjlonbbmffaaDoor
open Go Go.RowKit
attribute [local go_sem] Oper.quietAt Oper.quietUpon
/-- The table of powers of ten, laid. -/
def Tab (w : World) : Prop := Lib.TabIs Tryd.prog w "internal/strconv.uint64pow10" .u64 Lib.pow10Tab
theorem Tab.lies {w w' : World} (h : Tab w) (hl : Lies w w') : Tab w' := Lib.tabBelow_of_tabIs h w' hl
theorem itoa_any {n : Int} (h0 : 0 ≤ n) (h1 : n ≤ 2147483647) {w : World} (h : Tab w) : Calls Tryd.prog 39 #[.int .i64 n] w (Ret (strV (Lib.itoa n)) w) :=
  (Tryd.strconv_Itoa n (by omega) (by omega) w h).mono (fun e w' ⟨he, k, os, hw⟩ => ⟨he, by rw [hw]; exact Lib.below_grow _ w (Nat.le_refl _) k os⟩)
theorem nDigits_le : ∀ (k u : Nat), u < 10 ^ (k + 1) → Lib.nDigits u ≤ k + 1
  | 0, u, h => by rw [Lib.nDigits_small (by simpa using h)]; exact Nat.le_refl _
  | k + 1, u, h => by
    by_cases hu : u < 10
    · rw [Lib.nDigits_small hu]; omega
    · rw [Lib.nDigits_big hu]
      have := nDigits_le k (u / 10) (by rw [Nat.pow_succ] at h; omega)
      omega
theorem itoa_len {n : Int} (h0 : 0 ≤ n) (h1 : n ≤ 2147483647) : (Lib.itoa n).length ≤ 10 := by
  unfold Lib.itoa
  rw [if_neg (by omega), Lib.decDigits_eq, List.length_map, List.length_range]
  exact nDigits_le 9 _ (by omega)
theorem size_mk (l : List UInt8) : (ByteArray.mk l.toArray).size = l.length := by show l.toArray.size = _; simp
theorem str_add (l m : List UInt8) : (ByteArray.mk l.toArray ++ ByteArray.mk m.toArray) = ByteArray.mk (l ++ m).toArray := ByteArray.mk_append_mk l m
/-- A number's text, as a name. -/
theorem itoa_str {n : Int} (h0 : 0 ≤ n) (h1 : n ≤ 2147483647) {w : World} (h : Tab w) : ∃ A : ByteArray, A = ⟨(Lib.itoa n).toArray⟩ ∧ A.size ≤ 10 ∧ ∀ W, Lies w W → Calls Tryd.prog 39 #[.int .i64 n] W (Ret (.string A) W) :=
  ⟨_, rfl, by rw [size_mk]; exact itoa_len h0 h1, fun _ hl => itoa_any h0 h1 (h.lies hl)⟩
def pathS (l : List Int) : List UInt8 := l.flatMap fun n => 47 :: Lib.itoa n
def showB (x : ItemD) : List UInt8 := if x.mark then [109, 97, 114, 107] else Lib.itoa x.step.pass ++ [46] ++ Lib.itoa x.step.way ++ [32] ++ Lib.itoa x.step.rule ++ pathS x.step.path ++ [32, 64] ++ Lib.itoa x.step.place
/-- An item's line. -/
def showP (x : ItemD) : List UInt8 := if mayB x then showB x else []
theorem pathS_snoc (l : List Int) (x : Int) : pathS (l ++ [x]) = pathS l ++ 47 :: Lib.itoa x := by simp [pathS]
theorem pathS_len {l : List Int} (h : ∀ x ∈ l, 0 ≤ x ∧ x ≤ 2147483647) : (pathS l).length ≤ 11 * l.length := by
  induction l with
  | nil => simp [pathS]
  | cons x l ih =>
    have h1 := h x (by simp)
    have h2 := ih (fun y hy => h y (by simp [hy]))
    have h3 := itoa_len h1.1 h1.2
    simp only [pathS, List.flatMap_cons, List.length_append, List.length_cons] at h2 ⊢
    omega
theorem take_pos {l : List Int} {P : Int → Prop} (h : ∀ x ∈ l, P x) (k : Nat) : ∀ x ∈ l.take k, P x := fun x hx => h x (List.mem_of_mem_take hx)
theorem IsB.alloc {B b : Nat} {l : List UInt8} {w : World} (h : Lib.IsBuilderF 82 5 B b (Lib.byteCells l) w) (o : Obj) : Lib.IsBuilderF 82 5 B b (Lib.byteCells l) (w.alloc o) := h.elim (fun h => .inl (h.alloc o)) (fun h => .inr (h.alloc o))
theorem IsB.lies {B b : Nat} {bs : List Value} {w w' : World} (h : Lib.IsBuilderF 82 5 B b bs w) (hl : Lies w w') : Lib.IsBuilderF 82 5 B b bs w' := by
  have key : ∀ p, Lib.BuilderAtF 82 5 B b p bs w → Lib.BuilderAtF 82 5 B b p bs w' := fun p hp => by
    have hlt := hp.lt
    obtain ⟨hB, v, hb, hown, hne⟩ := hp
    exact ⟨hB, v, (hl.block b hlt).trans hb, hown.kept (row := none) ⟨hl.os, hl.tape, hl.output, hl.size, fun k hk _ => hl.block k hk⟩ (by cases hv : v.ownBlock <;> simp), hne⟩
  exact h.elim (fun h => .inl (key _ h)) (fun h => .inr (key _ h))
theorem below_up {A B : Nat} {a b c : World} (h : Below A a b) (k : Below B b c) (hAB : A ≤ B) : Below A a c := h.trans (k.mono hAB)
set_option maxRecDepth 100000 in
set_option maxHeartbeats 1500000 in
theorem show_any {x : ItemD} {pv : Value} {w : World} {F : Nat → Prop} (hp : IntsAt w F pv x.step.path) (hok : x.step.ok) (hF : ∀ b, F b → b < w.heap.size) (hT : Tab w) :
    Calls Tryd.prog 18 #[.agg #[.bool x.mark, .int .u8 (x.step.pass : Int), .int .u8 (x.step.way : Int), .int .i64 x.step.rule, pv, .int .i64 x.step.place]] w (Ret (strV (showP x)) w) := by
  obtain ⟨r, hr⟩ : ∃ r, r = showP x := ⟨_, rfl⟩
  rw [← hr]
  have kmay := fun W (h : IntsAt W F pv x.step.path) => @may_any x pv W F h
  cases hm : mayB x
  · obtain rfl : r = [] := by rw [hr]; unfold showP; rw [hm]; rfl
    obtain ⟨m, ⟨pass, way, rule, path, place⟩⟩ := x
    simp only at hp kmay ⊢
    rw [hm] at kmay
    have k1 := kmay _ (hp.alloc (.cells #[.bool m, .int .u8 (pass : Int), .int .u8 (way : Int), .int .i64 rule, pv, .int .i64 place] 37))
    obtain ⟨oa, cap, hv⟩ := hp.slice
    subst hv
    clear kmay hr hm hp hT
    go_enter Tryd.func18, Tryd.ntmps18
    go_wp2_with (go_at_call 15; refine k1.mono ?_; rintro e W2 ⟨rfl, hl2⟩)
    go_ret
    exact ⟨rfl, Lies.below hl2 (by simp) ((Lies.start w).alloc (Nat.le_refl _) _)⟩
  have hr1 : r = showB x := by rw [hr]; unfold showP; rw [if_pos hm]
  cases hmk : x.mark
  case true =>
    obtain rfl : r = [109, 97, 114, 107] := by rw [hr1]; unfold showB; rw [if_pos hmk]
    obtain ⟨m, ⟨pass, way, rule, path, place⟩⟩ := x
    simp only at hp kmay hmk ⊢
    subst hmk
    rw [hm] at kmay
    have k1 := kmay _ (hp.alloc (.cells #[.bool true, .int .u8 (pass : Int), .int .u8 (way : Int), .int .i64 rule, pv, .int .i64 place] 37))
    obtain ⟨oa, cap, hv⟩ := hp.slice
    subst hv
    obtain ⟨W1, hW1⟩ : ∃ W1, w.alloc (.cells #[.bool true, .int .u8 (pass : Int), .int .u8 (way : Int), .int .i64 rule, .slice oa path.length cap, .int .i64 place] 37) = W1 := ⟨_, rfl⟩
    have hX1 : Blk W1 w.heap.size 37 #[.bool true, .int .u8 (pass : Int), .int .u8 (way : Int), .int .i64 rule, .slice oa path.length cap, .int .i64 place] := by rw [← hW1]; exact Blk.new w 37 _
    have hl1 : Lies w W1 := by rw [← hW1]; exact (Lies.start w).alloc (Nat.le_refl _) _
    rw [hW1] at k1
    clear kmay hr hr1 hm hp hT
    go_enter Tryd.func18, Tryd.ntmps18
    go_upto_region 1 with (fail)
    clear hW1
    have hcX := hX1.cell
    go_upto_region 3 with (go_at_call 15; refine k1.mono ?_; rintro e W2 ⟨rfl, hl2⟩)
    have hX2 := hX1.lies hl2
    clear hcX
    have hcX := hX2.cell
    have hlX := hX2.lt
    go_wp2
    go_ret
    exact ⟨rfl, Lies.below hl2 hl1.size hl1⟩
  obtain ⟨h0, h1, h2, h3, h4⟩ := mayB_spec hm hmk
  have hr2 : r = Lib.itoa x.step.pass ++ [46] ++ Lib.itoa x.step.way ++ [32] ++ Lib.itoa x.step.rule ++ pathS x.step.path ++ [32, 64] ++ Lib.itoa x.step.place := by rw [hr1]; unfold showB; rw [if_neg (by simp [hmk])]
  clear hr hr1
  obtain ⟨m, ⟨pass, way, rule, path, place⟩⟩ := x
  simp only at hp hm kmay hmk h0 h1 h2 h3 h4 hr2 ⊢
  subst hmk
  rw [hm] at kmay
  unfold StepD.ok at hok
  simp only at hok
  have k1 := kmay _ (hp.alloc (.cells #[.bool false, .int .u8 (pass : Int), .int .u8 (way : Int), .int .i64 rule, pv, .int .i64 place] 37))
  obtain ⟨oa, cap, hv⟩ := hp.slice
  have hpl := hp.len
  subst hv
  obtain ⟨W1, hW1⟩ : ∃ W1, w.alloc (.cells #[.bool false, .int .u8 (pass : Int), .int .u8 (way : Int), .int .i64 rule, .slice oa path.length cap, .int .i64 place] 37) = W1 := ⟨_, rfl⟩
  have hX1 : Blk W1 w.heap.size 37 #[.bool false, .int .u8 (pass : Int), .int .u8 (way : Int), .int .i64 rule, .slice oa path.length cap, .int .i64 place] := by rw [← hW1]; exact Blk.new w 37 _
  have hl1 : Lies w W1 := by rw [← hW1]; exact (Lies.start w).alloc (Nat.le_refl _) _
  rw [hW1] at k1
  have HR := Lib.hid hr2
  have H4 := Lib.hid h4
  have HP := Lib.hid hp
  have HT := Lib.hid hT
  clear kmay hr2 hm hp hT h4
  go_enter Tryd.func18, Tryd.ntmps18
  go_upto_region 1 with (fail)
  clear hW1
  have hcX := hX1.cell
  go_upto_region 3 with (go_at_call 15; refine k1.mono ?_; rintro e W2 ⟨rfl, hl2⟩)
  have hX2 := hX1.lies hl2
  have hlw2 : Lies w W2 := Lies.below hl2 hl1.size hl1
  clear hcX hX1 hl1 hl2 k1
  have hcX := hX2.cell
  have hlX := hX2.lt
  go_upto_region 6 with (fail)
  obtain ⟨W3, hW3⟩ : ∃ W3, W2.alloc (.cells #[.int .u8 (pass : Int), .int .u8 (way : Int), .int .i64 rule, .slice oa path.length cap, .int .i64 place] 35) = W3 := ⟨_, rfl⟩
  obtain ⟨S, hS0⟩ : ∃ S, W2.heap.size = S := ⟨_, rfl⟩
  have hS3 : Blk W3 S 35 #[.int .u8 (pass : Int), .int .u8 (way : Int), .int .i64 rule, .slice oa path.length cap, .int .i64 place] := by rw [← hW3, ← hS0]; exact Blk.new W2 35 _
  have hl3 : Lies w W3 := by rw [← hW3]; exact hlw2.alloc hlw2.size _
  rw [hW3]
  try simp only [hS0]
  clear hW3 hX2 hlX hcX
  go_upto_region 7 with (fail)
  obtain ⟨W4, hW4⟩ : ∃ W4, W3.alloc (.cells #[.pointer none, .slice none 0 0] 82) = W4 := ⟨_, rfl⟩
  obtain ⟨b, hb0⟩ : ∃ b, W3.heap.size = b := ⟨_, rfl⟩
  have hI4 : Lib.IsBuilderF 82 5 b b (Lib.byteCells []) W4 := by rw [← hW4, ← hb0]; exact Lib.IsBuilderF.of (Lib.fresh_isBuilder 82 5 W3)
  have hS4 : Blk W4 S 35 #[.int .u8 (pass : Int), .int .u8 (way : Int), .int .i64 rule, .slice oa path.length cap, .int .i64 place] := by rw [← hW4]; exact hS3.alloc _
  have hl4 : Lies w W4 := by rw [← hW4]; exact hl3.alloc hl3.size _
  have hSb : S < b := by rw [← hb0]; exact hS3.lt
  have hwb : w.heap.size ≤ b := by rw [← hb0]; exact hl3.size
  have hb4 : b ≤ W4.heap.size := by rw [← hW4, ← hb0]; simp
  rw [hW4]
  try simp only [hb0]
  have HT4 := Lib.hid (HT.out.lies hl4)
  clear hW4 hb0 hS0 hS3 hl3 hlw2
  have c0 : W4.cell? ⟨S, 0, none⟩ = some (.int .u8 (pass : Int)) := hS4.cell 0
  have c1 : W4.cell? ⟨S, 1, none⟩ = some (.int .u8 (way : Int)) := hS4.cell 1
  have c2 : W4.cell? ⟨S, 2, none⟩ = some (.int .i64 rule) := hS4.cell 2
  have hlS := hS4.lt
  obtain ⟨A1, hA1, hz1, kA⟩ := itoa_str (n := (pass : Int)) (by omega) (by omega) HT4.out
  obtain ⟨A2, hA2, hz2, kB⟩ := itoa_str (n := (way : Int)) (by omega) (by omega) HT4.out
  obtain ⟨A3, hA3, hz3, kC⟩ := itoa_str (n := rule) h1.1 h1.2 HT4.out
  obtain ⟨A4, hA4, hz4, kD⟩ := itoa_str (n := place) h2.1 h2.2 HT.out
  have HR2 : Hid (r = Lib.itoa pass ++ [46] ++ Lib.itoa way ++ [32] ++ Lib.itoa rule ++ pathS path ++ [32, 64] ++ Lib.itoa place) := Lib.hid HR.out
  have hX : Hid (A1 ++ ⟨#[46]⟩ ++ A2 ++ ⟨#[32]⟩ ++ A3 = ⟨(Lib.itoa pass ++ [46] ++ Lib.itoa way ++ [32] ++ Lib.itoa rule).toArray⟩) := Lib.hid (by
    rw [hA1, hA2, hA3, ← str_add, ← str_add, ← str_add, ← str_add])
  obtain ⟨L1, hL1⟩ : ∃ L1, L1 = Lib.itoa pass ++ [46] ++ Lib.itoa way ++ [32] ++ Lib.itoa rule := ⟨_, rfl⟩
  have hL1z : L1.length ≤ 40 := by
    have e1 := itoa_len (n := (pass : Int)) (by omega) (by omega)
    have e2 := itoa_len (n := (way : Int)) (by omega) (by omega)
    have e3 := itoa_len h1.1 h1.2
    rw [hL1]; simp; omega
  rw [← hL1] at hX HR2
  have HD := Lib.hid hA4
  have HD2 := Lib.hid kD
  clear HR hA1 hA2 hA3 hA4 kD hL1
  have hs1 : ¬ (9223372036854775807 < A1.size + 1) := by omega
  have hs2 : ¬ (9223372036854775807 < A1.size + 1 + A2.size) := by omega
  have hs3 : ¬ (9223372036854775807 < A1.size + 1 + A2.size + 1) := by omega
  have hs4 : ¬ (9223372036854775807 < A1.size + 1 + A2.size + 1 + A3.size) := by omega
  (refine wp_region_quiet_tail (C := Lies _) 15 (by kernel_rfl) (by kernel_rfl) (Lies.drew (Lies.start _)) ?_; simp only [List.take_succ_cons, List.take_zero, List.take_nil, List.drop_succ_cons, List.drop_zero, List.drop_nil]; (repeat (first | (refine quiet_skip rfl ?_; simp only [Act.put, List.setIfInBounds_toArray, List.set_cons_zero, List.set_cons_succ]) | (apply quiet_op _ rfl; (focus (intro w1 hw1; have hc1 := hw1.cells; go_simp; (try go_bits); (try (rw [if_pos (by omega)]; go_simp)); first | (go_at_call 39; with_reducible exact Calls.lies hw1 (kA w1 hw1)) | (go_at_call 39; with_reducible exact Calls.lies hw1 (kB w1 hw1)) | (go_at_call 39; with_reducible exact Calls.lies hw1 (kC w1 hw1)) | (go_at_call 39; exact Calls.lies hw1 (kA w1 hw1)) | (go_at_call 39; exact Calls.lies hw1 (kB w1 hw1)) | (go_at_call 39; exact Calls.lies hw1 (kC w1 hw1)) | rfl)); simp only [Act.put, List.setIfInBounds_toArray, List.set_cons_zero, List.set_cons_succ]))); refine wpQuiet_nil ?_; intro w5 hw5)
  have m0 := @ws_any b b [] L1 w5 (IsB.lies hI4 hw5) (by simp; omega) (Nat.le_trans hb4 hw5.size)
  rw [← hX.out] at m0
  go_upto_region 8 with (go_at_call 38; refine m0.mono ?_; rintro e w6 ⟨rfl, hw6⟩)
  have hI6 := hw6.1
  have hb6 : Below b W4 w6 := (hw5.mono hb4).trans hw6.2.1
  rw [List.nil_append] at hI6
  have hS6 := hS4.below hb6 hSb
  clear m0 hX hs1 hs2 hs3 hs4 kA kB kC hz1 hz2 hz3 hw6 hw5 hI4 c0 c1 c2 hlS HT4
  have c3 : w6.cell? ⟨S, 3, none⟩ = some (.slice oa path.length cap) := hS6.cell 3
  have hlS := hS6.lt
  go_wp2_with fail
  clear c3 hlS hS6
  go_loopw [33] (fun j wr => ∃ k : Nat, j = .int .i64 (k : Int) ∧ k ≤ path.length ∧ Hid (Below b W4 wr) ∧ Hid (Lib.IsBuilderF 82 5 b b (Lib.byteCells (L1 ++ pathS (path.take k))) wr)) (fun j _ => path.length - (intOf j).toNat)
  case atStart => exact ⟨0, rfl, by omega, Lib.hid hb6, Lib.hid (by simpa [pathS] using hI6)⟩
  case round =>
    clear hI6 hb6
    obtain ⟨k, rfl, hk, hb, hI⟩ := hrel
    have hlr : Lies w wr := Below.trans hl4 (hb.out.mono hwb)
    have hpk := pathS_len (take_pos H4.out k)
    rw [List.length_take] at hpk
    by_cases hlt : k < path.length
    · have d1 : decide (k < path.length) = true := decide_eq_true hlt
      obtain ⟨b1, off, cap', hv, _, hc, hb1⟩ := (HP.out.lies hlr).cell hlt
      injection hv with e1 e2 e3
      subst e1
      clear e2 e3
      have hx := H4.out _ (List.getElem_mem hlt)
      have hst : pathS (path.take (k + 1)) = pathS (path.take k) ++ 47 :: Lib.itoa path[k] := by rw [List.take_succ_eq_append_getElem hlt, pathS_snoc]
      have HST := Lib.hid hst
      clear hst
      generalize path[k] = x at *
      obtain ⟨A, hA, hz, kP⟩ := itoa_str (n := x) hx.1 hx.2 (HT.out.lies hlr)
      have hlen := itoa_len hx.1 hx.2
      have m1 : ∀ W, Lies wr W → Calls Tryd.prog 38 #[.pointer (some ⟨b, 0, none⟩), .string (⟨#[47]⟩ ++ A)] W fun e w' => e = .returned (.tuple #[.int .i64 ((47 :: Lib.itoa x).length : Int), .nilIface]) ∧ BW b b (L1 ++ pathS (path.take k) ++ 47 :: Lib.itoa x) W w' := fun W hW => by
        have := @ws_any b b (L1 ++ pathS (path.take k)) (47 :: Lib.itoa x) W (IsB.lies hI.out hW) (by simp; omega) (Nat.le_trans hb4 (Nat.le_trans hb.out.size hW.size))
        rw [hA, show (⟨#[47]⟩ : ByteArray) = ⟨[47].toArray⟩ from rfl, str_add]
        exact this
      have hs1 : ¬ (9223372036854775807 < 1 + A.size) := by omega
      have HA := Lib.hid hA
      clear hA hlen hx hpk
      go_wp2_with (first | (go_at_call 39; refine (kP _ (Lies.start _)).mono ?_; rintro e w7 ⟨rfl, hw7⟩) | (go_at_call 38; refine (m1 _ hw7).mono ?_; rintro e w8 ⟨rfl, hw8⟩))
      go_roundw
      case rel => exact ⟨k + 1, by go_num, by omega, Lib.hid (hb.out.trans ((hw7.mono (Nat.le_trans hb4 hb.out.size)).trans hw8.2.1)), Lib.hid (by rw [HST.out, ← List.append_assoc]; exact hw8.1)⟩
      case measure => simp [intOf]; omega
    · obtain rfl : k = path.length := by omega
      have d1 : decide (path.length < path.length) = false := decide_eq_false hlt
      have hI9 := hI.out
      rw [List.take_length] at hI9 hpk
      have hSr := hS4.below hb.out hSb
      have c4 : wr.cell? ⟨S, 4, none⟩ = some (.int .i64 place) := hSr.cell 4
      have hlS := hSr.lt
      have kP : ∀ W, Lies wr W → Calls Tryd.prog 39 #[.int .i64 place] W (Ret (.string A4) W) := fun W hW => HD2.out W (Below.trans hlr (hW.mono hlr.size))
      have hlen := itoa_len h2.1 h2.2
      have hbr : b ≤ wr.heap.size := Nat.le_trans hb4 hb.out.size
      have m1 : ∀ W, Lies wr W → Calls Tryd.prog 38 #[.pointer (some ⟨b, 0, none⟩), .string (⟨#[32, 64]⟩ ++ A4)] W fun e w' => e = .returned (.tuple #[.int .i64 (([32, 64] ++ Lib.itoa place).length : Int), .nilIface]) ∧ BW b b (L1 ++ pathS path ++ ([32, 64] ++ Lib.itoa place)) W w' := fun W hW => by
        have := @ws_any b b (L1 ++ pathS path) ([32, 64] ++ Lib.itoa place) W (IsB.lies hI9 hW) (by simp; omega) (Nat.le_trans hbr hW.size)
        rw [HD.out, show (⟨#[32, 64]⟩ : ByteArray) = ⟨[32, 64].toArray⟩ from rfl, str_add]
        exact this
      have hs1 : ¬ (9223372036854775807 < 2 + A4.size) := by omega
      clear hpk hI9 hlen
      go_upto_region 14 with (first | (go_at_call 39; refine (kP _ (Lies.start _)).mono ?_; rintro e w7 ⟨rfl, hw7⟩) | (go_at_call 38; refine (m1 _ hw7).mono ?_; rintro e w8 ⟨rfl, hw8⟩))
      have m2 := Tryd.Builder_String_any_k b b _ w8 hw8.1 (Nat.le_trans hbr (Nat.le_trans hw7.size hw8.2.1.size))
      go_wp2_with (go_at_call 40; refine m2.mono ?_; rintro e w9 ⟨rfl, hw9⟩)
      go_ret
      refine ⟨?_, ?_⟩
      · rw [HR2.out]
        simp [strV]
      · exact Below.trans hlr (((hw7.mono hlr.size).trans (hw8.2.1.mono hwb)).trans (hw9.2.1.mono hwb))
end Go.Proofs.YtbgmjlonbbmffaaDoor
