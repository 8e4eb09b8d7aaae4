/- log.Encode. -/
import Derived.Test.YtbgmjlonbbmffaaDoorL4
import Derived.Deep.Cut
namespace Go.Proofs.YtbgmjlonbbmffaaDoor
open Go Go.RowKit
def encB (x : ItemD) : List Nat := if x.mark then [0] else vbs [(x.step.pass : Int), (x.step.way : Int), x.step.rule, (x.step.path.length : Int)] ++ vbs x.step.path ++ vbs [x.step.place]
def encL (l : List ItemD) : List Nat := vb l.length ++ l.flatMap encB
def encP (l : List ItemD) : List Nat × Nat := if 4096 < l.length then ([], 40) else if l.all mayB then (encL l, 0) else ([], 4)
theorem ints_new (w : World) (l : List Int) (hl : l.length ≤ 1000) : IntsAt (w.alloc (.cells (l.map (Value.int .i64)).toArray 3)) (fun b => b = w.heap.size) (.slice (some ⟨w.heap.size, 0, none⟩) l.length l.length) l := by
  refine ⟨_, _, rfl, by unfold maxLen; omega, fun _ => ⟨w.heap.size, 0, rfl, rfl, fun i x hi => ?_⟩⟩
  rw [Nat.zero_add, (Blk.new w 3 _).cell i]
  simp [hi]
theorem mayB_spec {x : ItemD} (h : mayB x = true) (hm : x.mark = false) : x.step.pass ≠ 0 ∧ (0 ≤ x.step.rule ∧ x.step.rule ≤ 2147483647) ∧ (0 ≤ x.step.place ∧ x.step.place ≤ 2147483647) ∧ x.step.path.length ≤ 32 ∧ ∀ n ∈ x.step.path, 0 ≤ n ∧ n ≤ 2147483647 := by
  unfold mayB at h
  rw [hm] at h
  simp [fitsB] at h
  exact ⟨h.1.1.1.1, h.1.1.1.2, h.1.1.2, h.1.2, h.2⟩
theorem row_lies {w w1 w2 : World} {v : Value} {n : Nat} {xs : List Value} (h : Lies w w1) (hrow : w1.ownsRow w.heap.size 5 1 v n xs) (hg : w1.grownBy w2 v.ownBlock) : Lies w w2 :=
  Below.grown h hg h.size (fun k hk => (hrow.lt k hk).1)
theorem encB_len {x : ItemD} (h : mayB x = true) (hok : x.step.ok) : (encB x).length ≤ 200 := by
  unfold encB
  cases hm : x.mark
  · obtain ⟨_, h1, h2, h3, h4⟩ := mayB_spec h hm
    have a1 := @vbs_len [(x.step.pass : Int), (x.step.way : Int), x.step.rule, (x.step.path.length : Int)] (by
      have := hok.1; have := hok.2
      intro y hy; simp at hy; rcases hy with rfl | rfl | rfl | rfl <;> omega)
    have a2 := @vbs_len x.step.path (fun y hy => by have := h4 y hy; omega)
    have a3 := @vbs_len [x.step.place] (by intro y hy; simp at hy; subst hy; omega)
    simp at a1 a3 ⊢
    omega
  · simp
theorem encs_len {l : List ItemD} (h : l.all mayB = true) (hok : ∀ x ∈ l, x.step.ok) : (l.flatMap encB).length ≤ 200 * l.length := by
  induction l with
  | nil => simp
  | cons x l ih =>
    rw [List.all_cons, Bool.and_eq_true] at h
    have h1 := encB_len h.1 (hok x (by simp))
    have h2 := ih h.2 (fun y hy => hok y (by simp [hy]))
    simp only [List.flatMap_cons, List.length_append, List.length_cons]
    omega
theorem row_next {W : World} {base n : Nat} {u : Value} {Y A z : List Nat} (h : W.ownsRow base 5 1 u (n + z.length) ((Y ++ z).map nb)) (hn : n = A.length) (hY : Y = A) : W.ownsRow base 5 1 u (A ++ z).length ((A ++ z).map nb) := by
  subst hY
  rw [List.length_append, ← hn]; exact h
set_option maxRecDepth 100000 in
set_option maxHeartbeats 2000000 in
theorem encode_any {w : World} {F : Nat → Prop} {v : Value} {l : List ItemD} (hI : ItemsAt w F v l) (hF : ∀ b, F b → b < w.heap.size) :
    Calls Tryd.prog 9 #[v] w (Ret (.tuple #[strV ((encP l).1.map UInt8.ofNat), .int .i64 ((encP l).2 : Int)]) w) := by
  obtain ⟨r, hr⟩ : ∃ r, r = encP l := ⟨_, rfl⟩
  rw [← hr]
  obtain ⟨oa, cap, hv⟩ := hI.slice
  have hml := hI.len
  have hok : ∀ x ∈ l, x.step.ok := by obtain ⟨_, _, _, _, h, _⟩ := hI; exact h
  have HI := Lib.hid hI
  have HR := Lib.hid hr
  have HF := Lib.hid hF
  have HOK := Lib.hid hok
  clear hI hr hF hok
  subst hv
  by_cases hlen : 4096 < l.length
  · obtain rfl : r = ([], 40) := by rw [HR.out]; unfold encP; rw [if_pos hlen]
    have d1 : decide (4096 < (l.length : Int)) = true := decide_eq_true (by omega)
    clear HR hlen
    go_enter Tryd.func9, Tryd.ntmps9
    go_wp2
    go_ret2
    exact ⟨rfl, Below.refl _ _⟩
  have d1 : decide (4096 < (l.length : Int)) = false := decide_eq_false (by omega)
  have hr2 : r = if l.all mayB then (encL l, 0) else ([], 4) := by rw [HR.out]; unfold encP; rw [if_neg hlen]
  have HR2 := Lib.hid hr2
  have kp := put_any (w := w.alloc (.cells #[.int .i64 (l.length : Int)] 3)) (F := fun b => b = w.heap.size) (base := w.heap.size) (n := 0) (v := .slice none 0 0) (xs := []) (World.ownsRow_nil _ _ _ _) (ints_new w [(l.length : Int)] (by simp)) (fun b hb => by subst hb; exact ⟨by simp [Value.ownBlock], by simp⟩) (by intro y hy; simp at hy; subst hy; omega) (by simp) (by simp)
  clear HR hr2
  go_enter Tryd.func9, Tryd.ntmps9
  go_upto_region 4 with (go_at_call 26; refine kp.mono ?_; rintro e w1 ⟨u0, rfl, hrow0, hg0, hf0⟩)
  have hl1 : Lies w w1 := by
    have h0 : Lies w (w.alloc (.cells #[.int .i64 (l.length : Int)] 3)) := (Lies.start w).alloc (Nat.le_refl _) _
    exact row_lies (v := .slice none 0 0) (n := 0) (xs := []) h0 (World.ownsRow_nil _ _ _ _) hg0
  have hrow1 : w1.ownsRow w.heap.size 5 1 u0 (vb l.length).length ((vb l.length).map nb) := by simpa [vbs] using hrow0
  clear hrow0 hg0 hf0 kp d1
  have HL := Lib.hid hlen
  clear hlen
  go_wp2_with fail
  go_loopw [4, 17] (fun u j wr => ∃ k : Nat, j = .int .i64 (k : Int) ∧ k ≤ l.length ∧ Hid (wr.ownsRow w.heap.size 5 1 u (vb l.length ++ (l.take k).flatMap encB).length ((vb l.length ++ (l.take k).flatMap encB).map nb)) ∧ Lies w wr ∧ Hid ((l.take k).all mayB = true)) (fun _ j _ => l.length - (intOf j).toNat)
  case atStart => exact ⟨0, rfl, by omega, Lib.hid (by simpa using hrow1), hl1, Lib.hid rfl⟩
  case round =>
    clear hrow1 hl1
    obtain ⟨k, rfl, hk, hrow, hl, hal⟩ := hrel
    by_cases hlt : k < l.length
    case neg =>
      obtain rfl : k = l.length := by omega
      have d1 : decide (l.length < l.length) = false := decide_eq_false hlt
      have hall := hal.out
      rw [List.take_length] at hall
      obtain rfl : r = (encL l, 0) := by rw [HR2.out, if_pos hall]
      have h1 := hrow.out
      rw [List.take_length] at h1
      have hcv := run_convert_own (P := Tryd.prog) (encL l) Tryd.underlying61 Tryd.underlying5 Tryd.underlying9 h1
      clear h1 hrow hall
      go_wp2
      go_ret2
      exact ⟨rfl, hl⟩
    have d1 : decide (k < l.length) = true := decide_eq_true hlt
    obtain ⟨b, off, cap', pv, hv, hFb, hb, hp, hx, c0, c1, c2, c3, c4, c5⟩ := (HI.out.lies hl).cell hlt
    obtain ⟨oa2, cap2, hpv⟩ := hp.slice
    injection hv with e1 e2 e3
    subst e1 hpv
    clear e2 e3
    obtain ⟨x, hxe⟩ : ∃ x, x = l[k] := ⟨_, rfl⟩
    rw [← hxe] at hp hx c0 c1 c2 c3 c4 c5
    have hst : (l.take (k + 1)).flatMap encB = (l.take k).flatMap encB ++ encB x := by rw [List.take_succ_eq_append_getElem hlt, ← hxe]; simp
    have hal2 : (l.take (k + 1)).all mayB = mayB x := by rw [List.take_succ_eq_append_getElem hlt, List.all_append, hal.out, ← hxe]; simp
    have hno : mayB x = false → l.all mayB = false := fun h => by rw [List.all_eq_false]; exact ⟨x, by rw [hxe]; exact List.getElem_mem hlt, by rw [h]; simp⟩
    have hbnd : (vb l.length ++ (l.take k).flatMap encB).length ≤ 1000000 := by
      have h1 := encs_len hal.out (fun y hy => HOK.out y (List.mem_of_mem_take hy))
      have h2 := @vb_five l.length (by have := HL.out; omega)
      have := HL.out
      rw [List.length_take] at h1
      rw [List.length_append]
      omega
    have HST := Lib.hid hst
    have HAL2 := Lib.hid hal2
    have HNO := Lib.hid hno
    obtain ⟨n, hn⟩ : ∃ n, n = (vb l.length ++ (l.take k).flatMap encB).length := ⟨_, rfl⟩
    obtain ⟨Y, hY⟩ : ∃ Y, Y = vb l.length ++ (l.take k).flatMap encB := ⟨_, rfl⟩
    have hrow' : Hid (wr.ownsRow w.heap.size 5 1 u4 n (Y.map nb)) := Lib.hid (by rw [hn, hY]; exact hrow.out)
    rw [← hn] at hbnd
    have HY := Lib.hid hY
    have HNN := Lib.hid hn
    clear hst hal2 hno hxe hal hrow hn hY
    obtain ⟨m, ⟨pass, way, rule, path, place⟩⟩ := x
    simp only at hp hx c0 c1 c2 c3 c4 c5
    have kmay := fun W (h : IntsAt W F (.slice oa2 path.length cap2) path) => @may_any ⟨m, ⟨pass, way, rule, path, place⟩⟩ _ W F h
    simp only at kmay
    go_upto_region 11 with (fail)
    obtain ⟨W1, hW1⟩ : ∃ W1, (wr.alloc (.cells #[.bool m, .int .u8 (pass : Int), .int .u8 (way : Int), .int .i64 rule, .slice oa2 path.length cap2, .int .i64 place] 37)).alloc (.cells #[.int .u8 (pass : Int), .int .u8 (way : Int), .int .i64 rule, .slice oa2 path.length cap2, .int .i64 place] 35) = W1 := ⟨_, rfl⟩
    obtain ⟨g6, hg6⟩ : ∃ g6, g6 = wr.heap.size := ⟨_, rfl⟩
    have hX1 : Blk W1 g6 37 #[.bool m, .int .u8 (pass : Int), .int .u8 (way : Int), .int .i64 rule, .slice oa2 path.length cap2, .int .i64 place] := by rw [← hW1, hg6]; exact (Blk.new wr 37 _).alloc _
    have hS1 : Blk W1 (g6 + 1) 35 #[.int .u8 (pass : Int), .int .u8 (way : Int), .int .i64 rule, .slice oa2 path.length cap2, .int .i64 place] := by
      rw [← hW1, hg6]
      have := Blk.new (wr.alloc (.cells #[.bool m, .int .u8 (pass : Int), .int .u8 (way : Int), .int .i64 rule, .slice oa2 path.length cap2, .int .i64 place] 37)) 35 #[.int .u8 (pass : Int), .int .u8 (way : Int), .int .i64 rule, .slice oa2 path.length cap2, .int .i64 place]
      rwa [World.size_alloc] at this
    have hl1 : Lies w W1 := by rw [← hW1]; exact (hl.alloc hl.size _).alloc (by have := hl.size; simp; omega) _
    have hp1 : IntsAt W1 F (.slice oa2 path.length cap2) path := by rw [← hW1]; exact (hp.alloc _).alloc _
    have hrow1 : W1.ownsRow w.heap.size 5 1 u4 n (Y.map nb) := by rw [← hW1]; exact (hrow'.out.alloc _).alloc _
    have hug : ∀ g, u4.ownBlock = some g → g < g6 := fun g hg => by rw [hg6]; exact (hrow'.out.lt g hg).2
    have hz1 : W1.heap.size = g6 + 2 := by rw [← hW1, hg6]; simp
    have hwg : w.heap.size ≤ g6 := by rw [hg6]; exact hl.size
    rw [hW1]
    try rw [← hg6]
    clear hW1 hg6 hrow' hp hl c0 c1 c2 c3 c4 c5 hb hFb
    have hcX := hX1.cell
    have hlX := hX1.lt
    have k15 := kmay W1 hp1
    cases hmay : mayB ⟨m, ⟨pass, way, rule, path, place⟩⟩
    · have hf := HNO.out hmay
      obtain rfl : r = ([], 4) := by rw [HR2.out, hf]; rfl
      rw [hmay] at k15
      clear hmay hf HR2 HNO HAL2
      go_wp2_with (go_at_call 15; refine k15.mono ?_; rintro e W2 ⟨rfl, hl2⟩)
      go_ret2
      exact ⟨rfl, Lies.below hl2 hl1.size hl1⟩
    have hspec := mayB_spec hmay
    rw [hmay] at k15
    have HAL : Hid ((l.take (k + 1)).all mayB = true) := Lib.hid (by rw [HAL2.out, hmay])
    go_upto_region 13 with (go_at_call 15; refine k15.mono ?_; rintro e W2 ⟨rfl, hl2⟩)
    have hX2 := hX1.lies hl2
    have hS2 := hS1.lies hl2
    have hp2 := hp1.lies hl2
    have hrow2 := ownsRow_lies hrow1 hl2
    have hlw2 : Lies w W2 := Lies.below hl2 hl1.size hl1
    have hz2 : g6 + 2 ≤ W2.heap.size := by rw [← hz1]; exact hl2.size
    clear hX1 hS1 hp1 hrow1 hl1 hl2 hcX hlX k15 kmay hz1 HAL2 HNO hmay
    have hcX := hX2.cell
    have hlX := hX2.lt
    cases m
    case true =>
      have kp := put_any (w := W2.alloc (.cells #[.int .i64 0] 3)) (F := fun b => b = W2.heap.size) (base := w.heap.size) (n := n) (v := u4) (xs := Y) (hrow2.alloc _) (ints_new W2 [(0 : Int)] (by simp)) (fun b hb => by subst hb; exact ⟨fun e => by have := hug _ e; omega, by simp⟩) (by intro y hy; simp at hy; subst hy; omega) (by simp; omega) (by have := hlw2.size; simp; omega)
      clear hspec
      go_wp2_with (go_at_call 26; refine kp.mono ?_; rintro e W3 ⟨u1, rfl, hrow3, hg3, hf3⟩)
      have hl3 : Lies w W3 := row_lies (hlw2.alloc hlw2.size _) (hrow2.alloc _) hg3
      have hfin : Hid (W3.ownsRow w.heap.size 5 1 u1 (vb l.length ++ (l.take (k + 1)).flatMap encB).length ((vb l.length ++ (l.take (k + 1)).flatMap encB).map nb)) := Lib.hid (by
        rw [HST.out, ← List.append_assoc]
        have := row_next hrow3 HNN.out HY.out
        simpa [encB, vbs, vb_small] using this)
      go_roundw
      case rel => exact ⟨k + 1, by go_num, by omega, hfin, hl3, HAL⟩
      case measure => simp [intOf]; omega
    obtain ⟨_, hr1, hr2, hr3, hr4⟩ := hspec rfl
    have hr1' : 0 ≤ rule ∧ rule ≤ 2147483647 := hr1
    have hr2' : 0 ≤ place ∧ place ≤ 2147483647 := hr2
    have hr3' : path.length ≤ 32 := hr3
    have hr4' : ∀ n ∈ path, 0 ≤ n ∧ n ≤ 2147483647 := hr4
    have hok1 : pass < 256 ∧ way < 256 := hx
    obtain ⟨z1, hz1⟩ : ∃ z1, z1 = vbs [(pass : Int), (way : Int), rule, (path.length : Int)] := ⟨_, rfl⟩
    obtain ⟨z2, hz2'⟩ : ∃ z2, z2 = vbs path := ⟨_, rfl⟩
    obtain ⟨z3, hz3⟩ : ∃ z3, z3 = vbs [place] := ⟨_, rfl⟩
    have hb1 : z1.length ≤ 20 := by rw [hz1]; have := @vbs_len [(pass : Int), (way : Int), rule, (path.length : Int)] (by intro y hy; simp at hy; rcases hy with rfl | rfl | rfl | rfl <;> omega); simpa using this
    have hb2 : z2.length ≤ 160 := by rw [hz2']; have := @vbs_len path (fun y hy => by have := hr4' y hy; omega); omega
    have hb3 : z3.length ≤ 5 := by rw [hz3]; have := @vbs_len [place] (by intro y hy; simp at hy; subst hy; omega); simpa using this
    have kp := put_any (w := W2.alloc (.cells #[.int .i64 (pass : Int), .int .i64 (way : Int), .int .i64 rule, .int .i64 (path.length : Int)] 3)) (F := fun b => b = W2.heap.size) (base := w.heap.size) (n := n) (v := u4) (xs := Y) (hrow2.alloc _) (ints_new W2 [(pass : Int), (way : Int), rule, (path.length : Int)] (by simp)) (fun b hb => by subst hb; exact ⟨fun e => by have := hug _ e; omega, by simp⟩) (by intro y hy; simp at hy; rcases hy with rfl | rfl | rfl | rfl <;> omega) (by simp; omega) (by have := hlw2.size; simp; omega)
    rw [← hz1] at kp
    have hcS := hS2.cell
    have hlS := hS2.lt
    clear hr1 hr2 hr3 hr4
    go_upto_region 9 with (go_at_call 26; refine kp.mono ?_; rintro e W3 ⟨u1, rfl, hrow3, hg3, hf3⟩)
    have hl3 : Lies w W3 := row_lies (hlw2.alloc hlw2.size _) (hrow2.alloc _) hg3
    have hS3 : Blk W3 (g6 + 1) 35 _ := (hS2.alloc _).grown hg3 (fun e => by have := hug _ e.symm; omega)
    have hp3 : IntsAt W3 F (.slice oa2 path.length cap2) path := (hp2.alloc _).kept hg3 (fun r e hr => by have := HF.out r hr; have := (hrow2.lt r e).1; omega)
    have hu1 : ∀ g, u1.ownBlock = some g → g ≠ g6 + 1 := fun g hg => by
      rcases hf3 g hg with h | h
      · have := hug g h; omega
      · have : W2.heap.size ≤ g := Nat.le_trans (by simp) h
        omega
    clear hcS hlS hcX hlX kp hX2 hS2 hp2 hrow2 hlw2 hg3 hf3
    have kp2 := put_any (w := W3) (F := F) (base := w.heap.size) hrow3 hp3 (fun b hb => by have := HF.out b hb; exact ⟨fun e => by have := (hrow3.lt b e).1; omega, by have := hl3.size; omega⟩) (fun y hy => by have := hr4' y hy; omega) (by omega) hl3.size
    rw [← hz2'] at kp2
    have hcS := hS3.cell
    have hlS := hS3.lt
    go_upto_region 10 with (go_at_call 26; refine kp2.mono ?_; rintro e W4 ⟨u2, rfl, hrow4, hg4, hf4⟩)
    have hl4 : Lies w W4 := row_lies hl3 hrow3 hg4
    have hS4 : Blk W4 (g6 + 1) 35 _ := hS3.grown hg4 (fun e => hu1 _ e.symm rfl)
    clear hcS hlS kp2 hS3 hp3 hrow3 hl3 hg4 hf4 hu1
    have kp3 := put_any (w := W4.alloc (.cells #[.int .i64 place] 3)) (F := fun b => b = W4.heap.size) (base := w.heap.size) (hrow4.alloc _) (ints_new W4 [place] (by simp)) (fun b hb => by subst hb; exact ⟨fun e => by have := (hrow4.lt _ e).2; omega, by simp⟩) (by intro y hy; simp at hy; subst hy; omega) (by simp; omega) (by have := hl4.size; simp; omega)
    rw [← hz3] at kp3
    have hcS := hS4.cell
    have hlS := hS4.lt
    go_wp2_with (go_at_call 26; refine kp3.mono ?_; rintro e W5 ⟨u3, rfl, hrow5, hg5, hf5⟩)
    have hl5 : Lies w W5 := row_lies (hl4.alloc hl4.size _) (hrow4.alloc _) hg5
    have hfin : Hid (W5.ownsRow w.heap.size 5 1 u3 (vb l.length ++ (l.take (k + 1)).flatMap encB).length ((vb l.length ++ (l.take (k + 1)).flatMap encB).map nb)) := Lib.hid (by
      rw [HST.out, ← List.append_assoc]
      have e : encB ⟨false, ⟨pass, way, rule, path, place⟩⟩ = z1 ++ z2 ++ z3 := by rw [hz1, hz2', hz3]; rfl
      rw [e]
      refine row_next (n := n) (Y := Y) ?_ HNN.out HY.out
      simpa [List.append_assoc, Nat.add_assoc] using hrow5)
    go_roundw
    case rel => exact ⟨k + 1, by go_num, by omega, hfin, hl5, HAL⟩
    case measure => simp [intOf]; omega
end Go.Proofs.YtbgmjlonbbmffaaDoor
