/- SetLaws. -/
import Derived.Test.YtakcckdnliiieaaDoorSet14
import Derived.Test.YtakcckdnliiieaaDoorStp
namespace Go.Proofs.YtakcckdnliiieaaDoor
open Go Go.RowKit
attribute [local go_sem] Oper.quietAt Oper.quietUpon Oper.loudAt Oper.loudUpon
theorem BS.not_not (s : BS) : s.not.not = s := BS.ext_has fun n hn => by simp [BS.has_not]
theorem BS.not_or (s t : BS) : s.not.and t.not = (s.or t).not := BS.ext_has fun n hn => by simp [BS.has_not, BS.has_and, BS.has_or]
theorem BS.minus_not (s t : BS) : s.and t.not = s.minus t := BS.ext_has fun n hn => by simp [BS.has_not, BS.has_and, BS.has_minus]
theorem BS.of_bytes (s : BS) : BS.ofBytes s.bytes = s := BS.ext_has fun n hn => by
  rw [BS.has_ofBytes _ n hn, Bool.eq_iff_iff, List.any_eq_true]
  constructor
  · rintro ⟨c, hc, he⟩
    unfold BS.bytes at hc
    rw [List.mem_map] at hc
    obtain ⟨m, hm, rfl⟩ := hc
    have h1 := (BS.mem_list s m).1 hm
    have : m = n := by
      have h2 : (UInt8.ofNat m).toNat = n := by simpa using he
      simp at h2; omega
    rw [← this]; exact h1.2
  · intro h
    refine ⟨UInt8.ofNat n, ?_, by simp; omega⟩
    unfold BS.bytes
    exact List.mem_map.2 ⟨n, (BS.mem_list s n).2 ⟨hn, h⟩, rfl⟩
theorem BS.of_twice (l : List UInt8) : BS.ofBytes (l ++ l) = BS.ofBytes l := BS.ext_has fun n hn => by
  rw [BS.has_ofBytes _ n hn, BS.has_ofBytes _ n hn, List.any_append, Bool.or_self]
theorem has_eq (s : BS) (b : Nat) (v : Bool) (hb : b < 256) (h : s.has b = v) (w : World) : Calls Tryd.prog 22 #[.agg s.cells, .int .u8 (b : Int)] w (Ret (.bool v) w) := by
  subst h; exact has_any s b w hb
theorem append_data (A B : ByteArray) : (A ++ B).data.toList = A.data.toList ++ B.data.toList := by simp
theorem nat_beq (a b : Nat) : ((a : Int) == (b : Int)) = (a == b) := by rw [Bool.eq_iff_iff]; simp only [beq_iff_eq]; omega
theorem ret_beq (c : Bool) : Ending.returned (.bool (c == c)) = .returned (.bool true) := by cases c <;> rfl
def inB (l : List UInt8) (b : Nat) : Bool := l.any fun c => c.toNat == b
theorem inB_snoc (l : List UInt8) (c : UInt8) (b : Nat) : inB (l ++ [c]) b = (inB l b || c.toNat == b) := by simp [inB]
set_option maxRecDepth 100000 in
set_option maxHeartbeats 8000000 in
theorem laws_any (x y : BS) (b : Nat) (A : ByteArray) (hb : b < 256) (hA : A.size ≤ 140737488351232) (w : World) (he : Env w) :
    Calls Tryd.prog 7 #[.agg x.cells, .agg y.cells, .int .u8 (b : Int), .string A] w (Ret (.bool true) w) := by
  obtain ⟨W0, hW0⟩ : ∃ W0, (w.alloc (.cells x.cells 24)).alloc (.cells y.cells 24) = W0 := ⟨_, rfl⟩
  have hX0 : Blk W0 w.heap.size 24 x.cells := by rw [← hW0]; exact (Blk.new w 24 _).alloc _
  have hY0 : Blk W0 (w.heap.size + 1) 24 y.cells := by
    rw [← hW0]; have := Blk.new (w.alloc (.cells x.cells 24)) 24 y.cells; rwa [World.size_alloc] at this
  have hB0 : Below w.heap.size w W0 := by rw [← hW0]; (repeat' first | exact Below.refl _ _ | assumption | refine Below.alloc ?_ (by simp <;> omega) _ | refine Below.setCell ?_ (by simp <;> omega) _ | refine Below.drew ?_)
  have he0 : Env W0 := he.below hB0 he.1
  by_cases h : 5000 < A.size
  · have hd : decide ((5000 : Int) < (A.size : Int)) = true := by simp; omega
    go_enter Tryd.func7, Tryd.ntmps7
    go_upto_region 1 with (fail)
    clear hW0
    go_wp2_with (go_at_call 15; refine (awake_any _ he0).mono ?_; rintro e w2 ⟨rfl, hw2⟩)
    go_ret
    exact ⟨rfl, Lies.below hw2 hB0.size hB0⟩
  have hd : decide ((5000 : Int) < (A.size : Int)) = false := by simp; omega
  obtain ⟨p, hp⟩ : ∃ p, x.has b = p := ⟨_, rfl⟩
  obtain ⟨q, hq⟩ : ∃ q, y.has b = q := ⟨_, rfl⟩
  have k1 : ∀ w, Calls Tryd.prog 22 #[.agg x.cells, .int .u8 (b : Int)] w (Ret (.bool p) w) := has_eq x b p hb hp
  have k2 : ∀ w, Calls Tryd.prog 22 #[.agg y.cells, .int .u8 (b : Int)] w (Ret (.bool q) w) := has_eq y b q hb hq
  have k3 : ∀ w, Calls Tryd.prog 22 #[.agg (x.or y).cells, .int .u8 (b : Int)] w (Ret (.bool (p || q)) w) := has_eq _ b _ hb (by rw [BS.has_or, hp, hq])
  have k4 : ∀ w, Calls Tryd.prog 22 #[.agg (x.and y).cells, .int .u8 (b : Int)] w (Ret (.bool (p && q)) w) := has_eq _ b _ hb (by rw [BS.has_and, hp, hq])
  have k5 : ∀ w, Calls Tryd.prog 22 #[.agg (x.minus y).cells, .int .u8 (b : Int)] w (Ret (.bool (p && !q)) w) := has_eq _ b _ hb (by rw [BS.has_minus, hp, hq])
  have k6 : ∀ w, Calls Tryd.prog 22 #[.agg x.not.cells, .int .u8 (b : Int)] w (Ret (.bool (!p)) w) := has_eq _ b _ hb (by rw [BS.has_not, hp])
  clear hp hq
  have hcX0 := hX0.cell
  go_enter Tryd.func7, Tryd.ntmps7
  go_upto_region 1 with (fail)
  clear hW0
  go_upto_region 3 with (go_at_call 15; refine (awake_any _ he0).mono ?_; rintro e w2 ⟨rfl, hw2⟩)
  have hX2 := hX0.lies hw2
  have hY2 := hY0.lies hw2
  have hB2 := Lies.below hw2 hB0.size hB0
  have he2 := he0.lies hw2
  have hcX2 := hX2.cell
  have hcY2 := hY2.cell
  have hlX2 := hX2.lt
  have hlY2 := hY2.lt
  clear hX0 hY0 hB0 he0 hw2 hcX0
  (refine wp_region_quiet_all (C := Lies _) (by kernel_rfl) (by kernel_rfl) (Lies.drew (Lies.start _)) ?_; (repeat (first | (have hX_ : True := trivial; refine quiet_skip ?_ ?_; (focus exact wanted_no rfl rfl rfl); clear hX_; simp only [Act.put, List.setIfInBounds_toArray, List.set_cons_zero, List.set_cons_succ]) | (apply quiet_op _ rfl; (focus (intro w1 hw1; have hc1 := hw1.cells; go_simp; (try go_bits); (try (rw [if_pos (by omega)]; go_simp)); first | (go_at_call 22; with_reducible exact Calls.lies hw1 (k1 _)) | (go_at_call 22; with_reducible exact Calls.lies hw1 (k2 _)) | (go_at_call 22; exact Calls.lies hw1 (k1 _)) | (go_at_call 22; exact Calls.lies hw1 (k2 _)) | rfl)); simp only [Act.put, List.setIfInBounds_toArray, List.set_cons_zero, List.set_cons_succ]))); refine wpQuiet_nil ?_; intro w3 hw3)
  have hX3 := hX2.lies hw3
  have hY3 := hY2.lies hw3
  have hB3 := Lies.below hw3 hB2.size hB2
  have he3 := he2.lies hw3
  have hcX3 := hX3.cell
  have hcY3 := hY3.cell
  have hlX3 := hX3.lt
  have hlY3 := hY3.lt
  clear hX2 hY2 hB2 he2 hw3 hcX2 hcY2 hlX2 hlY2 k1 k2
  obtain ⟨z, hz⟩ : ∃ z, z = BS.ofBytes A.data.toList := ⟨_, rfl⟩
  obtain ⟨v, hv0⟩ : ∃ v, v = inB A.data.toList b := ⟨_, rfl⟩
  obtain ⟨L, hL⟩ : ∃ L : ByteArray, L = ⟨x.bytes.toArray⟩ := ⟨_, rfl⟩
  obtain ⟨M, hM⟩ : ∃ M : ByteArray, M = ⟨y.bytes.toArray⟩ := ⟨_, rfl⟩
  obtain ⟨c, hc0⟩ : ∃ c, decide (x = y) = c := ⟨_, rfl⟩
  have hzb : z.has b = v := by rw [hz, hv0]; exact BS.has_ofBytes _ b hb
  have hLM : (L.toList == M.toList) = c := by
    rw [← hc0, Lib.toList_data, Lib.toList_data, hL, hM, Bool.eq_iff_iff, beq_iff_eq, decide_eq_true_iff]
    exact ⟨fun e => BS.bytes_inj e, fun e => by rw [e]⟩
  have m1 : ∀ w, Calls Tryd.prog 18 #[.string A] w (Ret (.agg z.cells) w) := fun w => setOf_lit A z hz hA w
  have m2 : ∀ w, Calls Tryd.prog 18 #[.string (A ++ A)] w (Ret (.agg z.cells) w) := fun w => setOf_lit (A ++ A) z (by rw [hz, append_data, BS.of_twice]) (by rw [ByteArray.size_append]; omega) w
  have m3 : ∀ w, Calls Tryd.prog 18 #[.string L] w (Ret (.agg x.cells) w) := fun w => setOf_lit L x (by rw [hL]; simp [BS.of_bytes]) (by rw [size_str hL]; have := BS.len_le x; omega) w
  have m4 : ∀ w, Calls Tryd.prog 22 #[.agg z.cells, .int .u8 (b : Int)] w (Ret (.bool v) w) := has_eq z b v hb hzb
  have m5 : ∀ w, Env w → Calls Tryd.prog 26 #[.agg x.cells] w (Ret (.string L) w) := list_str x L hL
  have m6 : ∀ w, Env w → Calls Tryd.prog 26 #[.agg y.cells] w (Ret (.string M) w) := list_str y M hM
  have m7 : ∀ w, Calls Tryd.prog 30 #[.agg x.not.cells] w (Ret (.agg x.cells) w) := fun w => by have := not_any x.not w; rwa [BS.not_not] at this
  have m8 : ∀ w, Calls Tryd.prog 35 #[.agg x.not.cells, .agg y.not.cells] w (Ret (.agg (x.or y).not.cells) w) := fun w => by have := and_any x.not y.not w; rwa [BS.not_or] at this
  have m9 : ∀ w, Calls Tryd.prog 35 #[.agg x.cells, .agg y.not.cells] w (Ret (.agg (x.minus y).cells) w) := fun w => by have := and_any x y.not w; rwa [BS.minus_not] at this
  have hAA : ¬ (9223372036854775807 < A.size + A.size) := by omega
  have HV := Lib.hid hv0
  clear hz hv0 hL hM hzb
  cases p <;> cases q <;> simp only [Bool.true_or, Bool.false_or, Bool.true_and, Bool.false_and, Bool.not_true, Bool.not_false] at k3 k4 k5 k6
  · go_upto_region 4 with (fail)
    (refine wp_region_text_tail (C := Lies _) 42 (Lies.start _) ?_; simp only [List.take_succ_cons, List.take_zero, List.take_nil, List.drop_succ_cons, List.drop_zero, List.drop_nil]; (repeat (first | (have hX_ : True := trivial; refine quiet_skip ?_ ?_; (focus exact wanted_no rfl rfl rfl); clear hX_; simp only [Act.put, List.setIfInBounds_toArray, List.set_cons_zero, List.set_cons_succ]) | (apply quiet_op _ rfl; (focus (intro w1 hw1; have hc1 := hw1.cells; go_simp; (try go_bits); (try (rw [if_pos (by omega)]; go_simp)); first | (go_at_call 22; with_reducible exact Calls.lies hw1 (k3 _)) | (go_at_call 22; with_reducible exact Calls.lies hw1 (k4 _)) | (go_at_call 22; with_reducible exact Calls.lies hw1 (k5 _)) | (go_at_call 22; with_reducible exact Calls.lies hw1 (k6 _)) | (go_at_call 29; with_reducible exact Calls.lies hw1 (or_any x y _)) | (go_at_call 35; with_reducible exact Calls.lies hw1 (and_any x y _)) | (go_at_call 36; with_reducible exact Calls.lies hw1 (minus_any x y _)) | (go_at_call 30; with_reducible exact Calls.lies hw1 (not_any x _)) | (go_at_call 22; exact Calls.lies hw1 (k3 _)) | (go_at_call 22; exact Calls.lies hw1 (k4 _)) | (go_at_call 22; exact Calls.lies hw1 (k5 _)) | (go_at_call 22; exact Calls.lies hw1 (k6 _)) | (go_at_call 29; exact Calls.lies hw1 (or_any x y _)) | (go_at_call 35; exact Calls.lies hw1 (and_any x y _)) | (go_at_call 36; exact Calls.lies hw1 (minus_any x y _)) | (go_at_call 30; exact Calls.lies hw1 (not_any x _)) | rfl)); simp only [Act.put, List.setIfInBounds_toArray, List.set_cons_zero, List.set_cons_succ]))); refine wpQuiet_nil ?_; intro w4 hw4)
    have hX4 := hX3.lies hw4
    have hY4 := hY3.lies hw4
    have he4 := he3.lies hw4
    have hB4 := Lies.below hw4 hB3.size hB3
    clear hX3 hY3 hB3 he3 hcX3 hcY3 hlX3 hlY3 k3 k4 k5 k6 hw4
    have hA5 : A.size ≤ 5000 := by omega
    clear h
    go_wp2_with fail
    go_loop [11, 12] (fun t i => ∃ k : Nat, k ≤ A.size ∧ i = .int .i64 (k : Int) ∧ t = .bool (inB (A.data.toList.take k) b)) (fun _ i => A.size - (intOf i).toNat)
    case atStart => exact ⟨0, by omega, rfl, rfl⟩
    case round =>
      obtain ⟨k, hk, rfl, rfl⟩ := hrel
      by_cases hlt : k < A.size
      · have hsn := inB_snoc (A.data.toList.take k) A[k] b
        rw [← take_snoc A k hlt] at hsn
        have HSN := Lib.hid hsn
        clear hsn
        cases hv : inB (A.data.toList.take k) b
        · go_wp2
          go_round
          case rel => exact ⟨k + 1, by omega, by go_num, by rw [HSN.out, hv, Bool.false_or, nat_beq]⟩
          case measure => simp [intOf]; omega
        · go_wp2
          go_round
          case rel => exact ⟨k + 1, by omega, by go_num, by rw [HSN.out, hv]; simp⟩
          case measure => simp [intOf]; omega
      · obtain rfl : k = A.size := by omega
        rw [take_all, ← HV.out]
        have hcX := hX4.cell
        have hcY := hY4.cell
        have hlX := hX4.lt
        have hlY := hY4.lt
        go_upto_region 12 with (go_at_call 18; refine (m1 _).mono ?_; rintro e w5 ⟨rfl, hw5⟩)
        obtain ⟨W6, hW6⟩ : ∃ W6, w5.alloc (.cells z.cells 24) = W6 := ⟨_, rfl⟩
        have hX5 := hX4.lies hw5
        have hY5 := hY4.lies hw5
        have hX6 : Blk W6 w.heap.size 24 x.cells := by rw [← hW6]; exact hX5.alloc _
        have hY6 : Blk W6 (w.heap.size + 1) 24 y.cells := by rw [← hW6]; exact hY5.alloc _
        have hZ6 : Blk W6 w5.heap.size 24 z.cells := by rw [← hW6]; exact Blk.new w5 24 _
        have he6 : Env W6 := by rw [← hW6]; exact (he4.lies hw5).alloc _
        have hB6 : Below w.heap.size w W6 := by rw [← hW6]; exact (Lies.below hw5 hB4.size hB4).alloc (Nat.le_of_lt hX5.lt) _
        rw [hW6]
        clear hW6 hX5 hY5 hX4 hY4 he4 hB4 hcX hcY hlX hlY hw5
        have hcX := hX6.cell
        have hcY := hY6.cell
        have hcZ := hZ6.cell
        have hlX := hX6.lt
        have hlY := hY6.lt
        have hlZ := hZ6.lt
        (refine wp_region_quiet_all (C := Lies _) (by kernel_rfl) (by kernel_rfl) (Lies.drew (Lies.start _)) ?_; (repeat (first | (have hX_ : True := trivial; refine quiet_skip ?_ ?_; (focus exact wanted_no rfl rfl rfl); clear hX_; simp only [Act.put, List.setIfInBounds_toArray, List.set_cons_zero, List.set_cons_succ]) | (apply quiet_op _ rfl; (focus (intro w1 hw1; have hc1 := hw1.cells; go_simp; (try go_bits); (try (rw [if_pos (by omega)]; go_simp)); first | (go_at_call 22; with_reducible exact Calls.lies hw1 (m4 _)) | (go_at_call 18; with_reducible exact Calls.lies hw1 (m2 _)) | (go_at_call 26; with_reducible exact Calls.lies hw1 (m5 _ (he6.lies hw1))) | (go_at_call 26; with_reducible exact Calls.lies hw1 (m6 _ (he6.lies hw1))) | (go_at_call 18; with_reducible exact Calls.lies hw1 (m3 _)) | (go_at_call 30; with_reducible exact Calls.lies hw1 (m7 _)) | (go_at_call 30; with_reducible exact Calls.lies hw1 (not_any x _)) | (go_at_call 30; with_reducible exact Calls.lies hw1 (not_any y _)) | (go_at_call 30; with_reducible exact Calls.lies hw1 (not_any (x.or y) _)) | (go_at_call 29; with_reducible exact Calls.lies hw1 (or_any x y _)) | (go_at_call 35; with_reducible exact Calls.lies hw1 (m8 _)) | (go_at_call 35; with_reducible exact Calls.lies hw1 (m9 _)) | (go_at_call 36; with_reducible exact Calls.lies hw1 (minus_any x y _)) | (go_at_call 22; exact Calls.lies hw1 (m4 _)) | (go_at_call 18; exact Calls.lies hw1 (m2 _)) | (go_at_call 26; exact Calls.lies hw1 (m5 _ (he6.lies hw1))) | (go_at_call 26; exact Calls.lies hw1 (m6 _ (he6.lies hw1))) | (go_at_call 18; exact Calls.lies hw1 (m3 _)) | (go_at_call 30; exact Calls.lies hw1 (m7 _)) | (go_at_call 30; exact Calls.lies hw1 (not_any x _)) | (go_at_call 30; exact Calls.lies hw1 (not_any y _)) | (go_at_call 30; exact Calls.lies hw1 (not_any (x.or y) _)) | (go_at_call 29; exact Calls.lies hw1 (or_any x y _)) | (go_at_call 35; exact Calls.lies hw1 (m8 _)) | (go_at_call 35; exact Calls.lies hw1 (m9 _)) | (go_at_call 36; exact Calls.lies hw1 (minus_any x y _)) | rfl)); simp only [Act.put, List.setIfInBounds_toArray, List.set_cons_zero, List.set_cons_succ]))); refine wpQuiet_nil ?_; intro w7 hw7)
        clear hcX hcY hcZ hlX hlY hlZ m1 m2 m3 m4 m5 m6 m7 m8 m9
        go_wp2
        go_ret
        exact ⟨(by first | rfl | exact ret_beq c | simp), Lies.below hw7 hB6.size hB6⟩
  · go_upto_region 4 with (fail)
    (refine wp_region_text_tail (C := Lies _) 42 (Lies.start _) ?_; simp only [List.take_succ_cons, List.take_zero, List.take_nil, List.drop_succ_cons, List.drop_zero, List.drop_nil]; (repeat (first | (have hX_ : True := trivial; refine quiet_skip ?_ ?_; (focus exact wanted_no rfl rfl rfl); clear hX_; simp only [Act.put, List.setIfInBounds_toArray, List.set_cons_zero, List.set_cons_succ]) | (apply quiet_op _ rfl; (focus (intro w1 hw1; have hc1 := hw1.cells; go_simp; (try go_bits); (try (rw [if_pos (by omega)]; go_simp)); first | (go_at_call 22; with_reducible exact Calls.lies hw1 (k3 _)) | (go_at_call 22; with_reducible exact Calls.lies hw1 (k4 _)) | (go_at_call 22; with_reducible exact Calls.lies hw1 (k5 _)) | (go_at_call 22; with_reducible exact Calls.lies hw1 (k6 _)) | (go_at_call 29; with_reducible exact Calls.lies hw1 (or_any x y _)) | (go_at_call 35; with_reducible exact Calls.lies hw1 (and_any x y _)) | (go_at_call 36; with_reducible exact Calls.lies hw1 (minus_any x y _)) | (go_at_call 30; with_reducible exact Calls.lies hw1 (not_any x _)) | (go_at_call 22; exact Calls.lies hw1 (k3 _)) | (go_at_call 22; exact Calls.lies hw1 (k4 _)) | (go_at_call 22; exact Calls.lies hw1 (k5 _)) | (go_at_call 22; exact Calls.lies hw1 (k6 _)) | (go_at_call 29; exact Calls.lies hw1 (or_any x y _)) | (go_at_call 35; exact Calls.lies hw1 (and_any x y _)) | (go_at_call 36; exact Calls.lies hw1 (minus_any x y _)) | (go_at_call 30; exact Calls.lies hw1 (not_any x _)) | rfl)); simp only [Act.put, List.setIfInBounds_toArray, List.set_cons_zero, List.set_cons_succ]))); refine wpQuiet_nil ?_; intro w4 hw4)
    have hX4 := hX3.lies hw4
    have hY4 := hY3.lies hw4
    have he4 := he3.lies hw4
    have hB4 := Lies.below hw4 hB3.size hB3
    clear hX3 hY3 hB3 he3 hcX3 hcY3 hlX3 hlY3 k3 k4 k5 k6 hw4
    have hA5 : A.size ≤ 5000 := by omega
    clear h
    go_wp2_with fail
    go_loop [11, 12] (fun t i => ∃ k : Nat, k ≤ A.size ∧ i = .int .i64 (k : Int) ∧ t = .bool (inB (A.data.toList.take k) b)) (fun _ i => A.size - (intOf i).toNat)
    case atStart => exact ⟨0, by omega, rfl, rfl⟩
    case round =>
      obtain ⟨k, hk, rfl, rfl⟩ := hrel
      by_cases hlt : k < A.size
      · have hsn := inB_snoc (A.data.toList.take k) A[k] b
        rw [← take_snoc A k hlt] at hsn
        have HSN := Lib.hid hsn
        clear hsn
        cases hv : inB (A.data.toList.take k) b
        · go_wp2
          go_round
          case rel => exact ⟨k + 1, by omega, by go_num, by rw [HSN.out, hv, Bool.false_or, nat_beq]⟩
          case measure => simp [intOf]; omega
        · go_wp2
          go_round
          case rel => exact ⟨k + 1, by omega, by go_num, by rw [HSN.out, hv]; simp⟩
          case measure => simp [intOf]; omega
      · obtain rfl : k = A.size := by omega
        rw [take_all, ← HV.out]
        have hcX := hX4.cell
        have hcY := hY4.cell
        have hlX := hX4.lt
        have hlY := hY4.lt
        go_upto_region 12 with (go_at_call 18; refine (m1 _).mono ?_; rintro e w5 ⟨rfl, hw5⟩)
        obtain ⟨W6, hW6⟩ : ∃ W6, w5.alloc (.cells z.cells 24) = W6 := ⟨_, rfl⟩
        have hX5 := hX4.lies hw5
        have hY5 := hY4.lies hw5
        have hX6 : Blk W6 w.heap.size 24 x.cells := by rw [← hW6]; exact hX5.alloc _
        have hY6 : Blk W6 (w.heap.size + 1) 24 y.cells := by rw [← hW6]; exact hY5.alloc _
        have hZ6 : Blk W6 w5.heap.size 24 z.cells := by rw [← hW6]; exact Blk.new w5 24 _
        have he6 : Env W6 := by rw [← hW6]; exact (he4.lies hw5).alloc _
        have hB6 : Below w.heap.size w W6 := by rw [← hW6]; exact (Lies.below hw5 hB4.size hB4).alloc (Nat.le_of_lt hX5.lt) _
        rw [hW6]
        clear hW6 hX5 hY5 hX4 hY4 he4 hB4 hcX hcY hlX hlY hw5
        have hcX := hX6.cell
        have hcY := hY6.cell
        have hcZ := hZ6.cell
        have hlX := hX6.lt
        have hlY := hY6.lt
        have hlZ := hZ6.lt
        (refine wp_region_quiet_all (C := Lies _) (by kernel_rfl) (by kernel_rfl) (Lies.drew (Lies.start _)) ?_; (repeat (first | (have hX_ : True := trivial; refine quiet_skip ?_ ?_; (focus exact wanted_no rfl rfl rfl); clear hX_; simp only [Act.put, List.setIfInBounds_toArray, List.set_cons_zero, List.set_cons_succ]) | (apply quiet_op _ rfl; (focus (intro w1 hw1; have hc1 := hw1.cells; go_simp; (try go_bits); (try (rw [if_pos (by omega)]; go_simp)); first | (go_at_call 22; with_reducible exact Calls.lies hw1 (m4 _)) | (go_at_call 18; with_reducible exact Calls.lies hw1 (m2 _)) | (go_at_call 26; with_reducible exact Calls.lies hw1 (m5 _ (he6.lies hw1))) | (go_at_call 26; with_reducible exact Calls.lies hw1 (m6 _ (he6.lies hw1))) | (go_at_call 18; with_reducible exact Calls.lies hw1 (m3 _)) | (go_at_call 30; with_reducible exact Calls.lies hw1 (m7 _)) | (go_at_call 30; with_reducible exact Calls.lies hw1 (not_any x _)) | (go_at_call 30; with_reducible exact Calls.lies hw1 (not_any y _)) | (go_at_call 30; with_reducible exact Calls.lies hw1 (not_any (x.or y) _)) | (go_at_call 29; with_reducible exact Calls.lies hw1 (or_any x y _)) | (go_at_call 35; with_reducible exact Calls.lies hw1 (m8 _)) | (go_at_call 35; with_reducible exact Calls.lies hw1 (m9 _)) | (go_at_call 36; with_reducible exact Calls.lies hw1 (minus_any x y _)) | (go_at_call 22; exact Calls.lies hw1 (m4 _)) | (go_at_call 18; exact Calls.lies hw1 (m2 _)) | (go_at_call 26; exact Calls.lies hw1 (m5 _ (he6.lies hw1))) | (go_at_call 26; exact Calls.lies hw1 (m6 _ (he6.lies hw1))) | (go_at_call 18; exact Calls.lies hw1 (m3 _)) | (go_at_call 30; exact Calls.lies hw1 (m7 _)) | (go_at_call 30; exact Calls.lies hw1 (not_any x _)) | (go_at_call 30; exact Calls.lies hw1 (not_any y _)) | (go_at_call 30; exact Calls.lies hw1 (not_any (x.or y) _)) | (go_at_call 29; exact Calls.lies hw1 (or_any x y _)) | (go_at_call 35; exact Calls.lies hw1 (m8 _)) | (go_at_call 35; exact Calls.lies hw1 (m9 _)) | (go_at_call 36; exact Calls.lies hw1 (minus_any x y _)) | rfl)); simp only [Act.put, List.setIfInBounds_toArray, List.set_cons_zero, List.set_cons_succ]))); refine wpQuiet_nil ?_; intro w7 hw7)
        clear hcX hcY hcZ hlX hlY hlZ m1 m2 m3 m4 m5 m6 m7 m8 m9
        go_wp2
        go_ret
        exact ⟨(by first | rfl | exact ret_beq c | simp), Lies.below hw7 hB6.size hB6⟩
  · go_upto_region 4 with (fail)
    (refine wp_region_text_tail (C := Lies _) 42 (Lies.start _) ?_; simp only [List.take_succ_cons, List.take_zero, List.take_nil, List.drop_succ_cons, List.drop_zero, List.drop_nil]; (repeat (first | (have hX_ : True := trivial; refine quiet_skip ?_ ?_; (focus exact wanted_no rfl rfl rfl); clear hX_; simp only [Act.put, List.setIfInBounds_toArray, List.set_cons_zero, List.set_cons_succ]) | (apply quiet_op _ rfl; (focus (intro w1 hw1; have hc1 := hw1.cells; go_simp; (try go_bits); (try (rw [if_pos (by omega)]; go_simp)); first | (go_at_call 22; with_reducible exact Calls.lies hw1 (k3 _)) | (go_at_call 22; with_reducible exact Calls.lies hw1 (k4 _)) | (go_at_call 22; with_reducible exact Calls.lies hw1 (k5 _)) | (go_at_call 22; with_reducible exact Calls.lies hw1 (k6 _)) | (go_at_call 29; with_reducible exact Calls.lies hw1 (or_any x y _)) | (go_at_call 35; with_reducible exact Calls.lies hw1 (and_any x y _)) | (go_at_call 36; with_reducible exact Calls.lies hw1 (minus_any x y _)) | (go_at_call 30; with_reducible exact Calls.lies hw1 (not_any x _)) | (go_at_call 22; exact Calls.lies hw1 (k3 _)) | (go_at_call 22; exact Calls.lies hw1 (k4 _)) | (go_at_call 22; exact Calls.lies hw1 (k5 _)) | (go_at_call 22; exact Calls.lies hw1 (k6 _)) | (go_at_call 29; exact Calls.lies hw1 (or_any x y _)) | (go_at_call 35; exact Calls.lies hw1 (and_any x y _)) | (go_at_call 36; exact Calls.lies hw1 (minus_any x y _)) | (go_at_call 30; exact Calls.lies hw1 (not_any x _)) | rfl)); simp only [Act.put, List.setIfInBounds_toArray, List.set_cons_zero, List.set_cons_succ]))); refine wpQuiet_nil ?_; intro w4 hw4)
    have hX4 := hX3.lies hw4
    have hY4 := hY3.lies hw4
    have he4 := he3.lies hw4
    have hB4 := Lies.below hw4 hB3.size hB3
    clear hX3 hY3 hB3 he3 hcX3 hcY3 hlX3 hlY3 k3 k4 k5 k6 hw4
    have hA5 : A.size ≤ 5000 := by omega
    clear h
    go_wp2_with fail
    go_loop [11, 12] (fun t i => ∃ k : Nat, k ≤ A.size ∧ i = .int .i64 (k : Int) ∧ t = .bool (inB (A.data.toList.take k) b)) (fun _ i => A.size - (intOf i).toNat)
    case atStart => exact ⟨0, by omega, rfl, rfl⟩
    case round =>
      obtain ⟨k, hk, rfl, rfl⟩ := hrel
      by_cases hlt : k < A.size
      · have hsn := inB_snoc (A.data.toList.take k) A[k] b
        rw [← take_snoc A k hlt] at hsn
        have HSN := Lib.hid hsn
        clear hsn
        cases hv : inB (A.data.toList.take k) b
        · go_wp2
          go_round
          case rel => exact ⟨k + 1, by omega, by go_num, by rw [HSN.out, hv, Bool.false_or, nat_beq]⟩
          case measure => simp [intOf]; omega
        · go_wp2
          go_round
          case rel => exact ⟨k + 1, by omega, by go_num, by rw [HSN.out, hv]; simp⟩
          case measure => simp [intOf]; omega
      · obtain rfl : k = A.size := by omega
        rw [take_all, ← HV.out]
        have hcX := hX4.cell
        have hcY := hY4.cell
        have hlX := hX4.lt
        have hlY := hY4.lt
        go_upto_region 12 with (go_at_call 18; refine (m1 _).mono ?_; rintro e w5 ⟨rfl, hw5⟩)
        obtain ⟨W6, hW6⟩ : ∃ W6, w5.alloc (.cells z.cells 24) = W6 := ⟨_, rfl⟩
        have hX5 := hX4.lies hw5
        have hY5 := hY4.lies hw5
        have hX6 : Blk W6 w.heap.size 24 x.cells := by rw [← hW6]; exact hX5.alloc _
        have hY6 : Blk W6 (w.heap.size + 1) 24 y.cells := by rw [← hW6]; exact hY5.alloc _
        have hZ6 : Blk W6 w5.heap.size 24 z.cells := by rw [← hW6]; exact Blk.new w5 24 _
        have he6 : Env W6 := by rw [← hW6]; exact (he4.lies hw5).alloc _
        have hB6 : Below w.heap.size w W6 := by rw [← hW6]; exact (Lies.below hw5 hB4.size hB4).alloc (Nat.le_of_lt hX5.lt) _
        rw [hW6]
        clear hW6 hX5 hY5 hX4 hY4 he4 hB4 hcX hcY hlX hlY hw5
        have hcX := hX6.cell
        have hcY := hY6.cell
        have hcZ := hZ6.cell
        have hlX := hX6.lt
        have hlY := hY6.lt
        have hlZ := hZ6.lt
        (refine wp_region_quiet_all (C := Lies _) (by kernel_rfl) (by kernel_rfl) (Lies.drew (Lies.start _)) ?_; (repeat (first | (have hX_ : True := trivial; refine quiet_skip ?_ ?_; (focus exact wanted_no rfl rfl rfl); clear hX_; simp only [Act.put, List.setIfInBounds_toArray, List.set_cons_zero, List.set_cons_succ]) | (apply quiet_op _ rfl; (focus (intro w1 hw1; have hc1 := hw1.cells; go_simp; (try go_bits); (try (rw [if_pos (by omega)]; go_simp)); first | (go_at_call 22; with_reducible exact Calls.lies hw1 (m4 _)) | (go_at_call 18; with_reducible exact Calls.lies hw1 (m2 _)) | (go_at_call 26; with_reducible exact Calls.lies hw1 (m5 _ (he6.lies hw1))) | (go_at_call 26; with_reducible exact Calls.lies hw1 (m6 _ (he6.lies hw1))) | (go_at_call 18; with_reducible exact Calls.lies hw1 (m3 _)) | (go_at_call 30; with_reducible exact Calls.lies hw1 (m7 _)) | (go_at_call 30; with_reducible exact Calls.lies hw1 (not_any x _)) | (go_at_call 30; with_reducible exact Calls.lies hw1 (not_any y _)) | (go_at_call 30; with_reducible exact Calls.lies hw1 (not_any (x.or y) _)) | (go_at_call 29; with_reducible exact Calls.lies hw1 (or_any x y _)) | (go_at_call 35; with_reducible exact Calls.lies hw1 (m8 _)) | (go_at_call 35; with_reducible exact Calls.lies hw1 (m9 _)) | (go_at_call 36; with_reducible exact Calls.lies hw1 (minus_any x y _)) | (go_at_call 22; exact Calls.lies hw1 (m4 _)) | (go_at_call 18; exact Calls.lies hw1 (m2 _)) | (go_at_call 26; exact Calls.lies hw1 (m5 _ (he6.lies hw1))) | (go_at_call 26; exact Calls.lies hw1 (m6 _ (he6.lies hw1))) | (go_at_call 18; exact Calls.lies hw1 (m3 _)) | (go_at_call 30; exact Calls.lies hw1 (m7 _)) | (go_at_call 30; exact Calls.lies hw1 (not_any x _)) | (go_at_call 30; exact Calls.lies hw1 (not_any y _)) | (go_at_call 30; exact Calls.lies hw1 (not_any (x.or y) _)) | (go_at_call 29; exact Calls.lies hw1 (or_any x y _)) | (go_at_call 35; exact Calls.lies hw1 (m8 _)) | (go_at_call 35; exact Calls.lies hw1 (m9 _)) | (go_at_call 36; exact Calls.lies hw1 (minus_any x y _)) | rfl)); simp only [Act.put, List.setIfInBounds_toArray, List.set_cons_zero, List.set_cons_succ]))); refine wpQuiet_nil ?_; intro w7 hw7)
        clear hcX hcY hcZ hlX hlY hlZ m1 m2 m3 m4 m5 m6 m7 m8 m9
        go_wp2
        go_ret
        exact ⟨(by first | rfl | exact ret_beq c | simp), Lies.below hw7 hB6.size hB6⟩
  · go_upto_region 4 with (fail)
    (refine wp_region_text_tail (C := Lies _) 42 (Lies.start _) ?_; simp only [List.take_succ_cons, List.take_zero, List.take_nil, List.drop_succ_cons, List.drop_zero, List.drop_nil]; (repeat (first | (have hX_ : True := trivial; refine quiet_skip ?_ ?_; (focus exact wanted_no rfl rfl rfl); clear hX_; simp only [Act.put, List.setIfInBounds_toArray, List.set_cons_zero, List.set_cons_succ]) | (apply quiet_op _ rfl; (focus (intro w1 hw1; have hc1 := hw1.cells; go_simp; (try go_bits); (try (rw [if_pos (by omega)]; go_simp)); first | (go_at_call 22; with_reducible exact Calls.lies hw1 (k3 _)) | (go_at_call 22; with_reducible exact Calls.lies hw1 (k4 _)) | (go_at_call 22; with_reducible exact Calls.lies hw1 (k5 _)) | (go_at_call 22; with_reducible exact Calls.lies hw1 (k6 _)) | (go_at_call 29; with_reducible exact Calls.lies hw1 (or_any x y _)) | (go_at_call 35; with_reducible exact Calls.lies hw1 (and_any x y _)) | (go_at_call 36; with_reducible exact Calls.lies hw1 (minus_any x y _)) | (go_at_call 30; with_reducible exact Calls.lies hw1 (not_any x _)) | (go_at_call 22; exact Calls.lies hw1 (k3 _)) | (go_at_call 22; exact Calls.lies hw1 (k4 _)) | (go_at_call 22; exact Calls.lies hw1 (k5 _)) | (go_at_call 22; exact Calls.lies hw1 (k6 _)) | (go_at_call 29; exact Calls.lies hw1 (or_any x y _)) | (go_at_call 35; exact Calls.lies hw1 (and_any x y _)) | (go_at_call 36; exact Calls.lies hw1 (minus_any x y _)) | (go_at_call 30; exact Calls.lies hw1 (not_any x _)) | rfl)); simp only [Act.put, List.setIfInBounds_toArray, List.set_cons_zero, List.set_cons_succ]))); refine wpQuiet_nil ?_; intro w4 hw4)
    have hX4 := hX3.lies hw4
    have hY4 := hY3.lies hw4
    have he4 := he3.lies hw4
    have hB4 := Lies.below hw4 hB3.size hB3
    clear hX3 hY3 hB3 he3 hcX3 hcY3 hlX3 hlY3 k3 k4 k5 k6 hw4
    have hA5 : A.size ≤ 5000 := by omega
    clear h
    go_wp2_with fail
    go_loop [11, 12] (fun t i => ∃ k : Nat, k ≤ A.size ∧ i = .int .i64 (k : Int) ∧ t = .bool (inB (A.data.toList.take k) b)) (fun _ i => A.size - (intOf i).toNat)
    case atStart => exact ⟨0, by omega, rfl, rfl⟩
    case round =>
      obtain ⟨k, hk, rfl, rfl⟩ := hrel
      by_cases hlt : k < A.size
      · have hsn := inB_snoc (A.data.toList.take k) A[k] b
        rw [← take_snoc A k hlt] at hsn
        have HSN := Lib.hid hsn
        clear hsn
        cases hv : inB (A.data.toList.take k) b
        · go_wp2
          go_round
          case rel => exact ⟨k + 1, by omega, by go_num, by rw [HSN.out, hv, Bool.false_or, nat_beq]⟩
          case measure => simp [intOf]; omega
        · go_wp2
          go_round
          case rel => exact ⟨k + 1, by omega, by go_num, by rw [HSN.out, hv]; simp⟩
          case measure => simp [intOf]; omega
      · obtain rfl : k = A.size := by omega
        rw [take_all, ← HV.out]
        have hcX := hX4.cell
        have hcY := hY4.cell
        have hlX := hX4.lt
        have hlY := hY4.lt
        go_upto_region 12 with (go_at_call 18; refine (m1 _).mono ?_; rintro e w5 ⟨rfl, hw5⟩)
        obtain ⟨W6, hW6⟩ : ∃ W6, w5.alloc (.cells z.cells 24) = W6 := ⟨_, rfl⟩
        have hX5 := hX4.lies hw5
        have hY5 := hY4.lies hw5
        have hX6 : Blk W6 w.heap.size 24 x.cells := by rw [← hW6]; exact hX5.alloc _
        have hY6 : Blk W6 (w.heap.size + 1) 24 y.cells := by rw [← hW6]; exact hY5.alloc _
        have hZ6 : Blk W6 w5.heap.size 24 z.cells := by rw [← hW6]; exact Blk.new w5 24 _
        have he6 : Env W6 := by rw [← hW6]; exact (he4.lies hw5).alloc _
        have hB6 : Below w.heap.size w W6 := by rw [← hW6]; exact (Lies.below hw5 hB4.size hB4).alloc (Nat.le_of_lt hX5.lt) _
        rw [hW6]
        clear hW6 hX5 hY5 hX4 hY4 he4 hB4 hcX hcY hlX hlY hw5
        have hcX := hX6.cell
        have hcY := hY6.cell
        have hcZ := hZ6.cell
        have hlX := hX6.lt
        have hlY := hY6.lt
        have hlZ := hZ6.lt
        (refine wp_region_quiet_all (C := Lies _) (by kernel_rfl) (by kernel_rfl) (Lies.drew (Lies.start _)) ?_; (repeat (first | (have hX_ : True := trivial; refine quiet_skip ?_ ?_; (focus exact wanted_no rfl rfl rfl); clear hX_; simp only [Act.put, List.setIfInBounds_toArray, List.set_cons_zero, List.set_cons_succ]) | (apply quiet_op _ rfl; (focus (intro w1 hw1; have hc1 := hw1.cells; go_simp; (try go_bits); (try (rw [if_pos (by omega)]; go_simp)); first | (go_at_call 22; with_reducible exact Calls.lies hw1 (m4 _)) | (go_at_call 18; with_reducible exact Calls.lies hw1 (m2 _)) | (go_at_call 26; with_reducible exact Calls.lies hw1 (m5 _ (he6.lies hw1))) | (go_at_call 26; with_reducible exact Calls.lies hw1 (m6 _ (he6.lies hw1))) | (go_at_call 18; with_reducible exact Calls.lies hw1 (m3 _)) | (go_at_call 30; with_reducible exact Calls.lies hw1 (m7 _)) | (go_at_call 30; with_reducible exact Calls.lies hw1 (not_any x _)) | (go_at_call 30; with_reducible exact Calls.lies hw1 (not_any y _)) | (go_at_call 30; with_reducible exact Calls.lies hw1 (not_any (x.or y) _)) | (go_at_call 29; with_reducible exact Calls.lies hw1 (or_any x y _)) | (go_at_call 35; with_reducible exact Calls.lies hw1 (m8 _)) | (go_at_call 35; with_reducible exact Calls.lies hw1 (m9 _)) | (go_at_call 36; with_reducible exact Calls.lies hw1 (minus_any x y _)) | (go_at_call 22; exact Calls.lies hw1 (m4 _)) | (go_at_call 18; exact Calls.lies hw1 (m2 _)) | (go_at_call 26; exact Calls.lies hw1 (m5 _ (he6.lies hw1))) | (go_at_call 26; exact Calls.lies hw1 (m6 _ (he6.lies hw1))) | (go_at_call 18; exact Calls.lies hw1 (m3 _)) | (go_at_call 30; exact Calls.lies hw1 (m7 _)) | (go_at_call 30; exact Calls.lies hw1 (not_any x _)) | (go_at_call 30; exact Calls.lies hw1 (not_any y _)) | (go_at_call 30; exact Calls.lies hw1 (not_any (x.or y) _)) | (go_at_call 29; exact Calls.lies hw1 (or_any x y _)) | (go_at_call 35; exact Calls.lies hw1 (m8 _)) | (go_at_call 35; exact Calls.lies hw1 (m9 _)) | (go_at_call 36; exact Calls.lies hw1 (minus_any x y _)) | rfl)); simp only [Act.put, List.setIfInBounds_toArray, List.set_cons_zero, List.set_cons_succ]))); refine wpQuiet_nil ?_; intro w7 hw7)
        clear hcX hcY hcZ hlX hlY hlZ m1 m2 m3 m4 m5 m6 m7 m8 m9
        go_wp2
        go_ret
        exact ⟨(by first | rfl | exact ret_beq c | simp), Lies.below hw7 hB6.size hB6⟩
end Go.Proofs.YtakcckdnliiieaaDoor
