/- SetNames. -/
import Derived.Test.YtakcckdnliiieaaDoorSet14
import Derived.Test.YtakcckdnliiieaaDoorStp
namespace Go.Proofs.YtakcckdnliiieaaDoor
open Go Go.RowKit
attribute [local go_sem] Oper.quietAt Oper.quietUpon Oper.loudAt Oper.loudUpon
def nine : List Nat := [0, 1, 63, 64, 127, 128, 191, 192, 255]
theorem one_facts : ∀ n ∈ nine, n < 256 ∧ BS.zero.setw (n / 64) (1#64 <<< (n % 64)) = BS.range n n ∧ (BS.range n n).only = (n, true) ∧ BS.ofBytes [UInt8.ofNat n] = BS.range n n ∧ (BS.range n n).has n = true ∧ (BS.range n n).len = 1 ∧ (BS.range n n).not.len = 255 ∧ (BS.range n n).not.has n = false ∧ (BS.range n n).runs.length = 1 := by decide +kernel
def some70 : BS := ⟨17293822569102704640#64, 127#64, 0#64, 0#64⟩
theorem some70_cells : #[Value.int .u64 17293822569102704640, .int .u64 127, .int .u64 0, .int .u64 0] = some70.cells := rfl
theorem some70_set : (((BS.zero.cells.setIfInBounds 0 (.int .u64 17293822569102704640)).setIfInBounds 1 (.int .u64 127)).setIfInBounds 2 (.int .u64 0)).setIfInBounds 3 (.int .u64 0) = some70.cells := rfl
attribute [local go_sem] some70_cells some70_set
theorem end_facts : BS.zero.only = (0, false) ∧ BS.full.runs = [(0, 255)] ∧ BS.zero.bytes = [] ∧ BS.zero.runs = [] ∧ BS.full.len = 256 ∧ BS.range 0 255 = BS.full ∧ BS.range 60 70 = some70 ∧ BS.zero.cmp BS.zero = 0 := by decide +kernel
theorem has_eqn (s : BS) (b : Nat) (v : Bool) (hb : b < 256) (h : s.has b = v) (w : World) : Calls Tryd.prog 22 #[.agg s.cells, .int .u8 (b : Int)] w (Ret (.bool v) w) := by
  subst h; exact has_any s b w hb
theorem conv1 {n g : Nat} {w : World} (hn : n < 256) (h : w.cell? ⟨g, 0, none⟩ = some (.int .u8 (n : Int))) : (convert 41 9 (.slice (some ⟨g, 0, none⟩) 1 1)).run Tryd.prog w = .ok (.string ⟨#[UInt8.ofNat n]⟩) w := by
  have := run_convert_bytes_arg w 41 5 Tryd.underlying41 Tryd.underlying5 g 0 1 1 [(n : Int)] rfl (fun i hi => by
    obtain rfl : i = 0 := by omega
    exact h) 9 Tryd.underlying9
  rw [this]
  congr 1
theorem runs_len1 {w : World} {b n : Nat} {v : Value} {xs : List Value} (h : w.ownsRow b 36 2 v n xs) (hn : n = 1) : ∃ g c, v = .slice (some ⟨g, 0, none⟩) 1 c := by
  rcases h.2 with ⟨_, h0⟩ | ⟨g, cap, _, h1, _⟩
  · omega
  · exact ⟨g, cap, by rw [h1, hn]⟩
theorem next_below {w W w' : World} (h : Below w.heap.size w W) (hw : Lies W w') : Below w.heap.size w w' := Lies.below hw h.size h
theorem lies_alloc {W0 w : World} (h : Lies W0 w) (o : Obj) : Lies W0 (w.alloc o) := Below.alloc h (Below.size h) o
set_option maxRecDepth 100000 in
set_option maxHeartbeats 1500000 in
theorem names_any (w : World) (he : Env w) : Calls Tryd.prog 5 #[] w (Ret (.bool true) w) := by
  go_enter Tryd.func5, Tryd.ntmps5
  go_upto_region 3 with (go_at_call 15; refine (awake_any _ he).mono ?_; rintro e w2 ⟨rfl, hw2⟩)
  have he2 := he.lies hw2
  have hb2 : Below w.heap.size w w2 := hw2
  clear hw2
  obtain ⟨cs, hcs⟩ : ∃ cs, #[Value.int IntKind.i64 0, Value.int IntKind.i64 1, Value.int IntKind.i64 63, Value.int IntKind.i64 64, Value.int IntKind.i64 127, Value.int IntKind.i64 128, Value.int IntKind.i64 191, Value.int IntKind.i64 192, Value.int IntKind.i64 255] = cs := ⟨_, rfl⟩
  have hcs2 : ∀ k (h : k < nine.length), cs[k]? = some (.int .i64 ((nine[k] : Nat) : Int)) := by
    intro k h
    subst hcs
    match k, h with
    | 0, _ => rfl
    | 1, _ => rfl
    | 2, _ => rfl
    | 3, _ => rfl
    | 4, _ => rfl
    | 5, _ => rfl
    | 6, _ => rfl
    | 7, _ => rfl
    | 8, _ => rfl
    | k + 9, h => exact absurd h (by simp [nine])
  obtain ⟨W3, hW3⟩ : ∃ W3, w2.alloc (.cells cs 3) = W3 := ⟨_, rfl⟩
  have hL3 : Blk W3 w2.heap.size 3 cs := by rw [← hW3]; exact Blk.new w2 3 cs
  have he3 : Env W3 := by rw [← hW3]; exact he2.alloc _
  have hB3 : Below w.heap.size w W3 := by rw [← hW3]; exact hb2.alloc hb2.size _
  have hz3 : w.heap.size ≤ w2.heap.size := hb2.size
  have HC := Lib.hid hcs2
  clear hcs2
  go_upto_region 4 with (fail)
  clear hcs hW3 he2 hb2
  go_loopw [15] (fun i wr => ∃ k : Nat, k ≤ 9 ∧ i = .int .i64 (k : Int) ∧ Below w.heap.size w wr ∧ Blk wr w2.heap.size 3 cs ∧ Env wr) (fun i _ => 9 - (intOf i).toNat)
  case atStart => exact ⟨0, by omega, rfl, hB3, hL3, he3⟩
  clear hB3 hL3 he3
  case round =>
    obtain ⟨k, hk, rfl, hbr, hLr, her⟩ := hrel
    by_cases hlt : k < 9
    · have hlt9 : k < nine.length := hlt
      have hcell := (hLr.cell k).trans (HC.out k hlt9)
      have hfact := one_facts nine[k] (List.getElem_mem hlt9)
      obtain ⟨n, hn⟩ : ∃ n, n = nine[k] := ⟨_, rfl⟩
      rw [← hn] at hfact hcell
      obtain ⟨hn256, f1, f2, f3, f4, f5, f6, f7, f8⟩ := hfact
      have r0 : ∀ w, Calls Tryd.prog 20 #[.int .u8 (n : Int), .int .u8 (n : Int)] w (Ret (.agg (BS.range n n).cells) w) := fun w => range_any n n w hn256 hn256
      obtain ⟨S, hS⟩ : ∃ S, S = BS.range n n := ⟨_, rfl⟩
      rw [← hS] at f1 f2 f3 f4 f5 f6 f7 f8 r0
      have F1 := Lib.hid f1
      have F8 := Lib.hid f8
      have r1 : ∀ w, Env w → Calls Tryd.prog 16 #[.agg S.cells] w (Ret (.tuple #[.int .u8 (n : Int), .bool true]) w) := only_eq S n true f2
      have r2 : ∀ w, Calls Tryd.prog 18 #[.string ⟨#[UInt8.ofNat n]⟩] w (Ret (.agg S.cells) w) := fun w => setOf_lit _ S f3.symm (by show 1 ≤ _; omega) w
      have r3 : ∀ w, Calls Tryd.prog 22 #[.agg S.cells, .int .u8 (n : Int)] w (Ret (.bool true) w) := has_eqn S n true hn256 f4
      have r4 : ∀ w, Calls Tryd.prog 24 #[.agg S.cells] w (Ret (.int .i64 1) w) := len_eq S 1 f5
      have r5 : ∀ w, Calls Tryd.prog 24 #[.agg S.not.cells] w (Ret (.int .i64 255) w) := len_eq S.not 255 f6
      have r6 : ∀ w, Calls Tryd.prog 22 #[.agg S.not.cells, .int .u8 (n : Int)] w (Ret (.bool false) w) := has_eqn S.not n false hn256 f7
      clear hn hS f1 f2 f3 f4 f5 f6 f7 f8
      have hlL := hLr.lt
      go_upto_region 7 with (fail)
      go_upto_region 8 with (go_at_call 20; refine (r0 _).mono ?_; rintro e w4 ⟨rfl, hw4⟩)
      obtain ⟨W5, hW5⟩ : ∃ W5, w4.alloc (.cells S.cells 24) = W5 := ⟨_, rfl⟩
      have hL4 := hLr.lies hw4
      have hb4 := Lies.below hw4 hbr.size hbr
      have hS5 : Blk W5 w4.heap.size 24 S.cells := by rw [← hW5]; exact Blk.new w4 24 _
      have hL5 : Blk W5 w2.heap.size 3 cs := by rw [← hW5]; exact hL4.alloc _
      have he5 : Env W5 := by rw [← hW5]; exact (her.lies hw4).alloc _
      have hb5 : Below w.heap.size w W5 := by rw [← hW5]; exact hb4.alloc hb4.size _
      have hz4 : w.heap.size ≤ w4.heap.size := hb4.size
      have hl5 : w2.heap.size < w4.heap.size := hL4.lt
      rw [hW5]
      clear hW5 hLr hbr her hcell hlL hw4 hL4 hb4
      obtain ⟨W6, hW6⟩ : ∃ W6, W5.alloc (.cells BS.zero.cells 24) = W6 := ⟨_, rfl⟩
      have hlS5 := hS5.lt
      have hS6 : Blk W6 w4.heap.size 24 S.cells := by rw [← hW6]; exact hS5.alloc _
      have hL6 : Blk W6 w2.heap.size 3 cs := by rw [← hW6]; exact hL5.alloc _
      have hV6 : Blk W6 W5.heap.size 24 BS.zero.cells := by rw [← hW6]; exact Blk.new W5 24 _
      have he6 : Env W6 := by rw [← hW6]; exact he5.alloc _
      have hb6 : Below w.heap.size w W6 := by rw [← hW6]; exact hb5.alloc hb5.size _
      have hn4 : n / 64 < 4 := by omega
      have hnm : n % 64 < 64 := by omega
      go_upto_region 9 with (fail)
      clear hW6 hS5 hL5 he5 hb5
      have hcV6 := hV6.cell
      have hfV6 := hV6.free
      go_upto_region 10 with (fail)
      obtain ⟨W7, hW7⟩ : ∃ W7, W6.setCell ⟨W5.heap.size, n / 64, none⟩ (.int .u64 (tn (1#64 <<< (n % 64)))) = W7 := ⟨_, rfl⟩
      have hV7 : Blk W7 W5.heap.size 24 S.cells := by
        rw [← hW7, ← F1.out]
        have := hV6.set (n / 64) (.int .u64 (tn (1#64 <<< (n % 64))))
        rwa [BS.cells_set _ _ _ hn4] at this
      have hS7 : Blk W7 w4.heap.size 24 S.cells := by rw [← hW7]; exact hS6.far (p := ⟨W5.heap.size, n / 64, none⟩) (by simp; omega) _
      have hL7 : Blk W7 w2.heap.size 3 cs := by rw [← hW7]; exact hL6.far (p := ⟨W5.heap.size, n / 64, none⟩) (by simp; omega) _
      have he7 : Env W7 := by rw [← hW7]; exact he6.below (B := 1) ((Below.refl 1 W6).setCell (p := ⟨W5.heap.size, n / 64, none⟩) (by simp; omega) _) (by omega)
      have hb7 : Below w.heap.size w W7 := by rw [← hW7]; exact hb6.setCell (p := ⟨W5.heap.size, n / 64, none⟩) (by simp; omega) _
      rw [hW7]
      clear hW7 hcV6 hfV6 hV6 hS6 hL6 he6 hb6
      have hcS7 := hS7.cell
      go_upto_region 11 with (go_at_call 16; refine (r1 _ he7).mono ?_; rintro e w8 ⟨rfl, hw8⟩)
      have hS8 := hS7.lies hw8
      have hV8 := hV7.lies hw8
      have hL8 := hL7.lies hw8
      have he8 := he7.lies hw8
      have hb8 := Lies.below hw8 hb7.size hb7
      have hcS8 := hS8.cell
      have hcV8 := hV8.cell
      have hlS8 := hS8.lt
      have hlV8 := hV8.lt
      clear hcS7 hS7 hV7 hL7 he7 hb7 r1 hw8
      (refine wp_region_lay (id := 11) (C := Lies _) [(true, 0), (true, 1), (true, 2), (true, 3), (true, 4), (true, 5), (false, 6), (true, 7), (false, 8), (true, 9), (true, 10), (true, 11), (true, 12), (true, 13), (false, 14), (true, 15), (true, 16), (true, 17), (true, 18), (false, 19), (true, 20), (true, 21), (true, 22), (true, 23), (true, 24), (true, 25), (true, 26), (true, 27), (true, 28), (true, 29), (true, 30), (true, 31), (true, 32), (false, 33), (false, 34), (true, 35), (true, 36), (true, 37), (true, 38), (true, 40), (false, 39), (false, 41), (true, 42), (true, 43), (true, 44), (false, 45), (true, 46), (true, 47), (true, 48)] (by kernel_rfl) (by kernel_rfl) (Lies.drew (Lies.start _)) ?_; simp only [layOps, List.filterMap_cons, List.filterMap_nil, List.getElem?_cons_succ, List.getElem?_cons_zero, Option.map_some, List.append_eq, List.cons_append, List.nil_append]; (repeat (first | (have hX_ : True := trivial; refine lay_skip ?_ ?_; (focus exact wanted_no rfl rfl rfl); clear hX_; simp only [Act.put, List.setIfInBounds_toArray, List.set_cons_zero, List.set_cons_succ]) | (apply lay_free _ rfl; (focus (intro C1 hs1 w1 hw0; have hw1 := hs1 _ hw0; have hc1 := hw1.cells; go_simp; (try go_bits); (try (rw [if_pos (by omega)]; go_simp)); first | (go_at_call 18; with_reducible exact Calls.lies hw1 (r2 _)) | (go_at_call 22; with_reducible exact Calls.lies hw1 (r3 _)) | (go_at_call 24; with_reducible exact Calls.lies hw1 (r4 _)) | (go_at_call 30; with_reducible exact Calls.lies hw1 (not_any S _)) | (go_at_call 24; with_reducible exact Calls.lies hw1 (r5 _)) | (go_at_call 22; with_reducible exact Calls.lies hw1 (r6 _)) | ((rw [conv1 hn256 (by rw [hc1 _ _ hlN, hcN]; rfl)]; exact ⟨rfl, rfl⟩)) | (go_at_call 18; exact Calls.lies hw1 (r2 _)) | (go_at_call 22; exact Calls.lies hw1 (r3 _)) | (go_at_call 24; exact Calls.lies hw1 (r4 _)) | (go_at_call 30; exact Calls.lies hw1 (not_any S _)) | (go_at_call 24; exact Calls.lies hw1 (r5 _)) | (go_at_call 22; exact Calls.lies hw1 (r6 _)) | rfl)); simp only [Act.put, List.setIfInBounds_toArray, List.set_cons_zero, List.set_cons_succ]) | (apply lay_quiet _ rfl; (focus (intro w1 hw1; have hc1 := hw1.cells; go_simp; (try go_bits); (try (rw [if_pos (by omega)]; go_simp)); first | (go_at_call 18; with_reducible exact Calls.lies hw1 (r2 _)) | (go_at_call 22; with_reducible exact Calls.lies hw1 (r3 _)) | (go_at_call 24; with_reducible exact Calls.lies hw1 (r4 _)) | (go_at_call 30; with_reducible exact Calls.lies hw1 (not_any S _)) | (go_at_call 24; with_reducible exact Calls.lies hw1 (r5 _)) | (go_at_call 22; with_reducible exact Calls.lies hw1 (r6 _)) | ((rw [conv1 hn256 (by rw [hc1 _ _ hlN, hcN]; rfl)]; exact ⟨rfl, rfl⟩)) | (go_at_call 18; exact Calls.lies hw1 (r2 _)) | (go_at_call 22; exact Calls.lies hw1 (r3 _)) | (go_at_call 24; exact Calls.lies hw1 (r4 _)) | (go_at_call 30; exact Calls.lies hw1 (not_any S _)) | (go_at_call 24; exact Calls.lies hw1 (r5 _)) | (go_at_call 22; exact Calls.lies hw1 (r6 _)) | rfl)); simp only [Act.put, List.setIfInBounds_toArray, List.set_cons_zero, List.set_cons_succ]) | (refine lay_loud rfl ?_; intro K hK w1 hw1; have hc1 := hw1.cells; go_simp; obtain ⟨Wn, hWn⟩ : ∃ Wn, w1.alloc (.cells #[Value.int .u8 (n : Int)] 5) = Wn := ⟨_, rfl⟩; rw [hWn]; have hWl : Lies w8 Wn := hWn ▸ lies_alloc hw1 _; refine ⟨_, Lies.start Wn, lies_sub hWl, ?_⟩; have hN : Blk Wn w1.heap.size 5 #[Value.int .u8 (n : Int)] := hWn ▸ Blk.new w1 5 _; have hcN := hN.cell; have hlN := hN.lt; have he9 := he8.lies hWl; have hS9 := hS8.lies hWl; have hV9 := hV8.lies hWl; have hcS9 := hS9.cell; have hcV9 := hV9.cell; have hlS9 := hS9.lt; have hlV9 := hV9.lt; clear hWn; (try simp only [Act.put, List.setIfInBounds_toArray, List.set_cons_zero, List.set_cons_succ]); apply hK) | (refine lay_loud rfl ?_; intro K hK w1 hw1; have hc1 := hw1.cells; go_simp; go_at_call 28; refine (runs_any S _ (he9.lies hw1)).mono ?_; rintro e w10 ⟨v1, rfl, hrow1, _, hb10⟩; have hb10' : Lies w1 w10 := hb10; have hl1 := runs_len1 hrow1 F8.out; obtain ⟨gr, cr, rfl⟩ := hl1; refine ⟨_, rfl, Lies w10, Lies.start _, lies_sub (Below.trans hw1 (Below.mono hb10' hw1.size)), ?_⟩; (try simp only [Act.put, List.setIfInBounds_toArray, List.set_cons_zero, List.set_cons_succ]); apply hK))); refine lay_nil ?_; intro w9 hw9)
      have hb9 : Below w.heap.size w w9 := by
        have a1 := Lies.below hWl hb8.size hb8
        have a2 := Lies.below hw1 a1.size a1
        have a3 := Lies.below hb10' a2.size a2
        exact Lies.below hw9 a3.size a3
      have hL9 := (((hL8.lies hWl).lies hw1).lies hb10').lies hw9
      have he10 := ((he9.lies hw1).lies hb10').lies hw9
      clear r2 r3 r4 r5 r6
      go_wp2
      go_roundw
      case rel => exact ⟨k + 1, by omega, by go_num, hb9, hL9, he10⟩
      case measure => simp [intOf]; omega
    · obtain rfl : k = 9 := by omega
      obtain ⟨f1, f2, f3, f4, f5, f6, f7, f8⟩ := end_facts
      have r1 : ∀ w, Env w → Calls Tryd.prog 16 #[.agg BS.zero.cells] w (Ret (.tuple #[.int .u8 0, .bool false]) w) := only_eq BS.zero 0 false f1
      have r2 : ∀ w, Env w → Calls Tryd.prog 26 #[.agg BS.zero.cells] w (Ret (.string ⟨#[]⟩) w) := list_str BS.zero ⟨#[]⟩ (by rw [f3])
      obtain ⟨A, hA⟩ : ∃ A : ByteArray, A = ⟨BS.full.bytes.toArray⟩ := ⟨_, rfl⟩
      have r3 : ∀ w, Env w → Calls Tryd.prog 26 #[.agg BS.full.cells] w (Ret (.string A) w) := list_str BS.full A hA
      have hAs : A.size = 256 := by rw [size_str hA]; exact f5
      have r4 : ∀ w, Calls Tryd.prog 20 #[.int .u8 0, .int .u8 255] w (Ret (.agg BS.full.cells) w) := fun w => by have := range_any 0 255 w (by omega) (by omega); rwa [f6] at this
      have r5 : ∀ w, Calls Tryd.prog 20 #[.int .u8 60, .int .u8 70] w (Ret (.agg some70.cells) w) := fun w => by have := range_any 60 70 w (by omega) (by omega); rwa [f7] at this
      have r6 : ∀ w, Calls Tryd.prog 32 #[.agg BS.zero.cells, .agg BS.zero.cells] w (Ret (.bool true) w) := fun w => subset_any BS.zero BS.zero w
      have r7 : ∀ w, Calls Tryd.prog 33 #[.agg BS.zero.cells, .agg BS.full.cells] w (Ret (.bool false) w) := fun w => meets_any BS.zero BS.full w
      have r8 : ∀ w, Env w → Calls Tryd.prog 34 #[.agg BS.zero.cells, .agg BS.zero.cells] w (Ret (.int .i64 0) w) := cmp_eq BS.zero BS.zero 0 f8
      have F2 := Lib.hid f2
      have F4 := Lib.hid f4
      clear f1 f2 f3 f4 f5 f6 f7 f8 hA
      go_upto_region 15 with (go_at_call 16; refine (r1 _ her).mono ?_; rintro e w3 ⟨rfl, hw3⟩)
      have he3 := her.lies hw3
      have hb3 := Lies.below hw3 hbr.size hbr
      clear hbr hLr her hw3 r1
      go_upto_region 16 with (first | (go_at_call 31; refine (all_any _).mono ?_; rintro e w4 ⟨rfl, hw4⟩) | (go_at_call 28; refine (runs_any BS.full _ (he3.lies hw4)).mono ?_; rintro e w5 ⟨v, rfl, hrow, _, hb5⟩))
      have hR := RunsAt.of hrow
      rw [F2.out] at hR
      have he5 := (he3.lies hw4).lies hb5
      have hb5' := Lies.below (show Lies w4 w5 from hb5) (Lies.below hw4 hb3.size hb3).size (Lies.below hw4 hb3.size hb3)
      obtain ⟨gv, cv, rfl, hcell⟩ : ∃ g c, v = .slice (some ⟨g, 0, none⟩) 1 c ∧ ∀ k (h : k < [((0 : Nat), (255 : Nat))].length), w5.cell? ⟨g, k * 2, none⟩ = some (nb [((0 : Nat), (255 : Nat))][k].1) ∧ w5.cell? ⟨g, k * 2 + 1, none⟩ = some (nb [((0 : Nat), (255 : Nat))][k].2) := by
        rcases hR with ⟨_, h0⟩ | ⟨g, c, h1, h2⟩
        · cases h0
        · exact ⟨g, c, h1, h2⟩
      have q1 : w5.cell? ⟨gv, 0, none⟩ = some (.int .u8 0) := (hcell 0 (by simp)).1
      have q2 : w5.cell? ⟨gv, 1, none⟩ = some (.int .u8 255) := (hcell 0 (by simp)).2
      have hgv := cell_lt q1
      have hb4s : w3.heap.size ≤ w4.heap.size := hw4.size
      clear hcell hR hrow hb5 hb3 hw4 he3
      go_wp2_with (first
        | (go_at_call 26; refine (r2 _ he5).mono ?_; rintro e w6 ⟨rfl, hw6⟩; have he6 := he5.lies hw6; have q3 := (Lies.cells hw6 _ _ hgv).trans q1; have q4 := (Lies.cells hw6 _ _ hgv).trans q2; have hg6 := cell_lt q3; have hb6 := Lies.below hw6 hb5'.size hb5'; clear q1 q2 hgv he5 hb5')
        | (go_at_call 28; refine (runs_any BS.zero _ he6).mono ?_; rintro e w7 ⟨v7, rfl, _, hnil, hb7⟩; obtain rfl := hnil.2 F4.out; have hb7' : Lies w6 w7 := hb7; have he7 := he6.lies hb7'; have q5 := (Lies.cells hb7' _ _ hg6).trans q3; have q6 := (Lies.cells hb7' _ _ hg6).trans q4; have hb8 := Lies.below hb7' hb6.size hb6; clear q3 q4 hg6 he6 hb6 hb7 hnil)
        | (go_at_call 26; refine (r3 _ (by assumption)).mono ?_; rintro e w8 ⟨rfl, hw8⟩; have hE := Env.lies (by assumption) hw8; have hBl := next_below (by assumption) hw8)
        | (go_at_call 31; refine (all_any _).mono ?_; rintro e w8 ⟨rfl, hw8⟩; have hE := Env.lies (by assumption) hw8; have hBl := next_below (by assumption) hw8)
        | (go_at_call 20; (with_reducible refine (r4 _).mono ?_); rintro e w8 ⟨rfl, hw8⟩; have hE := Env.lies (by assumption) hw8; have hBl := next_below (by assumption) hw8)
        | (go_at_call 20; (with_reducible refine (r5 _).mono ?_); rintro e w8 ⟨rfl, hw8⟩; have hE := Env.lies (by assumption) hw8; have hBl := next_below (by assumption) hw8)
        | (go_at_call 32; refine (r6 _).mono ?_; rintro e w8 ⟨rfl, hw8⟩; have hE := Env.lies (by assumption) hw8; have hBl := next_below (by assumption) hw8)
        | (go_at_call 33; refine (r7 _).mono ?_; rintro e w8 ⟨rfl, hw8⟩; have hE := Env.lies (by assumption) hw8; have hBl := next_below (by assumption) hw8)
        | (go_at_call 34; refine (r8 _ (by assumption)).mono ?_; rintro e w8 ⟨rfl, hw8⟩; have hE := Env.lies (by assumption) hw8; have hBl := next_below (by assumption) hw8))
      go_ret
      exact ⟨rfl, by assumption⟩
end Go.Proofs.YtakcckdnliiieaaDoor
