/- QuoteNames, walked. -/
import Derived.Test.YtakcckdnliiieaaDoorQ22
namespace Go.Proofs.YtakcckdnliiieaaDoor
open Go Go.RowKit
attribute [local go_sem] Oper.quietAt Oper.quietUpon
theorem names_facts1 : litB [] = [34, 34] ∧ litB [9, 13, 92, 93, 45, 94, 126, 32, 127, 255] = [34, 92, 116, 92, 114, 92, 92, 93, 45, 94, 126, 32, 92, 120, 55, 102, 92, 120, 102, 102, 34] ∧
    classB (BS.ofBytes [9, 13, 10, 34]) = [91, 92, 116, 92, 110, 92, 114, 34, 93] ∧ classB (BS.ofBytes [93, 94, 45, 92]) = [91, 92, 45, 92, 92, 45, 92, 94, 93] ∧
    classB (BS.range 0 2) = [91, 92, 120, 48, 48, 45, 92, 120, 48, 50, 93] ∧ classB (BS.range 254 255) = [91, 92, 120, 102, 101, 92, 120, 102, 102, 93] := by decide +kernel
theorem names_facts2 : unlitP ⟨#[34, 34]⟩ = ([], 2, 0) ∧ unlitP ⟨#[34, 92, 120, 102, 70, 92, 116, 92, 34, 92, 92, 34, 32]⟩ = ([255, 9, 34, 92], 12, 0) ∧ unlitP ⟨#[34, 91, 93, 45, 94, 34]⟩ = ([91, 93, 45, 94], 6, 0) ∧
    unclsP ⟨#[91, 93]⟩ = (BS.ofBytes [], 2, 0) ∧ unclsP ⟨#[91, 97, 45, 97, 65, 45, 67, 92, 93, 93, 120]⟩ = (BS.ofBytes [97, 65, 66, 67, 93], 10, 0) ∧ unclsP ⟨#[91, 92, 120, 54, 49, 45, 92, 120, 54, 51, 93]⟩ = (BS.ofBytes [97, 98, 99], 11, 0) ∧
    unclsP ⟨#[91, 34, 92, 94, 92, 45, 93]⟩ = (BS.ofBytes [34, 94, 45], 7, 0) ∧ unclsP ⟨#[91, 94, 93]⟩ = (BS.full, 3, 0) := by decide +kernel
def wrs : List (List UInt8 × Nat × Nat) :=
  [([], 0, 8), ([97], 0, 4), ([34], 1, 8), ([34, 97], 2, 8), ([34, 92], 2, 8), ([34, 92, 120], 3, 8), ([34, 92, 120, 97], 4, 8), ([34, 92, 120, 97, 103, 34], 4, 4), ([34, 92, 120, 103, 34], 3, 4), ([34, 92, 113, 34], 2, 4), ([34, 92, 93, 34], 2, 4), ([34, 10, 34], 1, 4), ([34, 127, 34], 1, 4), ([34, 97, 128, 34], 2, 4), ([34, 92, 88, 52, 49, 34], 2, 4), ([34, 92, 120, 16, 34], 3, 4), ([34, 92, 120, 49, 64, 34], 4, 4), ([91], 1, 8), ([91, 94], 2, 8), ([91, 97, 45], 3, 8), ([91, 97, 45, 93], 3, 4), ([91, 45, 97, 93], 1, 4), ([91, 94, 94, 93], 2, 4), ([91, 97, 45, 98, 45, 99, 93], 4, 4), ([91, 92, 34, 93], 2, 4), ([91, 9, 93], 1, 4), ([91, 97, 98, 45, 92, 110, 93], 2, 4), ([91, 97, 92], 3, 8)]
def okW (x : List UInt8 × Nat × Nat) : Bool := decide (x.1.length ≤ 1000) && (if byteAt ⟨x.1.toArray⟩ 0 = some 91 then decide (unclsP ⟨x.1.toArray⟩ = (BS.zero, x.2)) else decide (unlitP ⟨x.1.toArray⟩ = ([], x.2)))
theorem wrs_ok : wrs.all okW = true := by decide +kernel
theorem okW_call {x : List UInt8 × Nat × Nat} (h : okW x = true) (w : World) : Calls Tryd.prog 52 #[.string ⟨x.1.toArray⟩, .int .i64 (x.2.1 : Int), .int .i64 (x.2.2 : Int)] w (Ret (.bool true) w) := by
  unfold okW at h
  rw [Bool.and_eq_true, decide_eq_true_eq] at h
  obtain ⟨h1, h2⟩ := h
  have hs : (ByteArray.mk x.1.toArray).size ≤ 1000000 := by show x.1.toArray.size ≤ _; simp; omega
  split at h2
  · rename_i hb; exact wrong_cls hs hb (of_decide_eq_true h2) w
  · rename_i hb; exact wrong_lit hs hb (of_decide_eq_true h2) w
def wcells : Array Value := (wrs.flatMap fun x => [.string ⟨x.1.toArray⟩, .int .i64 (x.2.1 : Int), .int .i64 (x.2.2 : Int)]).toArray
theorem wcells_at : ∀ k, (h : k < 28) → ∃ x, okW x = true ∧ wcells[k * 3]? = some (.string ⟨x.1.toArray⟩) ∧ wcells[k * 3 + 1]? = some (.int .i64 (x.2.1 : Int)) ∧ wcells[k * 3 + 2]? = some (.int .i64 (x.2.2 : Int)) := by
  intro k hk
  refine ⟨wrs[k]'hk, List.all_eq_true.1 wrs_ok _ (List.getElem_mem _), ?_⟩
  have key : ∀ (l : List (List UInt8 × Nat × Nat)) (k : Nat) (h : k < l.length), (l.flatMap fun x => [Value.string ⟨x.1.toArray⟩, .int .i64 (x.2.1 : Int), .int .i64 (x.2.2 : Int)])[k * 3]? = some (.string ⟨l[k].1.toArray⟩) ∧ (l.flatMap fun x => [Value.string ⟨x.1.toArray⟩, .int .i64 (x.2.1 : Int), .int .i64 (x.2.2 : Int)])[k * 3 + 1]? = some (.int .i64 (l[k].2.1 : Int)) ∧ (l.flatMap fun x => [Value.string ⟨x.1.toArray⟩, .int .i64 (x.2.1 : Int), .int .i64 (x.2.2 : Int)])[k * 3 + 2]? = some (.int .i64 (l[k].2.2 : Int)) := by
    intro l
    induction l with
    | nil => intro k h; simp at h
    | cons x l ih =>
      intro k h
      cases k with
      | zero => exact ⟨rfl, rfl, rfl⟩
      | succ k =>
        have := ih k (by simpa using h)
        rw [List.flatMap_cons, show (k + 1) * 3 = k * 3 + 3 by omega]
        simpa using this
  have := key wrs k hk
  unfold wcells
  simpa using this
theorem full_facts : unlitP (ByteArray.mk #[34] ++ ⟨(List.replicate 255 122).toArray⟩ ++ ByteArray.mk #[34]) = (List.replicate 255 122, 257, 0) ∧ unlitP (ByteArray.mk #[34] ++ ⟨(List.replicate 255 122).toArray⟩ ++ ByteArray.mk #[122, 34]) = ([], 0, 40) := by decide +kernel
theorem text_str {A B : ByteArray} {l : List UInt8} {n : Nat} (hA : A.size ≤ 1000000) (h : unlitP A = (l, n, 0)) (hB : l = B.data.toList) (w : World) : Calls Tryd.prog 49 #[.string A, .string B, .int .i64 (n : Int)] w (Ret (.bool true) w) := text_yes hA (by rw [h, hB]) w
theorem class_stry {A B : ByteArray} {n : Nat} (hA : A.size ≤ 1000000) (hB : B.size ≤ 1000000) (h : unclsP A = (BS.ofBytes B.data.toList, n, 0)) (w : World) : Calls Tryd.prog 50 #[.string A, .string B, .int .i64 (n : Int)] w (Ret (.bool true) w) := class_yes hA hB h w
theorem lit_str {A B : ByteArray} {l : List UInt8} (hA : A.size ≤ 1000000) (h : litB A.data.toList = l) (hB : strV l = .string B) (w : World) : Calls Tryd.prog 47 #[.string A] w (Ret (.string B) w) := by
  have := literal_any A w (by omega)
  rw [h, hB] at this
  exact this
set_option maxRecDepth 100000 in
set_option maxHeartbeats 4000000 in
theorem quoteNames_any (w : World) (he : Env w) : Calls Tryd.prog 9 #[] w (Ret (.bool true) w) := by
  obtain ⟨a1, a2, a3, a4, a5, a6⟩ := names_facts1
  obtain ⟨b1, b2, b3, b4, b5, b6, b7, b8⟩ := names_facts2
  obtain ⟨f1, f2⟩ := full_facts
  obtain ⟨S1, hS1⟩ : ∃ S, S = BS.ofBytes [9, 13, 10, 34] := ⟨_, rfl⟩
  obtain ⟨S2, hS2⟩ : ∃ S, S = BS.ofBytes [93, 94, 45, 92] := ⟨_, rfl⟩
  obtain ⟨S3, hS3⟩ : ∃ S, S = BS.range 0 2 := ⟨_, rfl⟩
  obtain ⟨S4, hS4⟩ : ∃ S, S = BS.range 254 255 := ⟨_, rfl⟩
  rw [← hS1] at a3
  rw [← hS2] at a4
  rw [← hS3] at a5
  rw [← hS4] at a6
  have c47a : ∀ w, Calls Tryd.prog 47 #[.string ⟨#[]⟩] w (Ret (.string ⟨#[34, 34]⟩) w) := lit_str (by show 0 ≤ _; omega) a1 rfl
  have c47b : ∀ w, Calls Tryd.prog 47 #[.string ⟨#[9, 13, 92, 93, 45, 94, 126, 32, 127, 255]⟩] w (Ret (.string ⟨#[34, 92, 116, 92, 114, 92, 92, 93, 45, 94, 126, 32, 92, 120, 55, 102, 92, 120, 102, 102, 34]⟩) w) := lit_str (by show 10 ≤ _; omega) a2 rfl
  have c18a : ∀ w, Calls Tryd.prog 18 #[.string ⟨#[9, 13, 10, 34]⟩] w (Ret (.agg S1.cells) w) := setOf_set _ hS1.symm (by show 4 ≤ _; omega)
  have c18b : ∀ w, Calls Tryd.prog 18 #[.string ⟨#[93, 94, 45, 92]⟩] w (Ret (.agg S2.cells) w) := setOf_set _ hS2.symm (by show 4 ≤ _; omega)
  have c20a : ∀ w, Calls Tryd.prog 20 #[.int .u8 0, .int .u8 2] w (Ret (.agg S3.cells) w) := fun w => by rw [hS3]; exact range_any 0 2 w (by omega) (by omega)
  have c20b : ∀ w, Calls Tryd.prog 20 #[.int .u8 254, .int .u8 255] w (Ret (.agg S4.cells) w) := fun w => by rw [hS4]; exact range_any 254 255 w (by omega) (by omega)
  have c48a : ∀ w, Env w → Calls Tryd.prog 48 #[.agg S1.cells] w (Ret (.string ⟨#[91, 92, 116, 92, 110, 92, 114, 34, 93]⟩) w) := class_str _ a3 rfl
  have c48b : ∀ w, Env w → Calls Tryd.prog 48 #[.agg S2.cells] w (Ret (.string ⟨#[91, 92, 45, 92, 92, 45, 92, 94, 93]⟩) w) := class_str _ a4 rfl
  have c48c : ∀ w, Env w → Calls Tryd.prog 48 #[.agg S3.cells] w (Ret (.string ⟨#[91, 92, 120, 48, 48, 45, 92, 120, 48, 50, 93]⟩) w) := class_str _ a5 rfl
  have c48d : ∀ w, Env w → Calls Tryd.prog 48 #[.agg S4.cells] w (Ret (.string ⟨#[91, 92, 120, 102, 101, 92, 120, 102, 102, 93]⟩) w) := class_str _ a6 rfl
  have c49a : ∀ w, Calls Tryd.prog 49 #[.string ⟨#[34, 34]⟩, .string ⟨#[]⟩, .int .i64 2] w (Ret (.bool true) w) := text_str (n := 2) (by show 2 ≤ _; omega) b1 rfl
  have c49b : ∀ w, Calls Tryd.prog 49 #[.string ⟨#[34, 92, 120, 102, 70, 92, 116, 92, 34, 92, 92, 34, 32]⟩, .string ⟨#[255, 9, 34, 92]⟩, .int .i64 12] w (Ret (.bool true) w) := text_str (n := 12) (by show 13 ≤ _; omega) b2 rfl
  have c49c : ∀ w, Calls Tryd.prog 49 #[.string ⟨#[34, 91, 93, 45, 94, 34]⟩, .string ⟨#[91, 93, 45, 94]⟩, .int .i64 6] w (Ret (.bool true) w) := text_str (n := 6) (by show 6 ≤ _; omega) b3 rfl
  have c50a : ∀ w, Calls Tryd.prog 50 #[.string ⟨#[91, 93]⟩, .string ⟨#[]⟩, .int .i64 2] w (Ret (.bool true) w) := class_stry (n := 2) (by show 2 ≤ _; omega) (by show 0 ≤ _; omega) b4
  have c50b : ∀ w, Calls Tryd.prog 50 #[.string ⟨#[91, 97, 45, 97, 65, 45, 67, 92, 93, 93, 120]⟩, .string ⟨#[97, 65, 66, 67, 93]⟩, .int .i64 10] w (Ret (.bool true) w) := class_stry (n := 10) (by show 11 ≤ _; omega) (by show 5 ≤ _; omega) b5
  have c50c : ∀ w, Calls Tryd.prog 50 #[.string ⟨#[91, 92, 120, 54, 49, 45, 92, 120, 54, 51, 93]⟩, .string ⟨#[97, 98, 99]⟩, .int .i64 11] w (Ret (.bool true) w) := class_stry (n := 11) (by show 11 ≤ _; omega) (by show 3 ≤ _; omega) b6
  have c50d : ∀ w, Calls Tryd.prog 50 #[.string ⟨#[91, 34, 92, 94, 92, 45, 93]⟩, .string ⟨#[34, 94, 45]⟩, .int .i64 7] w (Ret (.bool true) w) := class_stry (n := 7) (by show 7 ≤ _; omega) (by show 3 ≤ _; omega) b7
  have c51 : ∀ w, Calls Tryd.prog 51 #[.string ⟨#[91, 94, 93]⟩] w (Ret (.tuple #[.agg BS.full.cells, .int .i64 3, .int .i64 0]) w) := fun w => by
    have := @unclass_any ⟨#[91, 94, 93]⟩ w (by show 3 ≤ _; omega)
    rw [b8] at this; exact this
  have c53 : ∀ w, Calls Tryd.prog 53 #[.int .u8 122, .int .i64 255] w (Ret (strV (List.replicate 255 122)) w) := many_any (b := 122) (n := 255) (by omega) (by omega)
  obtain ⟨Z, hZ⟩ : ∃ Z : ByteArray, Z = ⟨(List.replicate 255 122).toArray⟩ := ⟨_, rfl⟩
  have hZs : Z.size = 255 := by rw [hZ]; rfl
  have hZl : Z.size ≤ 255 := by omega
  have c53' : ∀ w, Calls Tryd.prog 53 #[.int .u8 122, .int .i64 255] w (Ret (.string Z) w) := fun w => by rw [hZ]; exact c53 w
  have e1 : (ByteArray.mk #[34] ++ Z ++ ByteArray.mk #[34]).size = 257 := by simp [hZs]; rfl
  have e2 : (ByteArray.mk #[34] ++ Z ++ ByteArray.mk #[122, 34]).size = 258 := by simp [hZs]; rfl
  have c49z : ∀ w, Calls Tryd.prog 49 #[.string (ByteArray.mk #[34] ++ Z ++ ByteArray.mk #[34]), .string Z, .int .i64 257] w (Ret (.bool true) w) := text_str (n := 257) (by omega) (by rw [hZ]; exact f1) (by rw [hZ])
  have c52z : ∀ w, Calls Tryd.prog 52 #[.string (ByteArray.mk #[34] ++ Z ++ ByteArray.mk #[122, 34]), .int .i64 0, .int .i64 40] w (Ret (.bool true) w) := fun w => wrong_lit (n := 0) (e := 40) (by omega) (by rw [hZ]; decide +kernel) (by rw [hZ]; exact f2) w
  clear a1 a2 a3 a4 a5 a6 b1 b2 b3 b4 b5 b6 b7 b8 f1 f2 hS1 hS2 hS3 hS4 c53 hZ hZs e1 e2
  go_enter Tryd.func9, Tryd.ntmps9
  go_upto_region 3 with (go_at_call 46; refine (awake3_any _ he).mono ?_; rintro x w2 ⟨rfl, hw2⟩)
  have he2 := he.lies hw2
  (refine wp_region_text_tail (C := Lies _) 26 (Lies.start _) ?_; simp only [List.take_succ_cons, List.take_zero, List.take_nil, List.drop_succ_cons, List.drop_zero, List.drop_nil]; (repeat (first | (refine quiet_skip rfl ?_; simp only [Act.put, List.setIfInBounds_toArray, List.set_cons_zero, List.set_cons_succ]) | (apply quiet_op _ rfl; (focus (intro w1 hw1; have hc1 := hw1.cells; go_simp; (try go_bits); (try (rw [if_pos (by omega)]; go_simp)); first | (go_at_call 47; with_reducible exact Calls.lies hw1 (c47a _)) | (go_at_call 47; with_reducible exact Calls.lies hw1 (c47b _)) | (go_at_call 18; with_reducible exact Calls.lies hw1 (c18a _)) | (go_at_call 18; with_reducible exact Calls.lies hw1 (c18b _)) | (go_at_call 20; with_reducible exact Calls.lies hw1 (c20a _)) | (go_at_call 20; with_reducible exact Calls.lies hw1 (c20b _)) | (go_at_call 48; with_reducible exact Calls.lies hw1 (c48a _ (he2.lies hw1))) | (go_at_call 48; with_reducible exact Calls.lies hw1 (c48b _ (he2.lies hw1))) | (go_at_call 48; with_reducible exact Calls.lies hw1 (c48c _ (he2.lies hw1))) | (go_at_call 48; with_reducible exact Calls.lies hw1 (c48d _ (he2.lies hw1))) | (go_at_call 47; exact Calls.lies hw1 (c47a _)) | (go_at_call 47; exact Calls.lies hw1 (c47b _)) | (go_at_call 18; exact Calls.lies hw1 (c18a _)) | (go_at_call 18; exact Calls.lies hw1 (c18b _)) | (go_at_call 20; exact Calls.lies hw1 (c20a _)) | (go_at_call 20; exact Calls.lies hw1 (c20b _)) | (go_at_call 48; exact Calls.lies hw1 (c48a _ (he2.lies hw1))) | (go_at_call 48; exact Calls.lies hw1 (c48b _ (he2.lies hw1))) | (go_at_call 48; exact Calls.lies hw1 (c48c _ (he2.lies hw1))) | (go_at_call 48; exact Calls.lies hw1 (c48d _ (he2.lies hw1))) | rfl)); simp only [Act.put, List.setIfInBounds_toArray, List.set_cons_zero, List.set_cons_succ]))); refine wpQuiet_nil ?_; intro w3 hw3)
  have he3 := he2.lies hw3
  have hb3 := Lies.below hw3 hw2.size hw2
  clear c47a c47b c18a c18b c20a c20b c48a c48b c48c c48d hw2 hw3 he2
  go_upto_region 5 with (fail)
  (refine wp_region_text_tail (C := Lies _) 26 (Lies.start _) ?_; simp only [List.take_succ_cons, List.take_zero, List.take_nil, List.drop_succ_cons, List.drop_zero, List.drop_nil]; (repeat (first | (refine quiet_skip rfl ?_; simp only [Act.put, List.setIfInBounds_toArray, List.set_cons_zero, List.set_cons_succ]) | (apply quiet_op _ rfl; (focus (intro w1 hw1; have hc1 := hw1.cells; go_simp; (try go_bits); (try (rw [if_pos (by omega)]; go_simp)); first | (go_at_call 49; with_reducible exact Calls.lies hw1 (c49a _)) | (go_at_call 49; with_reducible exact Calls.lies hw1 (c49b _)) | (go_at_call 49; with_reducible exact Calls.lies hw1 (c49c _)) | (go_at_call 50; with_reducible exact Calls.lies hw1 (c50a _)) | (go_at_call 50; with_reducible exact Calls.lies hw1 (c50b _)) | (go_at_call 50; with_reducible exact Calls.lies hw1 (c50c _)) | (go_at_call 50; with_reducible exact Calls.lies hw1 (c50d _)) | (go_at_call 49; exact Calls.lies hw1 (c49a _)) | (go_at_call 49; exact Calls.lies hw1 (c49b _)) | (go_at_call 49; exact Calls.lies hw1 (c49c _)) | (go_at_call 50; exact Calls.lies hw1 (c50a _)) | (go_at_call 50; exact Calls.lies hw1 (c50b _)) | (go_at_call 50; exact Calls.lies hw1 (c50c _)) | (go_at_call 50; exact Calls.lies hw1 (c50d _)) | rfl)); simp only [Act.put, List.setIfInBounds_toArray, List.set_cons_zero, List.set_cons_succ]))); refine wpQuiet_nil ?_; intro w4 hw4)
  have he4 := he3.lies hw4
  have hb4 := Lies.below hw4 hb3.size hb3
  clear c49a c49b c49c c50a c50b c50c c50d hw4 hb3 he3
  go_upto_region 8 with (go_at_call 51; refine (c51 _).mono ?_; rintro x w5 ⟨rfl, hw5⟩)
  have hb5 := Lies.below hw5 hb4.size hb4
  have he5 := (he4.lies hw5).alloc (.cells BS.full.cells 24)
  have hX := Blk.new w5 24 BS.full.cells
  have hb6 := hb5.alloc hb5.size (.cells BS.full.cells 24)
  have hcX := hX.cell
  have hlX := hX.lt
  clear c51 hw5 he4 hb4 hb5
  (refine wp_region_quiet_all (C := Lies _) (by kernel_rfl) (by kernel_rfl) (Lies.drew (Lies.start _)) ?_; (repeat (first | (refine quiet_skip rfl ?_; simp only [Act.put, List.setIfInBounds_toArray, List.set_cons_zero, List.set_cons_succ]) | (apply quiet_op _ rfl; (focus (intro w1 hw1; have hc1 := hw1.cells; go_simp; (try go_bits); (try (rw [if_pos (by omega)]; go_simp)); first | (go_at_call 31; with_reducible exact Calls.lies hw1 (all_any _)) | (go_at_call 31; exact Calls.lies hw1 (all_any _)) | rfl)); simp only [Act.put, List.setIfInBounds_toArray, List.set_cons_zero, List.set_cons_succ]))); refine wpQuiet_nil ?_; intro w6 hw6)
  have he6 := he5.lies hw6
  have hb7 := Lies.below hw6 hb6.size hb6
  clear hw6 he5 hX hb6 hcX hlX
  go_upto_region 10 with (fail)
  go_wp2_with fail
  generalize hW0 : w6.alloc _ = W0
  have hC0 : Blk W0 w6.heap.size 54 wcells := by rw [← hW0]; exact Blk.new w6 54 wcells
  have hb0 : Below w.heap.size w W0 := by rw [← hW0]; exact hb7.alloc hb7.size _
  have he0 : Env W0 := by rw [← hW0]; exact he6.alloc _
  clear hW0 hb7 he6
  go_loopw [109] (fun j wr => ∃ k : Nat, j = .int .i64 (k : Int) ∧ k ≤ 28 ∧ Blk wr w6.heap.size 54 wcells ∧ Env wr ∧ Below w.heap.size w wr) (fun j _ => 28 - (intOf j).toNat)
  case atStart => exact ⟨0, rfl, by omega, hC0, he0, hb0⟩
  case round =>
    clear hC0 hb0 he0
    obtain ⟨k, rfl, hk, hC, her, hbr⟩ := hrel
    by_cases hlt : k < 28
    · obtain ⟨x, hok, h1, h2, h3⟩ := wcells_at k hlt
      have q1 : wr.cell? ⟨w6.heap.size, k * 3, none⟩ = some (.string ⟨x.1.toArray⟩) := by rw [hC.cell]; exact h1
      have q2 : wr.cell? ⟨w6.heap.size, k * 3 + 1, none⟩ = some (.int .i64 (x.2.1 : Int)) := by rw [hC.cell]; exact h2
      have q3 : wr.cell? ⟨w6.heap.size, k * 3 + 2, none⟩ = some (.int .i64 (x.2.2 : Int)) := by rw [hC.cell]; exact h3
      have hl := hC.lt
      have k52 := fun w => okW_call hok w
      have d1 : decide (k < 28) = true := decide_eq_true hlt
      obtain ⟨⟨A⟩, hA⟩ : ∃ A : ByteArray, A = ⟨x.1.toArray⟩ := ⟨_, rfl⟩
      obtain ⟨n, hn⟩ : ∃ n, n = x.2.1 := ⟨_, rfl⟩
      obtain ⟨e, hee⟩ : ∃ e, e = x.2.2 := ⟨_, rfl⟩
      rw [← hA] at q1 k52
      rw [← hn] at q2 k52
      rw [← hee] at q3 k52
      clear hA hn hee h1 h2 h3 hok
      go_wp2_with (go_at_call 52; refine (k52 _).mono ?_; rintro x w7 ⟨rfl, hw7⟩)
      have hC7 := (hC.alloc _).lies hw7
      have her7 := (her.alloc _).lies hw7
      have hbr7 := Lies.below hw7 (hbr.alloc hbr.size _).size (hbr.alloc hbr.size _)
      go_roundw
      case rel => exact ⟨k + 1, by go_num, by omega, hC7, her7, hbr7⟩
      case measure => simp [intOf]; omega
    · have d1 : decide (k < 28) = false := decide_eq_false hlt
      obtain rfl : k = 28 := by omega
      go_wp2_with (first | (go_at_call 53; refine (c53' _).mono ?_; rintro x w7 ⟨rfl, hw7⟩) | (go_at_call 49; refine (c49z _).mono ?_; rintro x w8 ⟨rfl, hw8⟩) | (go_at_call 52; refine (c52z _).mono ?_; rintro x w9 ⟨rfl, hw9⟩))
      refine bodyPost_ret (v := .bool true) (by simp [results, Tryd.results9, go_sem]) rfl ?_
      have b7 := Lies.below hw7 hbr.size hbr
      have b8 := Lies.below hw8 b7.size b7
      exact ⟨rfl, Lies.below hw9 b8.size b8⟩
end Go.Proofs.YtakcckdnliiieaaDoor
