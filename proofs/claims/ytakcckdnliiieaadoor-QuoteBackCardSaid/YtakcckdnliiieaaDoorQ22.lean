/- awake: the examples of the laws of quote. -/
import Derived.Test.YtakcckdnliiieaaDoorQ21
namespace Go.Proofs.YtakcckdnliiieaaDoor
open Go Go.RowKit
attribute [local go_sem] Oper.quietAt Oper.quietUpon
theorem awake_facts : unclsP ⟨#[91, 94, 97, 93]⟩ = ((BS.ofBytes [97]).not, 4, 0) ∧ litB [97, 34, 10, 0] = [34, 97, 92, 34, 92, 110, 92, 120, 48, 48, 34] ∧ unlitP ⟨#[34, 92, 120, 52, 65, 34, 120]⟩ = ([74], 6, 0) ∧
    classB (BS.ofBytes [97, 98, 99, 100, 45]) = [91, 92, 45, 97, 45, 100, 93] ∧ classB (BS.ofBytes [97, 98]) = [91, 97, 98, 93] ∧ classB BS.zero = [91, 93] ∧ classB BS.full = [46] ∧
    unclsP ⟨#[91, 98, 45, 97, 93]⟩ = (BS.zero, 1, 4) ∧ unclsP ⟨#[91, 97]⟩ = (BS.zero, 2, 8) ∧ unclsP ⟨#[91, 97, 94, 93]⟩ = (BS.zero, 2, 4) := by decide +kernel
theorem class_str {s : BS} {l : List UInt8} (A : ByteArray) (h : classB s = l) (hA : strV l = .string A) (w : World) (he : Env w) : Calls Tryd.prog 48 #[.agg s.cells] w (Ret (.string A) w) := by
  have := class_any s w he
  rw [h, hA] at this
  exact this
theorem setOf_set {s : BS} (A : ByteArray) (h : BS.ofBytes A.data.toList = s) (hs : A.size ≤ 1000000) (w : World) : Calls Tryd.prog 18 #[.string A] w (Ret (.agg s.cells) w) := by
  have := setOf_any A w (by omega)
  rwa [h] at this
set_option maxRecDepth 100000 in
set_option maxHeartbeats 2000000 in
theorem awake3_any (w : World) (he : Env w) : Calls Tryd.prog 46 #[] w (Ret (.bool true) w) := by
  obtain ⟨a1, a2, a3, a4, a5, a6, a7, a8, a9, a10⟩ := awake_facts
  obtain ⟨S1, hS1⟩ : ∃ S, S = BS.ofBytes [97] := ⟨_, rfl⟩
  obtain ⟨S2, hS2⟩ : ∃ S, S = BS.ofBytes [97, 98, 99, 100, 45] := ⟨_, rfl⟩
  obtain ⟨S3, hS3⟩ : ∃ S, S = BS.ofBytes [97, 98] := ⟨_, rfl⟩
  rw [← hS1] at a1
  rw [← hS2] at a4
  rw [← hS3] at a5
  have k51 : Calls Tryd.prog 51 #[.string ⟨#[91, 94, 97, 93]⟩] w (Ret (.tuple #[.agg S1.not.cells, .int .i64 4, .int .i64 0]) w) := by
    have := @unclass_any ⟨#[91, 94, 97, 93]⟩ w (by show 4 ≤ _; omega)
    rw [a1] at this; exact this
  have c47 : ∀ w, Calls Tryd.prog 47 #[.string ⟨#[97, 34, 10, 0]⟩] w (Ret (.string ⟨#[34, 97, 92, 34, 92, 110, 92, 120, 48, 48, 34]⟩) w) := fun w => by
    have := literal_any ⟨#[97, 34, 10, 0]⟩ w (by show 4 ≤ _; omega)
    rw [show litB (ByteArray.mk #[97, 34, 10, 0]).data.toList = _ from a2] at this; exact this
  have c49 : ∀ w, Calls Tryd.prog 49 #[.string ⟨#[34, 92, 120, 52, 65, 34, 120]⟩, .string ⟨#[74]⟩, .int .i64 6] w (Ret (.bool true) w) := fun w => text_yes (n := 6) (by show 7 ≤ _; omega) a3 w
  have c18a : ∀ w, Calls Tryd.prog 18 #[.string ⟨#[97, 98, 99, 100, 45]⟩] w (Ret (.agg S2.cells) w) := setOf_set _ hS2.symm (by show 5 ≤ _; omega)
  have c18b : ∀ w, Calls Tryd.prog 18 #[.string ⟨#[97, 98]⟩] w (Ret (.agg S3.cells) w) := setOf_set _ hS3.symm (by show 2 ≤ _; omega)
  have c18c : ∀ w, Calls Tryd.prog 18 #[.string ⟨#[97]⟩] w (Ret (.agg S1.cells) w) := setOf_set _ hS1.symm (by show 1 ≤ _; omega)
  have c48a : ∀ w, Env w → Calls Tryd.prog 48 #[.agg S2.cells] w (Ret (.string ⟨#[91, 92, 45, 97, 45, 100, 93]⟩) w) := class_str _ a4 rfl
  have c48b : ∀ w, Env w → Calls Tryd.prog 48 #[.agg S3.cells] w (Ret (.string ⟨#[91, 97, 98, 93]⟩) w) := class_str _ a5 rfl
  have c48c : ∀ w, Env w → Calls Tryd.prog 48 #[.agg BS.zero.cells] w (Ret (.string ⟨#[91, 93]⟩) w) := class_str _ a6 rfl
  have c48d : ∀ w, Env w → Calls Tryd.prog 48 #[.agg BS.full.cells] w (Ret (.string ⟨#[46]⟩) w) := class_str _ a7 rfl
  have c52a : ∀ w, Calls Tryd.prog 52 #[.string ⟨#[91, 98, 45, 97, 93]⟩, .int .i64 1, .int .i64 4] w (Ret (.bool true) w) := fun w => wrong_cls (n := 1) (e := 4) (by show 5 ≤ _; omega) rfl a8 w
  have c52b : ∀ w, Calls Tryd.prog 52 #[.string ⟨#[91, 97]⟩, .int .i64 2, .int .i64 8] w (Ret (.bool true) w) := fun w => wrong_cls (n := 2) (e := 8) (by show 2 ≤ _; omega) rfl a9 w
  have c52c : ∀ w, Calls Tryd.prog 52 #[.string ⟨#[91, 97, 94, 93]⟩, .int .i64 2, .int .i64 4] w (Ret (.bool true) w) := fun w => wrong_cls (n := 2) (e := 4) (by show 4 ≤ _; omega) rfl a10 w
  clear a1 a2 a3 a4 a5 a6 a7 a8 a9 a10 hS1 hS2 hS3
  go_enter Tryd.func46, Tryd.ntmps46
  go_upto_region 2 with (go_at_call 51; refine k51.mono ?_; rintro x w2 ⟨rfl, hw2⟩)
  have hX := Blk.new w2 24 S1.not.cells
  have hb := (hw2.alloc hw2.size (.cells S1.not.cells 24))
  have he2 := (he.lies hw2).alloc (.cells S1.not.cells 24)
  have hcX := hX.cell
  have hlX := hX.lt
  clear k51
  (refine wp_region_quiet_all (C := Lies _) (by kernel_rfl) (by kernel_rfl) (Lies.drew (Lies.start _)) ?_; (repeat (first | (refine quiet_skip rfl ?_; simp only [Act.put, List.setIfInBounds_toArray, List.set_cons_zero, List.set_cons_succ]) | (apply quiet_op _ rfl; (focus (intro w1 hw1; have hc1 := hw1.cells; go_simp; (try go_bits); (try (rw [if_pos (by omega)]; go_simp)); first | (go_at_call 47; with_reducible exact Calls.lies hw1 (c47 _)) | (go_at_call 49; with_reducible exact Calls.lies hw1 (c49 _)) | (go_at_call 18; with_reducible exact Calls.lies hw1 (c18a _)) | (go_at_call 18; with_reducible exact Calls.lies hw1 (c18b _)) | (go_at_call 18; with_reducible exact Calls.lies hw1 (c18c _)) | (go_at_call 48; with_reducible exact Calls.lies hw1 (c48a _ (he2.lies hw1))) | (go_at_call 48; with_reducible exact Calls.lies hw1 (c48b _ (he2.lies hw1))) | (go_at_call 48; with_reducible exact Calls.lies hw1 (c48c _ (he2.lies hw1))) | (go_at_call 48; with_reducible exact Calls.lies hw1 (c48d _ (he2.lies hw1))) | (go_at_call 31; with_reducible exact Calls.lies hw1 (all_any _)) | (go_at_call 30; with_reducible exact Calls.lies hw1 (not_any S1 _)) | (go_at_call 52; with_reducible exact Calls.lies hw1 (c52a _)) | (go_at_call 52; with_reducible exact Calls.lies hw1 (c52b _)) | (go_at_call 52; with_reducible exact Calls.lies hw1 (c52c _)) | (go_at_call 47; exact Calls.lies hw1 (c47 _)) | (go_at_call 49; exact Calls.lies hw1 (c49 _)) | (go_at_call 18; exact Calls.lies hw1 (c18a _)) | (go_at_call 18; exact Calls.lies hw1 (c18b _)) | (go_at_call 18; exact Calls.lies hw1 (c18c _)) | (go_at_call 48; exact Calls.lies hw1 (c48a _ (he2.lies hw1))) | (go_at_call 48; exact Calls.lies hw1 (c48b _ (he2.lies hw1))) | (go_at_call 48; exact Calls.lies hw1 (c48c _ (he2.lies hw1))) | (go_at_call 48; exact Calls.lies hw1 (c48d _ (he2.lies hw1))) | (go_at_call 31; exact Calls.lies hw1 (all_any _)) | (go_at_call 30; exact Calls.lies hw1 (not_any S1 _)) | (go_at_call 52; exact Calls.lies hw1 (c52a _)) | (go_at_call 52; exact Calls.lies hw1 (c52b _)) | (go_at_call 52; exact Calls.lies hw1 (c52c _)) | rfl)); simp only [Act.put, List.setIfInBounds_toArray, List.set_cons_zero, List.set_cons_succ]))); refine wpQuiet_nil ?_; intro w3 hw3)
  go_wp2
  go_ret
  exact ⟨by simp, Lies.below hw3 hb.size hb⟩
end Go.Proofs.YtakcckdnliiieaaDoor
