/- Whatever the input that fits, bonsai/bonsailaw03.QuotePlain returns true and each argument reads behind the call as it read before; math/bits.deBruijn64tab, which the row lists, is tied to the program's text by the card. -/
import Derived.Test.YtakcckdnliiieaaDoorArg
import Derived.Test.YtakcckdnliiieaaDoorQ33
import Derived.Test.YtakcckdnliiieaaDoorCards
import Derived.Test.YtakcckdnliiieaaDoorTie
import Derived.SevenTiedAt
import Derived.SizedLaws
import Derived.Carry
namespace Go.Proofs.YtakcckdnliiieaaDoor
open Go Go.RowKit Go.ChangeShapes Go.WideShapes Go.ChangeAt Go.ChangeMaps
set_option maxRecDepth 100000 in
theorem quotePlain_lifted (os : Os) (started : os.Started) (H : Type) (enc : TypeId × Value → H) :
    ReturnsInHanded {} Tryd.checked os 13 .any (fun w args => (Rows.quotePlainSpec.pre enc Tryd.prog Tryd.f13 Rows.quotePlainRow.domain false w args ∧ laidMetH Tryd.prog Rows.quotePlainRow.laid w) ∧ sizedMet enc Tryd.prog Tryd.f13 (OpenSpec.ofChange Rows.quotePlainSpec) false w args)
      (Rows.quotePlainSpec.post enc Tryd.prog Tryd.f13 false true false false) := by
  refine returnsInHanded_of_change_and (C := Tryd.checked) (X := fun w _ => laidMetH Tryd.prog Rows.quotePlainRow.laid w) (fun _ _ _ hh h => h.of_heap hh) ownKnobs started (by kernel_rfl) Tryd.func13
    (ChangeSpec.witness_shaped (enc := enc) (C := Tryd.checked) (os := os) (X := fun w _ => laidMetH Tryd.prog Rows.quotePlainRow.laid w) false (World.laidAll Tryd.prog os Rows.quotePlainRow.laid) #[.string ⟨#[]⟩, .agg BS.zero.cells] 8 (World.laidAll_os _ _ _)
      (World.shaped_of_ZipB (by kernel_rfl) (by kernel_rfl)) (by kernel_rfl) (by kernel_rfl) (by kernel_rfl)
      (by rw [MakeChecks.laidMetH_plain _ _ _ (by kernel_rfl)]; exact laidMet_laidAll _ (by kernel_rfl) (by kernel_rfl))) ?_
  intro W base args ds gs before hval0 hW hc hsz0 hL _
  have hval : ∀ (j : Nat) t v, Tryd.f13.params[j]? = some t → args[j]? = some v → Value.okWide Tryd.prog W .any base t v := hval0
  have hsz := hsz0
  have hW' := hW
  obtain ⟨p, q, hA0, hV, rfl, _, _⟩ := hW
  have hA : DataW.TrodAll enc Tryd.prog W 0 (fun _ => true) true Tryd.f13.params.toList args.toList ds p := hA0
  rw [Tryd.params13] at hA hval
  obtain ⟨v0, v1, d0, d1, p0, p1, rfl, rfl, rfl, h0, h1⟩ := trodAll_two hA
  obtain ⟨rfl, rfl⟩ := trodVars_none hV
  obtain ⟨x0, rfl, rfl, rfl, hs0⟩ := open_string Tryd.underlying9 (hval 0 9 v0 rfl rfl) h0
  have hr0 : x0.size ≤ 140737488351232 := by
    have := sized_string hsz (j := 0) (t := 9) (bytes := x0.data.toList) rfl rfl
    rw [Array.length_toList] at this
    exact this
  obtain ⟨x1, rfl, rfl, rfl⟩ := open_set (hval 1 24 v1 rfl rfl) h1
  simp only [List.append_nil] at hW'
  refine (quotePlain_any x0 x1 W (env_of_laid hL) hr0).mono fun e W' ⟨he, hb⟩ => ?_
  subst he
  exact ⟨_, rfl, post_of_below (pa := []) (pv := []) hW' (fun _ _ _ => trodAll_mk1 (shut_bool Tryd.underlying4 _)) (fun sp _ => trodAll_mk2 (shut_string Tryd.underlying9 hs0) (shut_set x1)) (fun _ _ => rfl) rfl hb (ok_one (by kernel_rfl) rfl (okWide_bool_mk Tryd.underlying4 _))⟩
theorem quotePlain_holds : Rows.QuotePlainSaid :=
  OpenClaim.holds_of_wide 13 Tryd.f13 rfl rfl rfl rfl rfl rfl rfl ⟨rfl, rfl, rfl, rfl, rfl⟩ rfl rfl rfl rfl rfl (by kernel_rfl) Tryd.func13 (by kernel_rfl)
    (of_decide_eq_true (by kernel_rfl)) (by unfold Func.isWrapper; first | (rw [if_pos (by decide +kernel)]; kernel_rfl) | (rw [if_neg (by decide +kernel)]; exact ⟨rfl, rfl⟩))
    (fun os started H enc _ => quotePlain_lifted os started H enc)
theorem quotePlain_card : Rows.QuotePlainCardSaid :=
  Claim7.holds_tied_plain_at .later [] [.data] true (true, "3d62946ba3c2d8d1c4f87b3073421fa4cf05505a4d7a54c74da1f3b6088f7aa9") false quotePlain_holds (fun _ h => by cases h) (by kernel_rfl) (fun _ h => by cases h) quotePlain_row_tie rfl ⟨rfl, rfl⟩ (by kernel_rfl) rfl
    (fun f fn hf hfn => by
      obtain rfl : f = 13 := Option.some.inj ((show Tryd.prog.funcNamed "bonsai/bonsailaw03.QuotePlain" = some 13 by kernel_rfl).symm.trans hf) |>.symm
      obtain rfl : fn = Tryd.f13 := (Option.some.inj (Tryd.func13.symm.trans hfn)).symm
      exact ⟨by kernel_rfl, fun j t ht => by
        rw [Tryd.params13] at ht
        have hm : t ∈ [9, 24] := by simpa using Array.mem_of_getElem? ht
        have hall : ([9, 24].all fun u => !Tryd.prog.wantsStandIn u) = true := by kernel_rfl
        exact (show Tryd.prog.wantsStandIn t = false by simpa using List.all_eq_true.1 hall t hm)⟩)
    (by kernel_rfl)
end Go.Proofs.YtakcckdnliiieaaDoor
