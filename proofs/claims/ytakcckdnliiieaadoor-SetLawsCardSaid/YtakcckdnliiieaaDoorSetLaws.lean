/- Whatever the input that fits, bonsai/bonsailaw01.SetLaws returns true and each argument reads behind the call as it read before; math/bits.deBruijn64tab, which the row lists, is tied to the program's text by the card. -/
import Derived.Test.YtakcckdnliiieaaDoorArg
import Derived.Test.YtakcckdnliiieaaDoorSet19
import Derived.Test.YtakcckdnliiieaaDoorCards
import Derived.Test.YtakcckdnliiieaaDoorTie
import Derived.SevenTiedAt
import Derived.SizedLaws
import Derived.Carry
namespace Go.Proofs.YtakcckdnliiieaaDoor
open Go Go.RowKit Go.ChangeShapes Go.WideShapes Go.ChangeAt Go.ChangeMaps
set_option maxRecDepth 100000 in
theorem setLaws_lifted (os : Os) (started : os.Started) (H : Type) (enc : TypeId × Value → H) :
    ReturnsInHanded {} Tryd.checked os 7 .any (fun w args => (Rows.setLawsSpec.pre enc Tryd.prog Tryd.f7 Rows.setLawsRow.domain false w args ∧ laidMetH Tryd.prog Rows.setLawsRow.laid w) ∧ sizedMet enc Tryd.prog Tryd.f7 (OpenSpec.ofChange Rows.setLawsSpec) false w args)
      (Rows.setLawsSpec.post enc Tryd.prog Tryd.f7 false true false false) := by
  refine returnsInHanded_of_change_and (C := Tryd.checked) (X := fun w _ => laidMetH Tryd.prog Rows.setLawsRow.laid w) (fun _ _ _ hh h => h.of_heap hh) ownKnobs started (by kernel_rfl) Tryd.func7
    (ChangeSpec.witness_shaped (enc := enc) (C := Tryd.checked) (os := os) (X := fun w _ => laidMetH Tryd.prog Rows.setLawsRow.laid w) false (World.laidAll Tryd.prog os Rows.setLawsRow.laid) #[.agg BS.zero.cells, .agg BS.zero.cells, .int .u8 0, .string ⟨#[]⟩] 8 (World.laidAll_os _ _ _)
      (World.shaped_of_ZipB (by kernel_rfl) (by kernel_rfl)) (by kernel_rfl) (by kernel_rfl) (by kernel_rfl)
      (by rw [MakeChecks.laidMetH_plain _ _ _ (by kernel_rfl)]; exact laidMet_laidAll _ (by kernel_rfl) (by kernel_rfl))) ?_
  intro W base args ds gs before hval0 hW hc hsz0 hL _
  have hval : ∀ (j : Nat) t v, Tryd.f7.params[j]? = some t → args[j]? = some v → Value.okWide Tryd.prog W .any base t v := hval0
  have hsz := hsz0
  have hW' := hW
  obtain ⟨p, q, hA0, hV, rfl, _, _⟩ := hW
  have hA : DataW.TrodAll enc Tryd.prog W 0 (fun _ => true) true Tryd.f7.params.toList args.toList ds p := hA0
  rw [Tryd.params7] at hA hval
  obtain ⟨v0, v1, v2, v3, d0, d1, d2, d3, p0, p1, p2, p3, rfl, rfl, rfl, h0, h1, h2, h3⟩ := trodAll_four hA
  obtain ⟨rfl, rfl⟩ := trodVars_none hV
  obtain ⟨x0, rfl, rfl, rfl⟩ := open_set (hval 0 24 v0 rfl rfl) h0
  obtain ⟨x1, rfl, rfl, rfl⟩ := open_set (hval 1 24 v1 rfl rfl) h1
  obtain ⟨z2, rfl, rfl, rfl, wz2⟩ := open_int Tryd.underlying5 (hval 2 5 v2 rfl rfl) h2
  have bz2 := bounds_u8 wz2
  obtain ⟨x2, rfl⟩ : ∃ n : Nat, z2 = (n : Int) := ⟨z2.toNat, by omega⟩
  have hb2 : x2 < 256 := by omega
  obtain ⟨x3, rfl, rfl, rfl, hs3⟩ := open_string Tryd.underlying9 (hval 3 9 v3 rfl rfl) h3
  have hr3 : x3.size ≤ 140737488351232 := by
    have := sized_string hsz (j := 3) (t := 9) (bytes := x3.data.toList) rfl rfl
    rw [Array.length_toList] at this
    exact this
  simp only [List.append_nil] at hW'
  refine (laws_any x0 x1 x2 x3 hb2 hr3 W (env_of_laid hL)).mono fun e W' ⟨he, hb⟩ => ?_
  subst he
  exact ⟨_, rfl, post_of_below (pa := []) (pv := []) hW' (fun _ _ _ => trodAll_mk1 (shut_bool Tryd.underlying4 _)) (fun sp _ => trodAll_mk4 (shut_set x0) (shut_set x1) (shut_int Tryd.underlying5 wz2) (shut_string Tryd.underlying9 hs3)) (fun _ _ => rfl) rfl hb (ok_one (by kernel_rfl) rfl (okWide_bool_mk Tryd.underlying4 _))⟩
theorem setLaws_holds : Rows.SetLawsSaid :=
  OpenClaim.holds_of_wide 7 Tryd.f7 rfl rfl rfl rfl rfl rfl rfl ⟨rfl, rfl, rfl, rfl, rfl⟩ rfl rfl rfl rfl rfl (by kernel_rfl) Tryd.func7 (by kernel_rfl)
    (of_decide_eq_true (by kernel_rfl)) (by unfold Func.isWrapper; first | (rw [if_pos (by decide +kernel)]; kernel_rfl) | (rw [if_neg (by decide +kernel)]; exact ⟨rfl, rfl⟩))
    (fun os started H enc _ => setLaws_lifted os started H enc)
theorem setLaws_card : Rows.SetLawsCardSaid :=
  Claim7.holds_tied_plain_at .later [] [.data] true (true, "3d62946ba3c2d8d1c4f87b3073421fa4cf05505a4d7a54c74da1f3b6088f7aa9") false setLaws_holds (fun _ h => by cases h) (by kernel_rfl) (fun _ h => by cases h) setLaws_row_tie rfl ⟨rfl, rfl⟩ (by kernel_rfl) rfl
    (fun f fn hf hfn => by
      obtain rfl : f = 7 := Option.some.inj ((show Tryd.prog.funcNamed "bonsai/bonsailaw01.SetLaws" = some 7 by kernel_rfl).symm.trans hf) |>.symm
      obtain rfl : fn = Tryd.f7 := (Option.some.inj (Tryd.func7.symm.trans hfn)).symm
      exact ⟨by kernel_rfl, fun j t ht => by
        rw [Tryd.params7] at ht
        have hm : t ∈ [24, 24, 5, 9] := by simpa using Array.mem_of_getElem? ht
        have hall : ([24, 24, 5, 9].all fun u => !Tryd.prog.wantsStandIn u) = true := by kernel_rfl
        exact (show Tryd.prog.wantsStandIn t = false by simpa using List.all_eq_true.1 hall t hm)⟩)
    (by kernel_rfl)
end Go.Proofs.YtakcckdnliiieaaDoor
