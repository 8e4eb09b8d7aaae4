/- The rows: opening the arguments, the laid table, the frame of a law's proof. -/
import Derived.Test.YtbgmjlonbbmffaaDoorL15
import Derived.ProofKit
import Derived.OpenShut
import Derived.LaidMore
import Derived.Lay
import Derived.Below
import Derived.ChangeSame
import Derived.Stop.Joined
import Derived.Deep.Slices
import Derived.WideKeyArgs
import Derived.Stop.LaidErr
namespace Go.Proofs.YtbgmjlonbbmffaaDoor
open Go Go.RowKit Go.ChangeShapes Go.WideShapes Go.ChangeAt
theorem ownKnobs : ownKnob Tryd.prog.godebug = none := by kernel_rfl
theorem cellsLG : Tryd.prog.cellsOf 3 = 1 ∧ Tryd.prog.cellsOf 35 = 5 ∧ Tryd.prog.cellsOf 37 = 6 ∧ Tryd.prog.cellsOf 5 = 1 ∧ Tryd.prog.cellsOf 33 = 1 ∧ Tryd.prog.cellsOf 4 = 1 := by decide +kernel
theorem spot_none {w : World} {a : Addr} {v : Value} (h : w.cell? a = some v) : ∃ b o, a = ⟨b, o, none⟩ := by
  obtain ⟨b, o, s⟩ := a
  cases s with
  | none => exact ⟨b, o, rfl⟩
  | some s =>
    unfold World.cell? at h
    split at h <;> simp at h
theorem cell_size {w : World} {a : Addr} {v : Value} (h : w.cell? a = some v) : a.block < w.heap.size := World.block_lt_of_cell? w _ h
theorem add_none (b o i : Nat) : (⟨b, o, none⟩ : Addr).add i = ⟨b, o + i, none⟩ := by unfold Addr.add; split <;> simp_all
section
variable {H : Type} {enc : TypeId × Value → H} {w : World} {base : Nat} {spare : Nat → Bool} {held : Bool}
def Old (w : World) (b : Nat) : Prop := b < w.heap.size
theorem open_path {n : Nat} {cs : List Value} {x : DataW H × List MemPlace} (h : DataW.trod enc Tryd.prog w base spare held n 33 cs = some x) : ∃ v l, cs = [v] ∧ IntsAt w (Old w) v l := by
  rcases open_ints Tryd.underlying33 Tryd.underlying3 cellsLG.1 h with ⟨rfl, _⟩ | ⟨a, len, cap, zs, rfl, _, hlc, hcm, hzl, _, hcell, _⟩
  · exact ⟨_, [], rfl, none, 0, rfl, by simp [maxLen], fun h => absurd rfl h⟩
  · have hle : len ≤ zs.length := by rw [hzl]; split <;> omega
    have hlen : (zs.take len).length = len := by rw [List.length_take]; omega
    refine ⟨_, zs.take len, rfl, some a, cap, by rw [hlen], by rw [hlen]; omega, fun hne => ?_⟩
    have h0 : 0 < len := by
      rcases Nat.eq_zero_or_pos len with h | h
      · subst h; simp at hne
      · exact h
    have c0 := hcell 0 (by omega)
    obtain ⟨b, o, ha⟩ := spot_none c0
    have ha' : a = ⟨b, o, none⟩ := by simpa [Addr.add] using ha
    subst ha'
    refine ⟨b, o, rfl, cell_size c0, fun i x hi => ?_⟩
    have hi2 : i < len := by have := (List.getElem?_eq_some_iff.1 hi).1; omega
    have ci := hcell i (by omega)
    rw [add_none] at ci
    rw [ci, List.getD_eq_getElem?_getD]
    rw [List.getElem?_take, if_pos hi2] at hi
    rw [hi]; rfl
set_option maxRecDepth 100000 in
theorem open_step {n : Nat} {cs : List Value} {x : DataW H × List MemPlace} (h : DataW.trod enc Tryd.prog w base spare held n 35 cs = some x) :
    ∃ (s : StepD) (pv : Value), cs = stepCells s pv ∧ s.ok ∧ IntsAt w (Old w) pv s.path := by
  obtain ⟨xs, m, _, _, hlen, hxl, hf⟩ := DataW.trod_struct Tryd.underlying35 h
  rw [cellsLG.2.1] at hlen
  match cs, hlen with
  | [a, b, c, d, e], _ =>
    match xs, hxl with
    | [y0, y1, y2, y3, y4], _ =>
      have f0 := hf 0 ⟨ "Pass", 5, 0, false, "", "", 0⟩ rfl
      have f1 := hf 1 ⟨ "Way", 5, 1, false, "", "", 1⟩ rfl
      have f2 := hf 2 ⟨ "Rule", 3, 2, false, "", "", 8⟩ rfl
      have f3 := hf 3 ⟨ "Path", 33, 3, false, "", "", 16⟩ rfl
      have f4 := hf 4 ⟨ "At", 3, 4, false, "", "", 40⟩ rfl
      simp only [cellsLG.1, cellsLG.2.2.2.1, cellsLG.2.2.2.2.1, List.drop_zero, List.drop_succ_cons, List.take_succ_cons, List.take_zero, List.getElem?_cons_zero, List.getElem?_cons_succ] at f0 f1 f2 f3 f4
      obtain ⟨z0, e0, _, w0⟩ := DataW.trod_int Tryd.underlying5 f0
      obtain ⟨z1, e1, _, w1⟩ := DataW.trod_int Tryd.underlying5 f1
      obtain ⟨z2, e2, _, w2⟩ := DataW.trod_int Tryd.underlying3 f2
      obtain ⟨pv, l, e3, hp⟩ := open_path f3
      obtain ⟨z4, e4, _, w4⟩ := DataW.trod_int Tryd.underlying3 f4
      simp only [List.cons.injEq, and_true] at e0 e1 e2 e3 e4
      subst e0 e1 e2 e3 e4
      have b0 := bounds_u8 w0
      have b1 := bounds_u8 w1
      obtain ⟨n0, rfl⟩ : ∃ n : Nat, z0 = (n : Int) := ⟨z0.toNat, by omega⟩
      obtain ⟨n1, rfl⟩ : ∃ n : Nat, z1 = (n : Int) := ⟨z1.toNat, by omega⟩
      exact ⟨⟨n0, n1, z2, l, z4⟩, _, rfl, ⟨by simp only; omega, by simp only; omega⟩, hp⟩
set_option maxRecDepth 100000 in
theorem open_item {n : Nat} {cs : List Value} {x : DataW H × List MemPlace} (h : DataW.trod enc Tryd.prog w base spare held n 37 cs = some x) :
    ∃ (s : ItemD) (pv : Value), cs = itemCells s pv ∧ s.step.ok ∧ IntsAt w (Old w) pv s.step.path := by
  obtain ⟨xs, m, _, _, hlen, hxl, hf⟩ := DataW.trod_struct Tryd.underlying37 h
  rw [cellsLG.2.2.1] at hlen
  match cs, hlen with
  | [a, b, c, d, e, f], _ =>
    match xs, hxl with
    | [y0, y1], _ =>
      have f0 := hf 0 ⟨ "Mark", 4, 0, false, "", "", 0⟩ rfl
      have f1 := hf 1 ⟨ "Step", 35, 1, false, "", "", 8⟩ rfl
      simp only [cellsLG.2.1, cellsLG.2.2.2.2.2, List.drop_zero, List.drop_succ_cons, List.take_succ_cons, List.take_zero, List.getElem?_cons_zero, List.getElem?_cons_succ] at f0 f1
      obtain ⟨z0, e0, _⟩ := DataW.trod_bool Tryd.underlying4 f0
      obtain ⟨s, pv, e1, hok, hp⟩ := open_step f1
      simp only [List.cons.injEq, and_true] at e0
      subst e0
      exact ⟨⟨z0, s⟩, pv, by unfold itemCells; rw [← e1], hok, hp⟩
theorem open_itemsC {n : Nat} {cs : List Value} {x : DataW H × List MemPlace} (h : DataW.trod enc Tryd.prog w base spare held n 22 cs = some x) : ∃ v l, cs = [v] ∧ ItemsAt w (Old w) v l := by
  rcases Go.Deep.open_slice Tryd.underlying22 h with ⟨rfl, _⟩ | ⟨a, len, cap, m, k, D, Pl, rfl, _, hlc, hcm, hm, _, hel⟩
  · exact ⟨_, [], rfl, none, 0, rfl, by simp [maxLen], by simp, fun h => absurd rfl h⟩
  · have hle : len ≤ m := by rw [hm]; split <;> omega
    have each : ∀ i, i < len → ∃ y : ItemD × Value, y.1.step.ok ∧ IntsAt w (Old w) y.2 y.1.step.path ∧ ∀ j u, (itemCells y.1 y.2)[j]? = some u → w.cell? (a.add (i * 6 + j)) = some u := fun i hi => by
      obtain ⟨cs', h1, h2⟩ := hel i (by omega)
      rw [cellsLG.2.2.1] at h1
      obtain ⟨s, pv, rfl, hok, hp⟩ := open_item h2
      obtain ⟨_, hcl, hat⟩ := World.cells?_some h1
      refine ⟨(s, pv), hok, hp, fun j u hj => ?_⟩
      have hj6 : j < 6 := by rw [← hcl]; exact (List.getElem?_eq_some_iff.1 hj).1
      rw [← Go.Deep.add_add, hat j hj6]; exact hj
    haveI : Inhabited (ItemD × Value) := ⟨(⟨false, ⟨0, 0, 0, [], 0⟩⟩, undef)⟩
    obtain ⟨Y, hY⟩ := Go.Deep.choose_lt each
    have hlen : ((List.range len).map fun i => (Y i).1).length = len := by simp
    refine ⟨_, (List.range len).map fun i => (Y i).1, rfl, some a, cap, by rw [hlen], by rw [hlen]; omega, fun y hy => ?_, fun hne => ?_⟩
    · obtain ⟨i, hi, rfl⟩ := List.mem_map.1 hy
      exact (hY i (List.mem_range.1 hi)).1
    · have h0 : 0 < len := by
        rcases Nat.eq_zero_or_pos len with h | h
        · subst h; simp at hne
        · exact h
      have c0 := (hY 0 h0).2.2 0 _ rfl
      obtain ⟨b, o, ha⟩ := spot_none c0
      have ha' : a = ⟨b, o, none⟩ := by simpa [Addr.add] using ha
      subst ha'
      refine ⟨b, o, rfl, cell_size c0, fun i x hi => ?_⟩
      rw [List.getElem?_map] at hi
      obtain ⟨i', hi', rfl⟩ := Option.map_eq_some_iff.1 hi
      obtain ⟨hi2, hi3⟩ := List.getElem?_eq_some_iff.1 hi'
      rw [List.getElem_range] at hi3
      subst hi3
      rw [List.length_range] at hi2
      refine ⟨(Y i).2, (hY i hi2).2.1, fun j u hj => ?_⟩
      have := (hY i hi2).2.2 j u hj
      rw [add_none] at this
      rwa [Nat.add_assoc]
set_option maxRecDepth 100000 in
theorem open_items {r : Reach} {b0 : Nat} {v : Value} {d : DataW H} {ps : List MemPlace} (hval : Value.okWide Tryd.prog w r b0 22 v) (hd : DataW.Trod enc Tryd.prog w base spare held 22 v d ps) :
    ∃ l, ItemsAt w (Old w) v l := by
  obtain ⟨fuel, hf⟩ := hd
  obtain ⟨u, l, hu, hI⟩ := open_itemsC hf
  have hv : v = u := by
    obtain ⟨oa, cap, rfl⟩ := hI.slice
    unfold Value.okWide at hval
    rw [Tryd.underlying22] at hval
    simp only at hval
    cases v <;> simp [Value.cells, Cell.okWide, Cell.ok, Tryd.underlying22] at hu hval ⊢
    all_goals exact hu
  subst hv
  exact ⟨l, hI⟩
end
theorem pow_list : (Rows.laid_internal_strconv_uint64pow10 : DataW Unit) = Lib.tabData .u64 Lib.pow10Tab := by kernel_rfl
theorem cells116 : Tryd.prog.cellsOf 116 = 20 ∧ Tryd.prog.cellsOf 99 = 1 := by decide +kernel
theorem tab_of_head {rest : List (String × DataW Unit)} {W : World} (h : laidMet Tryd.prog (("internal/strconv.uint64pow10", Rows.laid_internal_strconv_uint64pow10) :: rest) W) : Tab W := by
  rw [pow_list] at h
  exact Lib.tabIs_of_head (g := 1) (t := 116) (e := 99) (n := 20) (by kernel_rfl) (by kernel_rfl) Tryd.underlying116 Tryd.underlying99 cells116.2 cells116.1 h
theorem tab_of_laid {W : World} (h : laidMetH Tryd.prog [("math/bits.deBruijn32tab", Rows.laid_math_bits_deBruijn32tab), ("math/bits.deBruijn64tab", Rows.laid_math_bits_deBruijn64tab), ("internal/strconv.uint64pow10", Rows.laid_internal_strconv_uint64pow10)] W) : Tab W := by
  rw [MakeChecks.laidMetH_plain _ _ _ (by kernel_rfl)] at h
  exact tab_of_head (laidMet.tail (laidMet.tail h))
/-- An argument reads behind the call as it read before. -/
theorem shut_items {H : Type} {enc : TypeId × Value → H} {base : Nat} {W W' : World} {sp' : Nat → Bool} {v : Value} {d : DataW H} {ps : List MemPlace} (h : DataW.Trod enc Tryd.prog W base (fun _ => true) true 22 v d ps) (hb : Below W.heap.size W W') (hlt : ∀ p ∈ ps, p.block < W.heap.size) (hs : ∀ p ∈ ps, sp' p.block = true) :
    DataW.Trod enc Tryd.prog W' base sp' true 22 v d ps :=
  Go.WideElems.Trod_stays (by kernel_rfl) (by kernel_rfl) (of_decide_eq_true (by kernel_rfl)) h (fun p hp => hb.same (hlt p hp)) hs
section
variable {H : Type} {enc : TypeId × Value → H} {P : Program}
theorem post_of_below {f : Func} {s : ChangeSpec} {apart fresh handsOn again : Bool} {W W' : World} {args : Array Value} {v : Value} {ds gs : List (DataW H)} {before pa pv : List MemPlace}
    (hW : DataW.Whole enc P f.params.toList s.vars apart W args.toList ds gs before)
    (hres : ∀ (b : Nat) (sp : Nat → Bool) (hd : Bool), DataW.TrodAll enc P W' b sp hd f.resultTypes.toList (v.resultList f.resultTypes.size) (s.fn H (ds ++ gs)).results [])
    (hargs : ∀ sp : Nat → Bool, (∀ p ∈ before, sp p.block = true) → DataW.TrodAll enc P W' 0 sp true f.params.toList args.toList (s.fn H (ds ++ gs)).args pa)
    (hvars : ∀ sp : Nat → Bool, (∀ p ∈ before, sp p.block = true) → DataW.TrodVars enc P W' sp s.vars (s.fn H (ds ++ gs)).vars pv)
    (hps : before = pa ++ pv) (hb : Below W.heap.size W W')
    (hok : ∀ (j : Nat) (t : TypeId) (r : Value), f.resultTypes[j]? = some t → (v.resultList f.resultTypes.size)[j]? = some r → Value.okWide P W' .any 0 t r) :
    s.post enc P f apart fresh handsOn again W args v W' := by
  have hlt : ∀ p ∈ before, p.block < W.heap.size := fun p hp => hW.lt p hp
  have hold : ∀ p ∈ before, (fun b => decide (b < W.heap.size)) p.block = true := fun p hp => by simpa using hlt p hp
  refine ⟨ds, gs, before, [], pa, pv, hW, hres _ _ _, hargs _ hold, hvars _ hold, World.keptBut_mono (fun p hp => ⟨hp, ?_⟩) (hb.frame (· ∈ before)), fun _ => ?_⟩
  · rw [hps, List.mem_append] at hp
    exact Or.inr hp
  · obtain ⟨_, _, _, _, _, hz, hn⟩ := hW
    refine ⟨hok, _, _, ([] ++ pa) ++ pv, ⟨[] ++ pa, pv, trodAll_append (hargs _ (fun _ _ => rfl)) (hres _ _ _), hvars _ (fun _ _ => rfl), rfl, ?_, ?_⟩, ?_⟩
    · intro b off hp
      have hin : MemPlace.cell b off ∈ before := by rw [hps]; simpa using hp
      rw [hb.frozen (hlt _ hin)]
      exact hz b off hin
    · intro ha
      have := hn ha
      rw [hps] at this
      simpa using this
    · intro p hp _
      rw [hps]
      simpa using hp
end
end Go.Proofs.YtbgmjlonbbmffaaDoor
