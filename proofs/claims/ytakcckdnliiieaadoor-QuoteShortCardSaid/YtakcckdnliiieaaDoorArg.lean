/- The rows: opening the arguments, the laid table, the frame of a law's proof. -/
import Derived.Test.YtakcckdnliiieaaDoorRows
import Derived.Test.YtakcckdnliiieaaDoorSet5
import Derived.ProofKit
import Derived.OpenShut
import Derived.LaidMore
import Derived.Lay
import Derived.Below
import Derived.ChangeSame
import Derived.Laws.IdiomArrays
import Derived.Stop.Joined
namespace Go.Proofs.YtakcckdnliiieaaDoor
open Go Go.RowKit Go.ChangeShapes Go.WideShapes Go.ChangeAt
theorem ownKnobs : ownKnob Tryd.prog.godebug = none := by kernel_rfl
theorem okWide_arr {P : Program} {w : World} {r : Reach} {base : Nat} {t e : TypeId} {n : Nat} {v : Value} (ht : P.underlying t = some (.array n e)) (h : Value.okWide P w r base t v) : ∃ cs, v = .agg cs ∧ cs.size = P.cellsOf t := by
  cases v <;> simp_all [Value.okWide]
theorem cells24 : Tryd.prog.cellsOf 24 = 4 ∧ Tryd.prog.cellsOf 22 = 1 ∧ Tryd.prog.cellsOf 5 = 1 := by decide +kernel
/-- A set as it is read. -/
def setD {H : Type} (s : BS) : DataW H := .agg [.lit (.int .u64 (tn s.w0)), .lit (.int .u64 (tn s.w1)), .lit (.int .u64 (tn s.w2)), .lit (.int .u64 (tn s.w3))]
theorem wf_tn (x : BitVec 64) : (Lit.int .u64 (tn x)).wf = true := by
  have := x.isLt
  unfold tn
  simp [Lit.wf, IntKind.min, IntKind.max, IntKind.signed, IntKind.bits]
  omega
theorem tn_of_wf {n : Int} (h : (Lit.int .u64 n).wf = true) : ∃ x, n = tn x := by
  obtain ⟨h0, h1⟩ := bounds_u64 h
  refine ⟨BitVec.ofNat 64 n.toNat, ?_⟩
  have := tn_ofNat n.toNat (by omega)
  omega
section
variable {H : Type} {enc : TypeId × Value → H} {w : World} {base : Nat} {spare : Nat → Bool} {held : Bool}
theorem open_set {r : Reach} {b0 : Nat} {v : Value} {d : DataW H} {ps : List MemPlace} (hval : Value.okWide Tryd.prog w r b0 24 v) (hd : DataW.Trod enc Tryd.prog w base spare held 24 v d ps) :
    ∃ s : BS, v = .agg s.cells ∧ d = setD s ∧ ps = [] := by
  obtain ⟨cs, rfl, hs⟩ := okWide_arr Tryd.underlying24 hval
  rw [cells24.1] at hs
  obtain ⟨fuel, hf⟩ := hd
  obtain ⟨c0, c1, c2, c3, rfl⟩ : ∃ c0 c1 c2 c3, cs = #[c0, c1, c2, c3] := by
    obtain ⟨l⟩ := cs
    match l, hs with
    | [a, b, c, d], _ => exact ⟨a, b, c, d, rfl⟩
  simp only [Value.cells] at hf
  obtain ⟨y0, y1, y2, y3, n, hx, h0, h1, h2, h3⟩ := trod_array4 Tryd.underlying24 cells24.2.1 hf
  obtain ⟨z0, e0, rfl, w0⟩ := DataW.trod_int Tryd.underlying22 h0
  obtain ⟨z1, e1, rfl, w1⟩ := DataW.trod_int Tryd.underlying22 h1
  obtain ⟨z2, e2, rfl, w2⟩ := DataW.trod_int Tryd.underlying22 h2
  obtain ⟨z3, e3, rfl, w3⟩ := DataW.trod_int Tryd.underlying22 h3
  obtain ⟨x0, rfl⟩ := tn_of_wf w0
  obtain ⟨x1, rfl⟩ := tn_of_wf w1
  obtain ⟨x2, rfl⟩ := tn_of_wf w2
  obtain ⟨x3, rfl⟩ := tn_of_wf w3
  simp only [List.cons.injEq, and_true] at e0 e1 e2 e3
  subst e0 e1 e2 e3
  simp only [Prod.mk.injEq, List.append_nil] at hx
  exact ⟨⟨x0, x1, x2, x3⟩, rfl, hx.1, hx.2⟩
theorem shut_set (s : BS) : DataW.Trod enc Tryd.prog w base spare held 24 (.agg s.cells) (setD s) [] := by
  refine ⟨2, ?_⟩
  have r4 : List.range 4 = [0, 1, 2, 3] := rfl
  have hc := cells24
  have h0 := wf_tn s.w0
  have h1 := wf_tn s.w1
  have h2 := wf_tn s.w2
  have h3 := wf_tn s.w3
  simp [DataW.trod, Value.cells, Tryd.underlying24, Tryd.underlying22, r4, hc.1, hc.2.1, BS.cells, setD, h0, h1, h2, h3]
end
theorem table_list : (Rows.laid_math_bits_deBruijn64tab : DataW Unit) = .agg (Lib.deBruijn64tab.map fun n => .lit (.int .u8 (n : Nat))) := by kernel_rfl
theorem table_len : Lib.deBruijn64tab.length = 64 := by decide +kernel
theorem env_of_laid {W : World} (h : laidMetH Tryd.prog [("math/bits.deBruijn64tab", Rows.laid_math_bits_deBruijn64tab)] W) : Env W := by
  rw [MakeChecks.laidMetH_plain _ _ _ (by kernel_rfl)] at h
  obtain ⟨ps, ⟨g, t, cs, fuel, p, q, hg, ht, hv, hd, _, _⟩, _, _⟩ := h
  obtain rfl := Option.some.inj ((show Tryd.prog.globalNamed "math/bits.deBruijn64tab" = some 0 by kernel_rfl).symm.trans hg)
  obtain rfl := Option.some.inj ((show (Tryd.prog.globals[0]?).map (·.type) = some 101 by kernel_rfl).symm.trans ht)
  obtain ⟨xs, m, _, ex, _, hl, hel⟩ := DataW.trod_array Tryd.underlying101 hd
  have hcell : ∀ r, r < 64 → W.cell? ⟨0, r, none⟩ = some (.int .u8 (Lib.deBruijn64tab.getD r 0 : Nat)) := by
    intro r hr
    have hE := hel r hr
    rw [cells24.2.2, Nat.mul_one, List.getElem?_eq_getElem (by omega)] at hE
    obtain ⟨z, e1, e2, _⟩ := DataW.trod_int Tryd.underlying5 hE
    have e3 : (xs.map (·.1)) = Lib.deBruijn64tab.map fun n => .lit (.int .u8 (n : Nat)) := (DataW.agg.inj ((Prod.mk.inj ex).1.symm.trans table_list))
    have e4 : (xs.map (·.1))[r]? = (Lib.deBruijn64tab.map fun n => (DataW.lit (.int .u8 (n : Nat)) : DataW Unit))[r]? := by rw [e3]
    have hlen := table_len
    rw [List.getElem?_map, List.getElem?_map, List.getElem?_eq_getElem (by omega : r < xs.length), List.getElem?_eq_getElem (by omega : r < Lib.deBruijn64tab.length), e2] at e4
    have hz : z = (Lib.deBruijn64tab.getD r 0 : Nat) := by
      simp only [Option.map_some, Option.some.injEq, DataW.lit.injEq, Lit.int.injEq, true_and] at e4
      rw [e4, List.getD, List.getElem?_eq_getElem (by omega : r < Lib.deBruijn64tab.length)]; rfl
    rw [World.var?_cell hg hv r, ← hz]
    have : cs.toList[r]? = some (.int .u8 z) := by
      have h0 : ((cs.toList.drop r).take 1)[0]? = some (.int .u8 z) := by rw [e1]; rfl
      simpa using h0
    simpa using this
  refine ⟨?_, hcell⟩
  have h0 := hcell 0 (by omega)
  rcases Nat.lt_or_ge 0 W.heap.size with h1 | h1
  · exact h1
  · unfold World.cell? at h0; simp [Array.getElem?_eq_none h1] at h0
section
variable {H : Type} {enc : TypeId × Value → H} {P : Program}
theorem post_of_below {f : Func} {s : ChangeSpec} {apart fresh handsOn again : Bool} {W W' : World} {args : Array Value} {v : Value} {ds gs : List (DataW H)} {before pa pv : List MemPlace}
    (hW : DataW.Whole enc P f.params.toList s.vars apart W args.toList ds gs before)
    (hres : ∀ (b : Nat) (sp : Nat → Bool) (hd : Bool), DataW.TrodAll enc P W' b sp hd f.resultTypes.toList (v.resultList f.resultTypes.size) (s.fn H (ds ++ gs)).results [])
    (hargs : ∀ sp : Nat → Bool, (∀ p ∈ before, sp p.block = true) → DataW.TrodAll enc P W' 0 sp true f.params.toList args.toList (s.fn H (ds ++ gs)).args pa)
    (hvars : ∀ sp : Nat → Bool, (∀ p ∈ before, sp p.block = true) → DataW.TrodVars enc P W' sp s.vars (s.fn H (ds ++ gs)).vars pv)
    (hps : before = pa ++ pv) (hb : Below W.heap.size W W')
    (hok : ∀ (j : Nat) (t : TypeId) (r : Value), f.resultTypes[j]? = some t → (v.resultList f.resultTypes.size)[j]? = some r → Value.okWide P W' .any 0 t r) :
    s.post enc P f apart fresh handsOn again W args v W' := by
  have hlt : ∀ p ∈ before, p.block < W.heap.size := fun p hp => hW.lt p hp
  have hold : ∀ p ∈ before, (fun b => decide (b < W.heap.size)) p.block = true := fun p hp => by simpa using hlt p hp
  refine ⟨ds, gs, before, [], pa, pv, hW, hres _ _ _, hargs _ hold, hvars _ hold, World.keptBut_mono (fun p hp => ⟨hp, ?_⟩) (hb.frame (· ∈ before)), fun _ => ?_⟩
  · rw [hps, List.mem_append] at hp
    exact Or.inr hp
  · obtain ⟨_, _, _, _, _, hz, hn⟩ := hW
    refine ⟨hok, _, _, ([] ++ pa) ++ pv, ⟨[] ++ pa, pv, trodAll_append (hargs _ (fun _ _ => rfl)) (hres _ _ _), hvars _ (fun _ _ => rfl), rfl, ?_, ?_⟩, ?_⟩
    · intro b off hp
      have hin : MemPlace.cell b off ∈ before := by rw [hps]; simpa using hp
      rw [hb.frozen (hlt _ hin)]
      exact hz b off hin
    · intro ha
      have := hn ha
      rw [hps] at this
      simpa using this
    · intro p hp _
      rw [hps]
      simpa using hp
end
end Go.Proofs.YtakcckdnliiieaaDoor
