/- A log told to the document. -/
import Derived.Test.YtbgmjlonbbmffaaDoorL20
namespace Go.Proofs.YtbgmjlonbbmffaaDoor
open Go Go.RowKit
attribute [local go_sem] Oper.quietAt Oper.quietUpon
theorem cellsOf_snoc (ps : List (ItemD × Value)) (p : ItemD × Value) : cellsOf (ps ++ [p]) = cellsOf ps ++ itemCells p.1 p.2 := by simp [cellsOf]
theorem items_of_row' {W : World} {F : Nat → Prop} {base e : Nat} {u : Value} {n : Nat} {ps : List (ItemD × Value)} (h : W.ownsRow base e 6 u n (cellsOf ps)) (hn : n = ps.length) (hl : n ≤ 100000) (hok : ∀ p ∈ ps, p.1.step.ok) (hp : ∀ p ∈ ps, IntsAt W F p.2 p.1.step.path) (hF : ∀ b, base ≤ b → b < W.heap.size → F b) :
    ItemsAt W F u (ps.map (·.1)) := by
  subst hn
  have hc := fun g hg => h.cells (g := g) hg
  have ht := h.lt
  rcases h.2 with ⟨rfl, hnil⟩ | ⟨g, cap, cur, rfl, _⟩
  · have : ps = [] := by
      have := cellsOf_length ps
      rw [hnil] at this
      exact List.eq_nil_of_length_eq_zero (by simp at this; omega)
    subst this
    exact ⟨none, 0, rfl, by simp [maxLen], by simp, fun h => absurd rfl h⟩
  · refine ⟨_, _, by rw [List.length_map], by unfold maxLen; rw [List.length_map]; omega, ?_, fun _ => ⟨g, 0, rfl, hF g (ht g rfl).1 (ht g rfl).2, fun i x hi => ?_⟩⟩
    · intro x hx
      obtain ⟨p, hp1, rfl⟩ := List.mem_map.1 hx
      exact hok p hp1
    · rw [List.getElem?_map] at hi
      obtain ⟨p, hp1, rfl⟩ := Option.map_eq_some_iff.1 hi
      refine ⟨p.2, hp p (List.mem_of_getElem? hp1), fun j y hj => ?_⟩
      have h2 := hc g rfl (i * 6 + j) y (cellsOf_get ps i j p y hp1 hj)
      have hadd : (⟨g, 0, none⟩ : Addr).add (i * 6 + j) = ⟨g, i * 6 + j, none⟩ := by unfold Addr.add; split <;> simp_all
      rw [hadd] at h2
      simpa using h2
def zs6 : Array Value := #[.bool false, .int .u8 0, .int .u8 0, .int .i64 0, .slice none 0 0, .int .i64 0]
theorem Tryd.info50' : (Tryd.prog.info? 50).map (fun i => (i.zero, i.size, i.bytes)) = some (some (.agg zs6), 6, 56) := by kernel_rfl
/-- What a call has read or made: a slice of items below the new world's end. -/
def ToldRet (l : List ItemD) (w : World) (x : Ending) (w' : World) : Prop :=
  ∃ v : Value, x = .returned v ∧ ItemsAt w' (fun b => b < w'.heap.size) v l ∧ Lies w w'
set_option maxRecDepth 100000 in
set_option maxHeartbeats 1500000 in
theorem told_any {w : World} {F : Nat → Prop} {v : Value} {l : List ItemD} (hI : ItemsAt w F v l) (hF : ∀ b, F b → b < w.heap.size) (hw : l.length < 20000) :
    Calls Tryd.prog 21 #[v] w (ToldRet l w) := by
  obtain ⟨oa, cap, hv⟩ := hI.slice
  have HI := Lib.hid hI
  have HF := Lib.hid hF
  clear hI hF
  subst hv
  go_enter Tryd.func21, Tryd.ntmps21
  go_wp2_with fail
  go_loopw [3, 4] (fun u j wr => ∃ (k : Nat) (ps : List (ItemD × Value)), j = .int .i64 (k : Int) ∧ k ≤ l.length ∧ ps.length = k ∧ Hid (ps.map (·.1) = l.take k) ∧ Hid (wr.ownsRow w.heap.size 50 6 u ps.length (cellsOf ps)) ∧ Hid (Lies w wr) ∧ Hid (∀ p ∈ ps, IntsAt wr F p.2 p.1.step.path ∧ p.1.step.ok)) (fun _ j _ => l.length - (intOf j).toNat)
  case atStart => exact ⟨0, [], rfl, Nat.zero_le _, rfl, Lib.hid (by simp), Lib.hid (World.ownsRow_nil _ _ _ _), Lib.hid (Lies.start w), Lib.hid (by simp)⟩
  case round =>
    obtain ⟨k, ps, rfl, hk, hpk, hst, hrow, hl, hps⟩ := hrel
    by_cases hlt : k < l.length
    case neg =>
      obtain rfl : k = l.length := by omega
      have d1 : decide (l.length < l.length) = false := decide_eq_false hlt
      clear hpk
      go_wp2
      go_ret
      refine ⟨_, rfl, ?_, hl.out⟩
      have hz := hl.out.size
      have hfin := hst.out
      rw [List.take_length] at hfin
      rw [← hfin]
      exact items_of_row' hrow.out rfl (by have := congrArg List.length hfin; simp at this; omega) (fun p hp => (hps.out p hp).2) (fun p hp => ((hps.out p hp).1).mono (fun b hb => Nat.lt_of_lt_of_le (HF.out b hb) hz)) (fun b _ hb => hb)
    have d1 : decide (k < l.length) = true := decide_eq_true hlt
    obtain ⟨b, off, cap', pv, hv, hFb, hb, hp, hx, c0, c1, c2, c3, c4, c5⟩ := (HI.out.lies hl.out).cell hlt
    obtain ⟨oa2, cap2, hpv⟩ := hp.slice
    injection hv with e1 e2 e3
    subst e1 hpv
    clear e2 e3
    have hst2 : l.take (k + 1) = l.take k ++ [l[k]] := List.take_succ_eq_append_getElem hlt
    generalize l[k] = x at *
    obtain ⟨m, ⟨a6, b6, c6, l6, z6⟩⟩ := x
    simp only at hp hx c0 c1 c2 c3 c4 c5
    have HST := Lib.hid hst2
    have HP := Lib.hid hp
    have HX := Lib.hid hx
    clear hst2 hp hx
    go_wp2_with (at_builtin; refine wpList_push3 rfl _ _ 54 rfl w.heap.size 50 (.agg zs6) 6 56 Tryd.underlying54 Tryd.info50' rfl (by decide) _ _ _ rfl hrow.out [.bool m, .int .u8 (a6 : Int), .int .u8 (b6 : Int), .int .i64 c6, .slice oa2 l6.length cap2, .int .i64 z6] rfl rfl (by intro y hy; simp at hy; rcases hy with rfl | rfl | rfl | rfl | rfl | rfl <;> rfl) (by omega) (by omega) hl.out.size ?_; intro u1 W3 hown3 hg3 hnil3 hf3)
    go_roundw
    case measure => simp [intOf]; omega
    case rel =>
      have hks : ∀ (v : Value) (q : List Int), IntsAt wr F v q → IntsAt W3 F v q := fun v q h => h.kept hg3 (fun r hr hF => by have := (hrow.out.lt r hr).1; have := HF.out r hF; omega)
      refine ⟨k + 1, ps ++ [(⟨m, ⟨a6, b6, c6, l6, z6⟩⟩, .slice oa2 l6.length cap2)], by go_num, by omega, by simp; omega, Lib.hid (by rw [HST.out, List.map_append, hst.out]; rfl), Lib.hid (by rw [cellsOf_snoc, List.length_append]; exact hown3), Lib.hid (hl.out.grown hg3 hl.out.size (fun b e => (hrow.out.lt b e).1)), Lib.hid (fun p hp => ?_)⟩
      rcases List.mem_append.1 hp with h | h
      · exact ⟨hks _ _ (hps.out p h).1, (hps.out p h).2⟩
      · rw [List.mem_singleton] at h
        subst h
        exact ⟨hks _ _ HP.out, HX.out⟩
end Go.Proofs.YtbgmjlonbbmffaaDoor
