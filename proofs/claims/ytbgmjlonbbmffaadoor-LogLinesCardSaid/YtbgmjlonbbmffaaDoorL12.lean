/- The law's small functions: wrong, some. -/
import Derived.Test.YtbgmjlonbbmffaaDoorL11
namespace Go.Proofs.YtbgmjlonbbmffaaDoor
open Go Go.RowKit
attribute [local go_sem] Oper.quietAt Oper.quietUpon
def wrongP (t : ByteArray) : Nat := if 0 < (decP t).1.length then 0 else (decP t).2
set_option maxRecDepth 100000 in
set_option maxHeartbeats 1000000 in
theorem wrong_any {t : ByteArray} {w : World} (ht : t.size ≤ 1000000000) : Calls Tryd.prog 11 #[.string t] w (Ret (.int .i64 (wrongP t : Int)) w) := by
  have k := decode_any (w := w) ht
  obtain ⟨r, hr⟩ : ∃ r, wrongP t = r := ⟨_, rfl⟩
  rw [hr]
  unfold wrongP at hr
  generalize decP t = r1 at k hr
  obtain ⟨l, e⟩ := r1
  unfold DecRet at k
  simp only at k hr
  have HR := Lib.hid hr
  clear hr
  go_enter Tryd.func11, Tryd.ntmps11
  go_upto_region 2 with (go_at_call 16; refine k.mono ?_; rintro x W ⟨v, rfl, hI, hl⟩; obtain ⟨oa, cp, hv⟩ := hI.slice; subst hv)
  by_cases h0 : 0 < l.length
  · obtain rfl : r = 0 := by rw [← HR.out, if_pos h0]
    have d1 : decide (0 < l.length) = true := decide_eq_true h0
    clear HR k hI
    go_wp2
    go_ret
    exact ⟨rfl, hl⟩
  · obtain rfl : r = e := by rw [← HR.out, if_neg h0]
    obtain hl0 : l.length = 0 := by omega
    rw [hl0]
    clear HR k hI h0 hl0
    go_wp2
    go_ret
    exact ⟨rfl, hl⟩
theorem items_lit {W : World} {F : Nat → Prop} {ps : List (ItemD × Value)} (hl : ps.length ≤ 5000) (hok : ∀ p ∈ ps, p.1.step.ok) (hp : ∀ p ∈ ps, IntsAt (W.alloc (.cells (cellsOf ps).toArray 37)) F p.2 p.1.step.path) (hF : F W.heap.size) :
    ItemsAt (W.alloc (.cells (cellsOf ps).toArray 37)) F (.slice (some ⟨W.heap.size, 0, none⟩) ps.length ps.length) (ps.map (·.1)) := by
  refine ⟨_, _, by rw [List.length_map], by unfold maxLen; rw [List.length_map]; omega, ?_, fun _ => ⟨W.heap.size, 0, rfl, hF, fun i x hi => ?_⟩⟩
  · intro x hx
    obtain ⟨p, hp1, rfl⟩ := List.mem_map.1 hx
    exact hok p hp1
  · rw [List.getElem?_map] at hi
    obtain ⟨p, hp1, rfl⟩ := Option.map_eq_some_iff.1 hi
    refine ⟨p.2, hp p (List.mem_of_getElem? hp1), fun j y hj => ?_⟩
    rw [Nat.zero_add, (Blk.new W 37 _).cell, List.getElem?_toArray]
    exact cellsOf_get ps i j p y hp1 hj
def someI : List ItemD := [⟨true, zeroS⟩, ⟨false, ⟨2, 1, 300, [1, 0], 0⟩⟩]
set_option maxRecDepth 100000 in
set_option maxHeartbeats 1000000 in
theorem some_any {w : World} : Calls Tryd.prog 25 #[] w fun x w' => ∃ v, x = .returned v ∧ ItemsAt w' (fun b => w.heap.size ≤ b ∧ b < w'.heap.size) v someI ∧ Lies w w' := by
  go_enter Tryd.func25, Tryd.ntmps25
  go_wp2
  go_ret
  have h1 := ints_new w [1, 0] (by simp)
  refine ⟨_, rfl, ?_, below_boxes _ _⟩
  have := items_lit (W := w.alloc (.cells ([(1 : Int), 0].map (Value.int .i64)).toArray 3)) (F := fun b => w.heap.size ≤ b ∧ b < w.heap.size + 2) (ps := [(⟨true, zeroS⟩, .slice none 0 0), (⟨false, ⟨2, 1, 300, [1, 0], 0⟩⟩, .slice (some ⟨w.heap.size, 0, none⟩) 2 2)]) (by simp) (by
    intro p hp
    simp at hp
    rcases hp with rfl | rfl <;> exact ⟨by simp [zeroS], by simp [zeroS]⟩) (by
    intro p hp
    simp at hp
    rcases hp with rfl | rfl
    · exact ints_nil _ _
    · exact (h1.alloc _).mono (fun b hb => by omega)) (by simp)
  rw [World.size_alloc] at this
  rw [World.size_alloc, World.size_alloc]
  exact this
end Go.Proofs.YtbgmjlonbbmffaaDoor
