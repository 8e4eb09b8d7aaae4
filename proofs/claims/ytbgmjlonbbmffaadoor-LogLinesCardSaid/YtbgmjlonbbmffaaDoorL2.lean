/- The laws' guard: how much a log is. -/
import Derived.Test.YtbgmjlonbbmffaaDoorL1
import Derived.Test.YtbgmjlonbbmffaaDoorRows
namespace Go.Proofs.YtbgmjlonbbmffaaDoor
open Go Go.RowKit
def wt (l : List ItemD) : Nat := (l.map fun x => 1 + min 20000 x.step.path.length).sum
theorem wt_append (a b : List ItemD) : wt (a ++ b) = wt a + wt b := by simp [wt]
theorem wt_step (l : List ItemD) (k : Nat) (h : k < l.length) : wt (l.take (k + 1)) = wt (l.take k) + (1 + min 20000 l[k].step.path.length) := by
  rw [List.take_succ_eq_append_getElem h, wt_append]; simp [wt]
theorem wt_take (l : List ItemD) (k : Nat) : wt (l.take k) ≤ wt l := by
  conv => rhs; rw [← List.take_append_drop k l, wt_append]
  omega
theorem wt_len (l : List ItemD) : l.length ≤ wt l := by
  unfold wt
  induction l with
  | nil => simp
  | cons x l ih => simp; omega
theorem wt_path (l : List ItemD) (h : wt l < 20000) : ∀ x ∈ l, x.step.path.length < 20000 := by
  unfold wt at h
  induction l with
  | nil => simp
  | cons x l ih =>
    simp at h
    intro y hy
    rcases List.mem_cons.1 hy with rfl | hy
    · omega
    · exact ih (by omega) y hy
theorem ret_dec {p q : Prop} [Decidable p] [Decidable q] (_ : True) (h : p ↔ q) : Ending.returned (.bool (decide p)) = .returned (.bool (decide q)) := by rw [decide_eq_decide.2 h]
set_option maxRecDepth 100000 in
set_option maxHeartbeats 1000000 in
theorem long_any {w : World} {F : Nat → Prop} {v : Value} {l : List ItemD} (hI : ItemsAt w F v l) :
    Calls Tryd.prog 7 #[v] w (Ret (.bool (decide (20000 ≤ wt l))) w) := by
  obtain ⟨oa, cap, hv⟩ := hI.slice
  have hml := hI.len
  have HI := Lib.hid hI
  clear hI
  subst hv
  go_enter Tryd.func7, Tryd.ntmps7
  go_wp2_with fail
  go_loopw [3, 4] (fun n j wr => ∃ k : Nat, j = .int .i64 (k : Int) ∧ n = .int .i64 (wt (l.take k) : Int) ∧ k ≤ l.length ∧ wt (l.take k) ≤ 40001 ∧ Lies w wr) (fun _ j _ => l.length - (intOf j).toNat)
  case atStart => exact ⟨0, rfl, by simp [wt], by omega, by simp [wt], Lies.start w⟩
  case round =>
    obtain ⟨k, rfl, rfl, hk, hw, hl⟩ := hrel
    have htk := wt_take l k
    by_cases hlt : k < l.length
    case neg =>
      obtain rfl : k = l.length := by omega
      have d1 : decide (l.length < l.length) = false := decide_eq_false (by omega)
      go_wp2
      go_ret
      exact ⟨ret_dec trivial (by omega), hl⟩
    have hst := wt_step l k hlt
    obtain ⟨b, off, cap', pv, hv, _, hb, hp, hok, c0, c1, c2, c3, c4, c5⟩ := (HI.out.lies hl).cell hlt
    obtain ⟨oa', cap2, hpv⟩ := hp.slice
    have hpl := hp.len
    injection hv with h1 h2 h3
    subst h1 hpv
    have d1 : decide (k < l.length) = true := decide_eq_true hlt
    have HST := Lib.hid hst
    clear hst hp h3 HI
    by_cases hn : wt (l.take k) < 20000
    · have d2 : decide ((wt (l.take k) : Int) < 20000) = true := decide_eq_true (by omega)
      go_wp2
      go_roundw
      case rel => exact ⟨k + 1, by go_num, congrArg (Value.int .i64) (by rw [HST.out]; split <;> omega), by omega, by rw [HST.out]; omega, hl⟩
      case measure => simp [intOf]; omega
    · have d2 : decide ((wt (l.take k) : Int) < 20000) = false := decide_eq_false (by omega)
      have d3 : decide (20000 ≤ (wt (l.take k) : Int)) = true := decide_eq_true (by omega)
      have d4 : Hid (decide (20000 ≤ wt l) = true) := Lib.hid (decide_eq_true (by omega))
      go_wp2
      go_ret
      exact ⟨by rw [d4.out]; rfl, hl⟩
end Go.Proofs.YtbgmjlonbbmffaaDoor
