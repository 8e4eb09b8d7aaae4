/- quote.escapes: the map of what stands behind a backslash. -/
import Derived.Test.YtakcckdnliiieaaDoorQ4
import Derived.Maps.Own
import Derived.Maps.OwnSet
namespace Go.Proofs.YtakcckdnliiieaaDoor
open Go Go.RowKit Go.Maps
attribute [local go_sem] Oper.quietAt Oper.quietUpon
theorem byteLaw : Keyed Tryd.prog 5 := int_keyed Tryd.underlying5
theorem zero5 (w : World) : (zeroValue 5).run Tryd.prog w = .ok (.int .u8 0) w := by kernel_rfl
theorem wpList_insert_own {H : Type} {P : Program} (w : World) {ops : Array Oper} {rest : List Oper} {o : Oper} {a : Act} {Q : Exit → Act → World → Prop}
    (hg : o.guard = none) (m x v : Operand) (t : TypeId) (hop : o.op = Op.insert t m x v)
    (k e : TypeId) (K : Keyed P k) (ht : P.underlying t = some (.map k e)) (R : Value → Option (DataW H × List MemPlace)) (b n : Nat) (D : DataW H)
    (hm : a.eval m = .map (some b)) (hown : w.ownsMap P k R b n D) (hn : n < maxLen) (key val : Value) (kl : Lit) (hx : a.eval x = key) (hv : a.eval v = val) (hkey : keyOf P k key = some kl)
    (d : DataW H) (ps : List MemPlace) (hval : R val = some (d, ps))
    (hK : ∀ w', w'.ownsMap P k R b (n + 1) (D.put kl d) → w.grownBy w' (some b) → wpList P ops Q rest (a.put o.dst undef) w') :
    wpList P ops Q (o :: rest) a w := by
  refine wpList_plain hg fun K' hK' => ?_
  obtain ⟨w', hrun, r1, r2⟩ := hown.update K ht hn hkey hval
  unfold Oper.wp
  simp [execOp, hop, hm, hx, hv, hrun, Result.andThen]
  exact hK' _ _ (hK w' r1 r2)
abbrev kb (n : Nat) : Lit := .int .u8 (n : Int)
def escD0 : DataW Unit := ((((DataW.map []).put (kb 110) (.lit (kb 10))).put (kb 114) (.lit (kb 13))).put (kb 116) (.lit (kb 9))).put (kb 92) (.lit (kb 92))
def escD (L : List UInt8) : DataW Unit := L.foldl (fun D x => D.put (kb x.toNat) (.lit (kb x.toNat))) escD0
theorem escD_snoc (L : List UInt8) (x : UInt8) : escD (L ++ [x]) = (escD L).put (kb x.toNat) (.lit (kb x.toNat)) := by simp [escD]
/-- What is meant by a byte behind a backslash. -/
def meant (L : List UInt8) (n : Nat) : Option Nat := if inL L n then some n else if n = 92 then some 92 else if n = 116 then some 9 else if n = 114 then some 13 else if n = 110 then some 10 else none
theorem wf_byte {n : Nat} (h : n < 256) : (kb n).wf = true := by
  simp [Lit.wf, IntKind.min, IntKind.max, IntKind.signed, IntKind.bits]
  omega
/-- Block mb is the map of the escapes. -/
def EscAt (w : World) (mb : Nat) (L : List UInt8) : Prop := w.ownsMap Tryd.prog 5 (plainElem Tryd.prog 5) mb (4 + L.length) (escD L)
set_option maxRecDepth 100000 in
set_option maxHeartbeats 2000000 in
theorem escapes_any (s : ByteArray) (w : World) (hs : s.size ≤ 1000) :
    Calls Tryd.prog 80 #[.string s] w fun e w' => e = .returned (.map (some w.heap.size)) ∧ EscAt w' w.heap.size s.data.toList ∧ Below w.heap.size w w' := by
  have hmm := @run_makeMap Tryd.prog
  have hm0 : (w.alloc (.map #[] 0)).ownsMap Tryd.prog 5 (plainElem (H := Unit) Tryd.prog 5) w.heap.size 0 (.map []) := World.ownsMap_made _ _ _ _
  have hb0 : Below w.heap.size w (w.alloc (.map #[] 0)) := by (repeat' first | exact Below.refl _ _ | assumption | refine Below.alloc ?_ (by simp <;> omega) _ | refine Below.setCell ?_ (by simp <;> omega) _ | refine Below.drew ?_)
  go_enter Tryd.func80, Tryd.ntmps80
  go_wp2_with (refine wpList_insert_own _ rfl _ _ _ 82 rfl 5 5 byteLaw Tryd.underlying82 _ w.heap.size _ _ rfl (by assumption) (by unfold maxLen; omega) _ _ _ rfl rfl (keyOf_int_mk Tryd.underlying5 (by decide)) _ [] (plainElem_int Tryd.underlying5 (by decide)) ?_; intro w1 hown1 hgrow1; replace hb0 := below_grown hb0 hgrow1 (Nat.le_refl _) hb0.size)
  have hE1 : w1.ownsMap Tryd.prog 5 (plainElem Tryd.prog 5) w.heap.size 4 escD0 := hown1
  have hB1 : Below w.heap.size w w1 := hb0
  clear hm0 hmm
  go_loopw [4] (fun i wr => ∃ k : Nat, k ≤ s.size ∧ i = .int .i64 (k : Int) ∧ Below w.heap.size w wr ∧ wr.ownsMap Tryd.prog 5 (plainElem Tryd.prog 5) w.heap.size (4 + k) (escD (s.data.toList.take k))) (fun i _ => s.size - (intOf i).toNat)
  case atStart => exact ⟨0, by omega, rfl, hB1, hE1⟩
  clear hE1 hB1
  case round =>
    obtain ⟨k, hk, rfl, hb, hE⟩ := hrel
    by_cases hlt : k < s.size
    · have hby := s[k].toNat_lt
      have HS := Lib.hid (escD_snoc (s.data.toList.take k) s[k])
      go_upto_region 5 with (fail)
      (refine wp_region_quiet_tail (C := Lies _) 7 (by kernel_rfl) (by kernel_rfl) (Lies.drew (Lies.start _)) ?_; simp only [List.take_succ_cons, List.take_zero, List.take_nil, List.drop_succ_cons, List.drop_zero, List.drop_nil]; (repeat (first | (refine quiet_skip rfl ?_; simp only [Act.put, List.setIfInBounds_toArray, List.set_cons_zero, List.set_cons_succ]) | (apply quiet_op _ rfl; (focus (intro w1 hw1; have hc1 := hw1.cells; go_simp; (try go_bits); (try (rw [if_pos (by omega)]; go_simp)); first | rfl)); simp only [Act.put, List.setIfInBounds_toArray, List.set_cons_zero, List.set_cons_succ]))); refine wpQuiet_nil ?_; intro w2 hw2)
      have hE2 := hE.kept (row := none) ⟨hw2.os, hw2.tape, hw2.output, hw2.size, fun k hk _ => hw2.block k hk⟩ (by simp)
      have hb2 := Lies.below hw2 hb.size hb
      refine wpList_mapUpdate_own _ rfl _ _ _ 82 rfl 5 5 byteLaw Tryd.underlying82 _ w.heap.size _ _ rfl hE2 (by unfold maxLen; omega) _ _ _ rfl rfl (keyOf_int_mk Tryd.underlying5 (wf_byte hby)) _ [] (plainElem_int Tryd.underlying5 (wf_byte hby)) ?_
      intro w3 hE3 hg3
      have hb3 := below_grown hb2 hg3 (Nat.le_refl _) hb2.size
      clear hE hE2 hb hb2 hw2 hg3
      go_wp2
      go_roundw
      case rel => exact ⟨k + 1, by omega, by go_num, hb3, by rw [take_snoc s k hlt, HS.out]; exact hE3⟩
      case measure => simp [intOf]; omega
    · obtain rfl : k = s.size := by omega
      rw [take_all] at hE
      go_wp2
      go_ret
      exact ⟨rfl, by unfold EscAt; rw [Array.length_toList]; exact hE, hb⟩
theorem atKey_kb (D : DataW Unit) (hD : IsMap D) (k n : Nat) (v z : DataW Unit) : (D.put (kb k) v).atKey (kb n) z = if n = k then v else D.atKey (kb n) z := by
  by_cases h : n = k
  · subst h; rw [if_pos rfl]; exact atKey_put_same hD (by simp [WideAt.IsKeyLit]) _ _
  · rw [if_neg h]; exact atKey_put_other (by simp [kb]; omega) _ _
theorem has_kb (D : DataW Unit) (hD : IsMap D) (k n : Nat) (v : DataW Unit) : Maps.has (D.put (kb k) v) (kb n) = (decide (n = k) || Maps.has D (kb n)) := by
  by_cases h : n = k
  · subst h; rw [has_put_same hD (by simp [WideAt.IsKeyLit])]; simp
  · rw [has_put_other (by simp [kb]; omega)]; simp [h]
theorem isMap_escD0 : IsMap escD0 := (((isMap_empty.put _ _).put _ _).put _ _).put _ _
theorem isMap_escD (L : List UInt8) : IsMap (escD L) := by
  unfold escD
  generalize hD : escD0 = D
  have h : IsMap D := hD ▸ isMap_escD0
  clear hD
  induction L generalizing D with
  | nil => exact h
  | cons x L ih => exact ih _ (h.put _ _)
theorem has_escD0 (n : Nat) : Maps.has escD0 (kb n) = (decide (n = 92) || (decide (n = 116) || (decide (n = 114) || decide (n = 110)))) := by
  unfold escD0
  rw [has_kb _ (((isMap_empty.put _ _).put _ _).put _ _), has_kb _ ((isMap_empty.put _ _).put _ _), has_kb _ (isMap_empty.put _ _), has_kb _ isMap_empty]
  simp [Maps.has_eq]
theorem inL_cons (x : UInt8) (L : List UInt8) (n : Nat) (hn : n < 256) : inL (x :: L) n = (decide (n = x.toNat) || inL L n) := by
  unfold inL
  rw [Bool.eq_iff_iff]
  simp only [List.contains_iff_mem, List.mem_cons, Bool.or_eq_true, decide_eq_true_iff]
  constructor
  · rintro (h | h)
    · left
      have := congrArg UInt8.toNat h
      rwa [UInt8.toNat_ofNat_of_lt' (by simpa using hn)] at this
    · exact .inr h
  · rintro (h | h)
    · left; rw [h]; simp
    · exact .inr h
theorem has_fold_esc (n : Nat) (hn : n < 256) : ∀ (L : List UInt8) (D : DataW Unit), IsMap D → Maps.has (L.foldl (fun D x => D.put (kb x.toNat) (.lit (kb x.toNat))) D) (kb n) = (inL L n || Maps.has D (kb n))
  | [], D, _ => by simp [inL]
  | x :: L, D, h => by
    rw [List.foldl_cons, has_fold_esc n hn L _ (h.put _ _), has_kb _ h, inL_cons _ _ _ hn]
    cases inL L n <;> cases decide (n = x.toNat) <;> simp
theorem at_fold_esc (n : Nat) (hn : n < 256) (z : DataW Unit) : ∀ (L : List UInt8) (D : DataW Unit), IsMap D → (L.foldl (fun D x => D.put (kb x.toNat) (.lit (kb x.toNat))) D).atKey (kb n) z = if inL L n then .lit (kb n) else D.atKey (kb n) z
  | [], D, _ => by simp [inL]
  | x :: L, D, h => by
    rw [List.foldl_cons, at_fold_esc n hn z L _ (h.put _ _), atKey_kb _ h, inL_cons _ _ _ hn]
    by_cases h1 : n = x.toNat
    · simp [h1]
    · simp [h1]
theorem look_esc (L : List UInt8) (n : Nat) (hn : n < 256) : Maps.has (escD L) (kb n) = (meant L n).isSome ∧ (escD L).atKey (kb n) (.lit (kb 0)) = .lit (kb ((meant L n).getD 0)) := by
  unfold escD
  rw [has_fold_esc n hn L _ isMap_escD0, at_fold_esc n hn _ L _ isMap_escD0, has_escD0]
  unfold meant
  cases hi : inL L n
  · simp only [Bool.false_or, Bool.false_eq_true, if_false]
    unfold escD0
    rw [atKey_kb _ (((isMap_empty.put _ _).put _ _).put _ _), atKey_kb _ ((isMap_empty.put _ _).put _ _), atKey_kb _ (isMap_empty.put _ _), atKey_kb _ isMap_empty]
    by_cases h1 : n = 92
    · subst h1; simp
    · by_cases h2 : n = 116
      · subst h2; simp
      · by_cases h3 : n = 114
        · subst h3; simp
        · by_cases h4 : n = 110
          · subst h4; simp
          · simp only [h1, h2, h3, h4, decide_false, Bool.or_false, if_false, Option.isSome_none, Option.getD_none, true_and]
            exact atKey_of_not_has (by simp [Maps.has_eq]) _
  · simp
end Go.Proofs.YtakcckdnliiieaaDoor
