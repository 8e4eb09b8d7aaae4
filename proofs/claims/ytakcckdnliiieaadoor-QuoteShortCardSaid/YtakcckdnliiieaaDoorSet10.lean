import Derived.Test.YtakcckdnliiieaaDoorSet9
import Derived.Laws.OwnMore
namespace Go.Proofs.YtakcckdnliiieaaDoor
open Go Go.RowKit Go.Shelf

/-- The runs of numbers, one number more. -/
def addRun (rs : List (Nat × Nat)) (b : Nat) : List (Nat × Nat) := match rs.getLast? with
  | some (a, z) => if z + 1 = b then rs.dropLast ++ [(a, b)] else rs ++ [(b, b)]
  | none => [(b, b)]
def runsL (l : List Nat) : List (Nat × Nat) := l.foldl addRun []
def rsB (l : List UInt8) : List (Nat × Nat) := runsL (l.map UInt8.toNat)
def rcells (rs : List (Nat × Nat)) : List Value := rs.flatMap fun r => [nb r.1, nb r.2]
theorem rcells_append (a b : List (Nat × Nat)) : rcells (a ++ b) = rcells a ++ rcells b := by simp [rcells]
theorem rcells_length (a : List (Nat × Nat)) : (rcells a).length = a.length * 2 := by
  induction a with
  | nil => rfl
  | cons x l ih => simp [rcells] at ih ⊢; omega
theorem addRun_nil (b : Nat) : addRun [] b = [(b, b)] := rfl
theorem addRun_ext (q : List (Nat × Nat)) (a z b : Nat) (h : z + 1 = b) : addRun (q ++ [(a, z)]) b = q ++ [(a, b)] := by simp [addRun, h]
theorem addRun_new (q : List (Nat × Nat)) (a z b : Nat) (h : z + 1 ≠ b) : addRun (q ++ [(a, z)]) b = q ++ [(a, z)] ++ [(b, b)] := by simp [addRun, h]
theorem rsB_snoc (l : List UInt8) (x : UInt8) : rsB (l ++ [x]) = addRun (rsB l) x.toNat := by simp [rsB, runsL]
theorem runs_cases (rs : List (Nat × Nat)) : rs = [] ∨ ∃ q a z, rs = q ++ [(a, z)] := by
  rcases List.eq_nil_or_concat rs with h | ⟨q, ⟨a, z⟩, h⟩
  · exact .inl h
  · exact .inr ⟨q, a, z, by simpa using h⟩
theorem addRun_len (rs : List (Nat × Nat)) (b : Nat) : (addRun rs b).length ≤ rs.length + 1 := by
  rcases runs_cases rs with rfl | ⟨q, a, z, rfl⟩
  · simp [addRun_nil]
  · by_cases h : z + 1 = b
    · rw [addRun_ext q a z b h]; simp
    · rw [addRun_new q a z b h]; simp
theorem addRun_le (rs : List (Nat × Nat)) (b : Nat) (hb : b < 256) (h : ∀ r ∈ rs, r.1 < 256 ∧ r.2 < 256) : ∀ r ∈ addRun rs b, r.1 < 256 ∧ r.2 < 256 := by
  rcases runs_cases rs with rfl | ⟨q, a, z, rfl⟩
  · rw [addRun_nil]; simp; omega
  · by_cases e : z + 1 = b
    · rw [addRun_ext q a z b e]
      intro r hr
      rcases List.mem_append.1 hr with hr | hr
      · exact h r (by simp [hr])
      · simp at hr; subst hr; have := h (a, z) (by simp); exact ⟨this.1, hb⟩
    · rw [addRun_new q a z b e]
      intro r hr
      rcases List.mem_append.1 hr with hr | hr
      · exact h r hr
      · simp at hr; subst hr; exact ⟨hb, hb⟩
theorem foldl_runs_len (l : List Nat) : ∀ rs, (l.foldl addRun rs).length ≤ rs.length + l.length := by
  induction l with
  | nil => intro rs; simp
  | cons b l ih => intro rs; have := ih (addRun rs b); have := addRun_len rs b; simp; omega
theorem rsB_len (l : List UInt8) : (rsB l).length ≤ l.length := by have := foldl_runs_len (l.map UInt8.toNat) []; simpa [rsB, runsL] using this
theorem foldl_runs_le (l : List Nat) : ∀ rs, (∀ b ∈ l, b < 256) → (∀ r ∈ rs, r.1 < 256 ∧ r.2 < 256) → ∀ r ∈ l.foldl addRun rs, r.1 < 256 ∧ r.2 < 256 := by
  induction l with
  | nil => intro rs _ h; exact h
  | cons b l ih => intro rs hl h; exact ih _ (fun c hc => hl c (by simp [hc])) (addRun_le rs b (hl b (by simp)) h)
theorem rsB_le (l : List UInt8) : ∀ r ∈ rsB l, r.1 < 256 ∧ r.2 < 256 :=
  foldl_runs_le _ _ (fun b hb => by simp at hb; obtain ⟨x, _, rfl⟩ := hb; exact x.toNat_lt) (by simp)
attribute [local go_sem] Oper.semAt_some
theorem cell_two_new (W : World) (u v : Value) (t : TypeId) : ∀ j y, [u, v][j]? = some y → (W.alloc (.cells #[u, v] t)).cell? ((⟨W.heap.size, 0, none⟩ : Addr).add j) = some y := by
  intro j y h
  match j, h with
  | 0, h => simp at h; subst h; simp [Addr.add]
  | 1, h => simp at h; subst h; simp [Addr.add]
  | j + 2, h => simp at h
theorem Tryd.info36 : (Tryd.prog.info? 36).map (fun i => (i.zero, i.size, i.bytes)) = some (some (.agg #[.int .u8 0, .int .u8 0]), 2, 2) := by kernel_rfl
def BS.runs (s : BS) : List (Nat × Nat) := rsB s.bytes
set_option maxRecDepth 100000 in
set_option maxHeartbeats 2000000 in
theorem runs_any (s : BS) (w : World) (he : Env w) :
    Calls Tryd.prog 28 #[.agg s.cells] w fun e W' => ∃ v, e = .returned v ∧ W'.ownsRow w.heap.size 36 2 v s.runs.length (rcells s.runs) ∧ (v = .slice none 0 0 ↔ s.runs = []) ∧ Below w.heap.size w W' := by
  refine (callsIn_wide (n := 3)).1 ?_
  obtain ⟨i0, hi, hz0, hz1, hz2⟩ := info_parts Tryd.info36
  have hlen := BS.len_le s
  refine callsIn_of_wp_marks Tryd.func28 rfl trivial ?_ rfl
  simp only [Tryd.ntmps28, List.size_toArray, List.length_cons, List.length_nil, Nat.reduceAdd, Nat.reduceSub, Array.replicate_succ, Array.replicate_zero, List.push_toArray, List.append_toArray, List.nil_append, List.cons_append]
  have hc1 := ((Blk.new w 24 s.cells).alloc (.cells #[.slice none 0 0] 34)).cell
  gi_wp2_with (refine ⟨trivial, ?_⟩; gi_at_call 59; refine (callsIn_wide.2 (each_any s _)).mono ?_; rintro e w4 ⟨rfl, rfl⟩)
  obtain ⟨W0, hW0⟩ : ∃ W0, ((w.alloc (.cells s.cells 24)).alloc (.cells #[.slice none 0 0] 34)).alloc (.cells s.cells 24) = W0 := ⟨_, rfl⟩
  have hB0 : Below w.heap.size w W0 := by rw [← hW0]; (repeat' first | exact Below.refl _ _ | assumption | refine Below.alloc ?_ (by simp <;> omega) _ | refine Below.setCell ?_ (by simp <;> omega) _ | refine Below.drew ?_)
  have hR0 : Boxed W0 (w.heap.size + 1) 34 (.slice none 0 0) := by
    rw [← hW0]
    have := Boxed.new (w.alloc (.cells s.cells 24)) 34 (.slice none 0 0)
    rw [World.size_alloc] at this; exact this.alloc _
  have hX0 : Blk W0 (w.heap.size + 1 + 1) 24 s.cells := by
    rw [← hW0]
    have := Blk.new ((w.alloc (.cells s.cells 24)).alloc (.cells #[.slice none 0 0] 34)) 24 s.cells
    rw [World.size_alloc, World.size_alloc] at this; exact this
  have he0 : Env W0 := he.below hB0 he.1
  have hsz0 : W0.heap.size = w.heap.size + 3 := by rw [← hW0]; simp
  rw [hW0]
  clear hW0 hc1
  refine wpIn_rangeFunc_ownF rfl (by omega) (gf := 74) (lb := #[.pointer (some ⟨w.heap.size + 1 + 1, 0, none⟩)]) rfl trivial (enters_of Tryd.func74 (by kernel_rfl) rfl)
    (each_stops 2 (by omega) (w.heap.size + 1 + 1) w.heap.size s W0 he.1 hX0 he0) belowK_t (belowK_b (by omega)) (Below.refl _ _) (fun _ => rfl)
    (fun pre W => (∃ v, Boxed W (w.heap.size + 1) 34 v ∧ W.ownsRow w.heap.size 36 2 v (rsB pre).length (rcells (rsB pre)) ∧ (v = .slice none 0 0 ↔ rsB pre = [])) ∧ Below w.heap.size w W)
    (fun _ _ _ => False)
    (OwnFrom.and (Own.from (holdsRow_own w.heap.size (w.heap.size + 1) 34 36 2 (fun pre : List UInt8 => (rsB pre).length) (fun pre => rcells (rsB pre)) (fun pre v => v = .slice none 0 0 ↔ rsB pre = [])) _) (ownFrom_below (Nat.le_refl _) (by omega)))
    (fun _ _ _ _ _ hs _ _ => hs)
    ⟨⟨_, hR0, World.ownsRow_nil _ _ _ _, by simp [rsB, runsL]⟩, hB0⟩
    (fun x => { tmps := #[Value.agg s.cells, Value.pointer (some { block := w.heap.size, off := 0 }), Value.slice none 0 0,
          Value.pointer (some { block := w.heap.size + 1, off := 0 }), nb x.toNat, undef, Value.agg s.cells,
          Value.func (Fn.func 74) #[] #[Value.pointer (some { block := w.heap.size + 1 + 1, off := 0 })], nb x.toNat,
          undef, undef, undef, undef, undef, undef, undef, undef, undef, undef, undef, undef, undef, undef, undef,
          undef, undef, undef, undef, undef, undef, undef, undef, undef, undef, undef, undef, undef, undef], defers := [] }) ?assign ?body ?done ?stop
  case assign =>
    intro l x W K hK
    gi_wp2
    exact hK
  case body =>
    rintro l pre x W ⟨⟨v, hv, hrow, hnil⟩, hB⟩ hlt
    have hle := BS.bytes_length s
    have hx := x.toNat_lt
    have hrl := rsB_len pre
    have hrs := rsB_snoc pre x
    have hall := rsB_le pre
    dsimp only [nb]
    generalize rsB pre = rs at *
    rcases runs_cases rs with rfl | ⟨q, a, z, rfl⟩
    · obtain rfl := hnil.2 rfl
      have hc := hv.cell
      rw [addRun_nil] at hrs
      gi_wp2_with (gi_at_builtin; refine wpListIn_append_own _ rfl _ _ 34 rfl w.heap.size 36 i0 (.agg #[.int .u8 0, .int .u8 0]) 2 2 Tryd.underlying34 hi hz0 hz1 hz2 rfl (by decide) _ _ _ rfl (hrow.alloc _) ⟨W.heap.size, 0, none⟩ 1 1 [nb x.toNat, nb x.toNat] rfl rfl (cell_two_new _ _ _ _) (by simp [Value.oneCell', nb]) (by unfold maxLen; simp) (by simp) (by have := hB.size; simp; omega) ?_; intro v' w1 hown' hgrow hn'; obtain ⟨g', cap', rfl⟩ := ownsRow_succ hown'; obtain ⟨hv1, hv2, hr2, hk2, hb2⟩ := hv.appended (by decide) hrow hB.size (by omega) hown' hgrow; have hc1 := hv1.cell; have hf1 := hv1.frozen)
      exact ⟨hk2, hb2, ⟨_, hv2, by rw [hrs]; simpa [rcells] using hr2, by rw [hrs]; simp⟩, hB.trans hb2⟩
    · have hz := (hall (a, z) (by simp)).2
      have hk : (q ++ [(a, z)]).length = q.length + 1 := by simp
      have hrow2 : W.ownsRow w.heap.size 36 2 v (q.length + 1) (rcells q ++ [nb a, nb z]) := by rw [hk, rcells_append] at hrow; exact hrow
      obtain ⟨g, cap, rfl⟩ := ownsRow_succ hrow2
      have hc := hv.cell
      have hcz : W.cell? ⟨g, q.length * 2 + 1, none⟩ = some (.int .u8 (z : Int)) := by
        rw [hrow2.cellAt _ (by omega), List.getElem?_append_right (by rw [rcells_length]; omega), rcells_length, show q.length * 2 + 1 - q.length * 2 = 1 by omega]; rfl
      clear hrow hnil hall
      by_cases e : z + 1 = x.toNat
      · rw [addRun_ext q a z x.toNat e] at hrs
        have he1 : ((z : Int) + 1 == (x.toNat : Int)) = true := by simp; omega
        have hfz := hrow2.frozenAt (q.length * 2 + 1)
        have hgl := (hrow2.lt g rfl).1
        obtain ⟨hst1, hst2⟩ := hrow2.stored (q.length * 2 + 1) (nb x.toNat)
        have hv2 := hv.kept hst2 (hv.not_row (by decide) hrow2)
        have hset : (rcells q ++ [nb a, nb z]).set (q.length * 2 + 1) (nb x.toNat) = rcells (q ++ [(a, x.toNat)]) := by
          rw [rcells_append, List.set_append_right _ _ (by rw [rcells_length]; omega), rcells_length, show q.length * 2 + 1 - q.length * 2 = 1 by omega]; rfl
        rw [hset] at hst1
        gi_wp2
        exact ⟨KeepsOthers.setCell _ _ _, (Below.refl _ _).setCell (p := ⟨g, q.length * 2 + 1, none⟩) hgl _, ⟨_, hv2, by rw [hrs, List.length_append]; exact hst1, by rw [hrs]; simp⟩, hB.setCell (p := ⟨g, q.length * 2 + 1, none⟩) hgl _⟩
      · rw [addRun_new q a z x.toNat e] at hrs
        have he1 : ((z : Int) + 1 == (x.toNat : Int)) = false := by simp; omega
        have hql : q.length + 1 ≤ 256 := by simp at hrl; omega
        gi_wp2_with (gi_at_builtin; refine wpListIn_append_own _ rfl _ _ 34 rfl w.heap.size 36 i0 (.agg #[.int .u8 0, .int .u8 0]) 2 2 Tryd.underlying34 hi hz0 hz1 hz2 rfl (by decide) _ _ _ rfl (hrow2.alloc _) ⟨W.heap.size, 0, none⟩ 1 1 [nb x.toNat, nb x.toNat] rfl rfl (cell_two_new _ _ _ _) (by simp [Value.oneCell', nb]) (by unfold maxLen; omega) (by omega) (by have := hB.size; simp; omega) ?_; intro v' w1 hown' hgrow hn'; obtain ⟨g', cap', rfl⟩ := ownsRow_succ hown'; obtain ⟨hv1, hv2, hr2, hk2, hb2⟩ := hv.appended (by decide) hrow2 hB.size (by omega) hown' hgrow; have hc1 := hv1.cell; have hf1 := hv1.frozen)
        exact ⟨hk2, hb2, ⟨_, hv2, by rw [hrs, List.length_append, rcells_append, rcells_append, hk]; simpa [rcells] using hr2, by rw [hrs]; simp⟩, hB.trans hb2⟩
  case done =>
    rintro D ys W hD rfl ⟨⟨v, hv, hrow, hnil⟩, hB⟩ hK
    have hc := hv.cell
    gi_wp2
    refine ⟨by simp, .inl ⟨_, _, rfl, run_takeDeferred hK, ?_⟩⟩
    exact ⟨_, results_tmp rfl _ _ _, v, rfl, ownsRow_putObj hrow _ hK rfl, hnil, hB.trans (belowK_b (w := w) (Nat.le_refl _) W D _ _ (by omega) hK rfl rfl)⟩
  case stop =>
    rintro D c pre W _ _ h _
    exact h.elim
end Go.Proofs.YtakcckdnliiieaaDoor
