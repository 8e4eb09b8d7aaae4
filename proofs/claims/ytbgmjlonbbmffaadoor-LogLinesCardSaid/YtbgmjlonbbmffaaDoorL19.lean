/- Rows of steps; own, Steps; the reference's Step, Steps. -/
import Derived.Test.YtbgmjlonbbmffaaDoorL16
import Derived.Test.YtbgmjlonbbmffaaDoorLyt
namespace Go.Proofs.YtbgmjlonbbmffaaDoor
open Go Go.RowKit
attribute [local go_sem] Oper.quietAt Oper.quietUpon
/-- A block that may be written. -/
def Free (w : World) (b : Nat) : Prop := ∃ cs t, w.heap[b]? = some (.cells cs t (0, 0))
theorem Free.grown {w w' : World} {b : Nat} {row : Option Nat} (h : Free w b) (hg : w.grownBy w' row) (hne : row ≠ some b) : Free w' b := by
  obtain ⟨cs, t, h⟩ := h
  have hlt : b < w.heap.size := by
    rcases Nat.lt_or_ge b w.heap.size with h1 | h1
    · exact h1
    · rw [Array.getElem?_eq_none h1] at h; cases h
  exact ⟨cs, t, (hg.block b hlt (fun e => hne e.symm)).trans h⟩
theorem Free.lies {w w' : World} {b : Nat} (h : Free w b) (hl : Lies w w') : Free w' b := h.grown (grown_lies hl none) (by simp)
theorem row_free {w : World} {base : Nat} {e : TypeId} {size : Nat} {v : Value} {n : Nat} {xs : List Value} (h : w.ownsRow base e size v n xs) : ∀ b, v.ownBlock = some b → Free w b := by
  intro b hb
  rcases h.2 with ⟨rfl, _⟩ | ⟨g, cap, cur, rfl, _, hg, _⟩
  · simp [Value.ownBlock] at hb
  · simp [Value.ownBlock] at hb
    subst hb
    exact ⟨_, _, hg⟩
/-- A block of cells of a type, that may be written. -/
def Typ (w : World) (t b : Nat) : Prop := ∃ cs, w.heap[b]? = some (.cells cs t (0, 0))
theorem Typ.free {w : World} {t b : Nat} (h : Typ w t b) : Free w b := by obtain ⟨cs, h⟩ := h; exact ⟨cs, t, h⟩
theorem Typ.lt {w : World} {t b : Nat} (h : Typ w t b) : b < w.heap.size := by
  obtain ⟨cs, h⟩ := h
  rcases Nat.lt_or_ge b w.heap.size with h1 | h1
  · exact h1
  · rw [Array.getElem?_eq_none h1] at h; cases h
theorem Typ.grown {w w' : World} {t b : Nat} {row : Option Nat} (h : Typ w t b) (hg : w.grownBy w' row) (hne : row ≠ some b) : Typ w' t b := by
  have hlt := h.lt
  obtain ⟨cs, h⟩ := h
  exact ⟨cs, (hg.block b hlt (fun e => hne e.symm)).trans h⟩
theorem Typ.lies {w w' : World} {t b : Nat} (h : Typ w t b) (hl : Lies w w') : Typ w' t b := h.grown (grown_lies hl none) (by simp)
theorem Typ.ne {w : World} {t u b c : Nat} (h : Typ w t b) (k : Typ w u c) (hne : t ≠ u) : b ≠ c := by
  rintro rfl
  obtain ⟨cs, h⟩ := h
  obtain ⟨ds, k⟩ := k
  rw [h] at k
  simp at k
  exact hne k.2
theorem row_typ {w : World} {base e : Nat} {size : Nat} {v : Value} {n : Nat} {xs : List Value} (h : w.ownsRow base e size v n xs) : ∀ b, v.ownBlock = some b → Typ w e b := by
  intro b hb
  rcases h.2 with ⟨rfl, _⟩ | ⟨g, cap, cur, rfl, _, hg, _⟩
  · simp [Value.ownBlock] at hb
  · simp [Value.ownBlock] at hb
    subst hb
    exact ⟨_, hg⟩
def cellsS (ps : List (StepD × Value)) : List Value := ps.flatMap fun p => stepCells p.1 p.2
theorem cellsS_length (ps : List (StepD × Value)) : (cellsS ps).length = 5 * ps.length := by
  induction ps with
  | nil => rfl
  | cons p ps ih =>
    have : cellsS (p :: ps) = stepCells p.1 p.2 ++ cellsS ps := rfl
    rw [this, List.length_append, ih]
    simp [stepCells]; omega
theorem cellsS_snoc (ps : List (StepD × Value)) (p : StepD × Value) : cellsS (ps ++ [p]) = cellsS ps ++ stepCells p.1 p.2 := by simp [cellsS]
theorem cellsS_app (ps qs : List (StepD × Value)) : cellsS (ps ++ qs) = cellsS ps ++ cellsS qs := by simp [cellsS]
theorem cellsS_get : ∀ (ps : List (StepD × Value)) (i j : Nat) (p : StepD × Value) (y : Value), ps[i]? = some p → (stepCells p.1 p.2)[j]? = some y → (cellsS ps)[i * 5 + j]? = some y
  | [], i, j, p, y, h, _ => by simp at h
  | q :: ps, i, j, p, y, h, hj => by
    have e : cellsS (q :: ps) = stepCells q.1 q.2 ++ cellsS ps := rfl
    have hl : (stepCells q.1 q.2).length = 5 := rfl
    cases i with
    | zero =>
      simp only [List.getElem?_cons_zero, Option.some.injEq] at h
      subst h
      rw [e, List.getElem?_append_left (by have := (List.getElem?_eq_some_iff.1 hj).1; rw [hl] at this ⊢; omega)]
      simpa using hj
    | succ i =>
      simp only [List.getElem?_cons_succ] at h
      rw [e, List.getElem?_append_right (by rw [hl]; omega), hl]
      have := cellsS_get ps i j p y h hj
      rwa [show (i + 1) * 5 + j - 5 = i * 5 + j by omega]
/-- A row that holds steps is a slice of steps. -/
theorem steps_of_row {W : World} {F : Nat → Prop} {base : Nat} {u : Value} {n : Nat} {ps : List (StepD × Value)} (h : W.ownsRow base 35 5 u n (cellsS ps)) (hn : n = ps.length) (hl : n ≤ 100000) (hp : ∀ p ∈ ps, IntsAt W F p.2 p.1.path) (hF : ∀ b, u.ownBlock = some b → F b) :
    StepsAt W F u (ps.map (·.1)) := by
  subst hn
  have hc := fun g hg => h.cells (g := g) hg
  rcases h.2 with ⟨rfl, hnil⟩ | ⟨g, cap, cur, rfl, _⟩
  · have : ps = [] := List.eq_nil_of_length_eq_zero hnil
    subst this
    exact ⟨none, 0, rfl, by simp [maxLen], fun h => absurd rfl h⟩
  · refine ⟨_, _, by rw [List.length_map], by unfold maxLen; rw [List.length_map]; omega, fun _ => ⟨g, 0, rfl, hF g rfl, fun i x hi => ?_⟩⟩
    rw [List.getElem?_map] at hi
    obtain ⟨p, hp1, rfl⟩ := Option.map_eq_some_iff.1 hi
    refine ⟨p.2, hp p (List.mem_of_getElem? hp1), fun j y hj => ?_⟩
    have h2 := hc g rfl (i * 5 + j) y (cellsS_get ps i j p y hp1 hj)
    have hadd : (⟨g, 0, none⟩ : Addr).add (i * 5 + j) = ⟨g, i * 5 + j, none⟩ := by unfold Addr.add; split <;> simp_all
    rw [hadd] at h2
    simpa using h2
def zs5 : Array Value := #[.int .u8 0, .int .u8 0, .int .i64 0, .slice none 0 0, .int .i64 0]
theorem Tryd.info35' : (Tryd.prog.info? 35).map (fun i => (i.zero, i.size, i.bytes)) = some (some (.agg zs5), 5, 48) := by kernel_rfl
theorem Lies.tr' {a b c : World} (h : Lies a b) (k : Lies b c) : Lies a c := Lies.below k h.size h
theorem blk_step {W : World} {B : Nat} {a b c d e : Value} (h : Blk W B 35 (writes zs5 0 (Value.agg #[a, b, c, d, e]).cells.toList)) : Blk W B 35 #[a, b, c, d, e] := h
theorem ret_cell1 {P : Program} {fn : Func} {R : Ending → World → Prop} {a : Act} {w : World} {p : Tmp} {T t : TypeId} {g : Nat} {cs : Array Value} {d : TypeDesc} (hr : fn.results = #[.cell p T]) (hp : a.tmps.getD p undef = .pointer (some ⟨g, 0, none⟩)) (hB : Blk w g t cs)
    (hu : P.underlying T = some d) (hd : (match d with | .struct _ | .array _ _ => true | _ => false) = true) (hi : (P.info? T).map (·.size) = some cs.size) (hdf : a.defers = []) (h : R (.returned (.agg cs)) w) : bodyPost P fn R .ret a w := by
  refine bodyPost_ret (v := .agg cs) ?_ hdf h
  have hp' : a.tmps[p]?.getD undef = .pointer (some ⟨g, 0, none⟩) := by simpa using hp
  simp [results, hr, hp', asAddr, run_loadVar_row w g t T cs (0, 0) d hB hu hd hi]
/-- A row that holds numbers is a slice of numbers, in the row's own block. -/
theorem ints_of_row' {W : World} {base : Nat} {u : Value} {l : List Int} {n : Nat} (h : W.ownsRow base 3 1 u n (l.map (Value.int .i64))) (hn : n = l.length) (hl : l.length ≤ 100000) : IntsAt W (fun b => u.ownBlock = some b) u l := by
  subst hn
  have hc := fun g hg => h.cells (g := g) hg
  rcases h.2 with ⟨rfl, hnil⟩ | ⟨g, cap, cur, rfl, _⟩
  · have : l = [] := by simpa using hnil
    subst this
    exact ints_nil _ _
  · refine ⟨_, _, rfl, by unfold maxLen; omega, fun _ => ⟨g, 0, rfl, rfl, fun i x hi => ?_⟩⟩
    have h2 := hc g rfl i (.int .i64 x) (by simp [hi])
    have hadd : (⟨g, 0, none⟩ : Addr).add i = ⟨g, i, none⟩ := by unfold Addr.add; split <;> simp_all
    rw [hadd] at h2
    simpa using h2
/-- What own leaves. -/
def OwnRet (s : StepD) (w : World) (x : Ending) (w' : World) : Prop :=
  ∃ u, x = .returned (.agg #[.int .u8 (s.pass : Int), .int .u8 (s.way : Int), .int .i64 s.rule, u, .int .i64 s.place]) ∧ IntsAt w' (fun b => w.heap.size ≤ b ∧ b < w'.heap.size ∧ Typ w' 3 b) u s.path ∧ Lies w w'
set_option maxRecDepth 100000 in
set_option maxHeartbeats 1500000 in
theorem own_any {s : StepD} {pv : Value} {w : World} {F : Nat → Prop} (hp : IntsAt w F pv s.path) (hl : s.path.length ≤ 100000) (hF : ∀ b, F b → b < w.heap.size) :
    Calls Tryd.prog 29 #[.agg #[.int .u8 (s.pass : Int), .int .u8 (s.way : Int), .int .i64 s.rule, pv, .int .i64 s.place]] w (OwnRet s w) := by
  obtain ⟨a, b, c, l, d⟩ := s
  unfold OwnRet
  simp only at hp hl ⊢
  obtain ⟨oa, cap, hv⟩ := hp.slice
  subst hv
  obtain ⟨W1, hW1⟩ : ∃ W1, (w.alloc (.cells #[.int .u8 (a : Int), .int .u8 (b : Int), .int .i64 c, .slice oa l.length cap, .int .i64 d] 35)).alloc (.cells zs5 35) = W1 := ⟨_, rfl⟩
  have hl1 : Lies w W1 := by rw [← hW1]; exact ((Lies.start w).alloc (Nat.le_refl _) _).alloc (by simp) _
  have hX1 : Blk W1 w.heap.size 35 #[.int .u8 (a : Int), .int .u8 (b : Int), .int .i64 c, .slice oa l.length cap, .int .i64 d] := by rw [← hW1]; exact (Blk.new w 35 _).alloc _
  have hY1 : Blk W1 (w.heap.size + 1) 35 zs5 := by
    rw [← hW1]
    have := Blk.new (w.alloc (.cells #[.int .u8 (a : Int), .int .u8 (b : Int), .int .i64 c, .slice oa l.length cap, .int .i64 d] 35)) 35 zs5
    rwa [World.size_alloc] at this
  have hz1 : W1.heap.size = w.heap.size + 2 := by rw [← hW1]; simp
  have k1 := clone_any (hp.lies hl1) hl
  unfold zs5 at hW1
  have HP := Lib.hid hp
  clear hp
  go_enter Tryd.func29, Tryd.ntmps29
  go_upto_region 1 with (fail)
  clear hW1
  have hcX := hX1.cell
  have hlX := hX1.lt
  have hfX := hX1.free
  go_upto_region 2 with (first | (go_at_call 45; refine k1.mono ?_; rintro e W2 ⟨u, rfl, hrow, hl2⟩; obtain ⟨ou, mu, cu, hu⟩ := row_slice hrow; subst hu; have hX2 := hX1.lies hl2; have hY2 := hY1.lies hl2; clear hcX hlX hfX; have hcX := hX2.cell; have hlX := hX2.lt; have hfX := hX2.free) | go_in)
  obtain ⟨W3, hW3⟩ : ∃ W3, W2.setCell ⟨w.heap.size, 3, none⟩ (.slice ou mu cu) = W3 := ⟨_, rfl⟩
  have hg3 : W2.grownBy W3 (some w.heap.size) := by rw [← hW3]; exact grownBy_setCell _ _ _ _
  have hX3 : Blk W3 w.heap.size 35 #[.int .u8 (a : Int), .int .u8 (b : Int), .int .i64 c, .slice ou mu cu, .int .i64 d] := by rw [← hW3]; exact hX2.set 3 _
  have hY3 : Blk W3 (w.heap.size + 1) 35 zs5 := hY2.grown hg3 (by simp)
  have hrow3 := hrow.kept hg3 (.inr fun e => by have := hrow.lt _ e; omega)
  have hl3 : Lies w W3 := below_grown (hl1.tr' hl2) hg3 (Nat.le_refl _) (Nat.le_trans hl1.size hl2.size)
  rw [hW3]
  clear hW3 hcX hlX hfX hX2 hY2 hX1 hY1 hrow
  have hcX := hX3.cell
  have hlX := hX3.lt
  go_wp2_with (first | (refine wpList_store_blk rfl 35 _ _ rfl (w.heap.size + 1) 0 rfl (.agg #[.int .u8 (a : Int), .int .u8 (b : Int), .int .i64 c, .slice ou mu cu, .int .i64 d]) rfl rfl (by intro v hv; simp [Value.cells] at hv; rcases hv with rfl | rfl | rfl | rfl | rfl <;> rfl) hY3 (by simp [zs5, Value.cells]) ?_; intro Wz hTz hgz hzz; have hBz := blk_step hTz; have hcz := hBz.cell) | go_in)
  (try simp only [Exit.inBlock, Exit.then])
  refine ret_cell1 rfl rfl hBz rfl rfl rfl rfl ?_
  have hrz := hrow3.kept hgz (.inr fun e => by have := hrow3.lt _ e; omega)
  exact ⟨_, rfl, (ints_of_row' hrz rfl (by omega)).mono (fun b hb => ⟨by have := (hrz.lt b hb).1; omega, (hrz.lt b hb).2, row_typ hrz b hb⟩), below_grown hl3 hgz (by omega) (Nat.le_trans hl1.size (Nat.le_trans hl2.size hg3.size))⟩
end Go.Proofs.YtbgmjlonbbmffaaDoor
