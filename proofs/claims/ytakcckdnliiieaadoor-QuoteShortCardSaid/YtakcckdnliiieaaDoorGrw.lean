/- Merged: Rnd, Grw. -/
import Derived.OrdersIn
import Derived.RangeFuncCalls
import Derived.Test.YtakcckdnliiieaaDoorReg
import Derived.Test.YtakcckdnliiieaaDoorStp
import Derived.Test.YtakcckdnliiieaaDoorMem
/- A region that draws its order, within a round of a range over a function: what holds of it outside a round holds within one. Over any program. -/
namespace Go.Proofs.YtakcckdnliiieaaDoor
open Go Go.RowKit
variable {P : Program} {ops : Array Oper} {md : Region.Mode} {Q : Exit → Act → World → Prop}
theorem rowsIn_wide {n : Nat} {row : String} {args : Array Value} {w : World} {R : Value → World → Prop} (h : Rows P row args w R) : RowsIn Fence.wide n P row args w R :=
  fun c cs _ => let ⟨v, w', r, s⟩ := h c cs; ⟨v, w', r, stepsIn_wide.2 s⟩
theorem uponIn_round {l n : Nat} {o : Oper} {a : Act} {next : Act → World → Prop} {r : Result Next} (h : o.upon P a next Q r) : o.uponIn (Fence.wide.inRound l) n P a next Q r := by
  cases r with
  | ok x w' =>
    cases x with
    | value v => exact h
    | skip => exact h
    | defer d => exact h
    | enter f args => exact ⟨fun e => (by simp [Fence.wide] at e), CallsIn.inRound l (callsIn_wide.2 h)⟩
    | row row args => exact ⟨fun e => (by simp [Fence.wide] at e), rowsIn_wide h⟩
    | _ => exact h.elim
  | halt x w' => cases x <;> exact h
theorem wpOpIn_round {l n i : Nat} {K K' : Act → World → Prop} {a : Act} {w : World} (hQ : ¬ LetsOut Q) (hd : ops.all (fun o => match o.op with | .defer _ => false | _ => true) = true)
    (hK : ∀ a w, K a w → K' a w) (h : wpOp P ops Q i K a w) : wpOpIn (Fence.wide.inRound l) n P ops Q i K' a w := by
  unfold wpOp at h
  unfold wpOpIn
  cases ho : ops[i]? with
  | none => rw [ho] at h; exact hK _ _ h
  | some o =>
    rw [ho] at h
    simp only at h ⊢
    split
    · rename_i hw
      rw [if_pos hw] at h
      rcases h with h | h
      · refine Oper.wpIn_mono hK ⟨fun _ _ => trivial, ?_⟩
        have hnd : ∀ c, o.op ≠ .defer c := fun c hc => by
          have := (Array.all_eq_true_iff_forall_mem.1 hd) o (Array.mem_of_getElem? ho)
          rw [hc] at this; cases this
        rw [Oper.semAt_eq _ _ _ hnd]
        exact uponIn_round h
      · exact absurd h.2 hQ
    · rename_i hw
      rw [if_neg hw] at h
      exact ⟨fun _ _ => trivial, hK _ _ h⟩
theorem wpAnyIn_round {l n : Nat} (hQ : ¬ LetsOut Q) (hd : ops.all (fun o => match o.op with | .defer _ => false | _ => true) = true) :
    ∀ (fuel : Nat) (listed : Array Bool) (a : Act) (w : World), wpAny P md ops Q fuel listed a w → wpAnyIn (Fence.wide.inRound l) n P md ops Q fuel listed a w
  | 0, _, _, _, h => h
  | fuel + 1, listed, _, _, h => ⟨h.1, fun i hi => wpOpIn_round hQ hd (fun a w => wpAnyIn_round hQ hd fuel (listed.setIfInBounds i true) a w) (h.2 i hi)⟩
theorem any_quiet_tail {C : World → Prop} {a : Act} {w : World} {l : List Oper} (n : Nat) (hB : Region.lexTailB .any l.toArray n = true)
    (hC : C w.drew)
    (h : wpQuiet P l.toArray C (fun a' => ∀ w', C w' → wpList P l.toArray Q (l.drop n) a' w') (l.take n) a) : wpAny P .any l.toArray Q l.toArray.size (Array.replicate l.toArray.size false) a w.drew := by
  simp only [Region.lexTailB, Bool.and_eq_true, decide_eq_true_eq] at hB
  obtain ⟨⟨⟨⟨hsel, hn⟩, hs⟩, hc⟩, hlex⟩ := hB
  have hn' : n < l.length := by simpa using hn
  have htl : (l.take n).length = n := by simp; omega
  have hdl : (l.drop n).length = l.toArray.size - n := by simp
  have inv0 : HeadInv .any l.toArray n (Array.replicate l.toArray.size false) :=
    ⟨by simp, fun j oj _ hl => (by rw [getD_replicate_false] at hl; cases hl), fun t _ ht => getD_in (by simpa using ht) (getD_replicate_false _ _)⟩
  have H := headQ_lex (md := .any) (g := l.toArray.size - n) hsel hs hc hn (l.take n) 0 _ a (fun j hj => by
    have hj' : j < n := by rw [htl] at hj; exact hj
    simp [hj']) (by simpa using htl) inv0 (by rw [htl]; exact hlex) h
  have := headQ_any (Q' := Q) (g := l.toArray.size - n) (fun listed a' w' hw' hL => by
    have := wpAny_of_seq (md := .any) (Q' := Q) (l.drop n) n listed a' w' (fun j => by simp [List.getElem?_drop]) (by rw [hdl]; exact hL.1) (hL.2 w' hw')
    rwa [hdl] at this) _ _ _ _ hC H
  rw [htl, show n + (l.toArray.size - n) = l.toArray.size by omega] at this
  exact this
/-- A region that draws its order, within a round: a head of n operations, quiet in the class, in the text's order; then the forced tail. -/
theorem wpIn_round_quiet_tail {C : World → Prop} {id lr m : Nat} {a : Act} {w : World} {l : List Oper} (n : Nat) (hm : P.follows .mixedOrders = true) (hB : Region.lexTailB .any l.toArray n = true)
    (hd : l.toArray.all (fun o => match o.op with | .defer _ => false | _ => true) = true) (hQ : ¬ LetsOut Q) (hC : C w.drew)
    (h : wpQuiet P l.toArray C (fun a' => ∀ w', C w' → wpList P l.toArray Q (l.drop n) a' w') (l.take n) a) : (Code.region id l.toArray true).wpIn (Fence.wide.inRound lr) m P Q a w :=
  wpIn_region_any hm (wpAnyIn_round hQ hd _ _ _ _ (any_quiet_tail n hB hC h))
end Go.Proofs.YtakcckdnliiieaaDoor

/- Regions whose order is open, in which one block is written: the class of worlds in which all but that block lies as it lay. Over any program. -/
namespace Go.Proofs.YtakcckdnliiieaaDoor
open Go Go.RowKit
variable {P : Program}
/-- All but block k lies as it lay. -/
def Grw (W : World) (k : Nat) (w : World) : Prop := W.grownBy w (some k)
theorem Grw.start (W : World) (k : Nat) : Grw W k W := World.grownBy.refl _ _
theorem Grw.drew {W w : World} {k : Nat} (h : Grw W k w) : Grw W k w.drew := grownBy_trans h ⟨rfl, rfl, rfl, Nat.le_refl _, fun _ _ _ => rfl⟩
theorem Grw.cells {W w : World} {k : Nat} (h : Grw W k w) (b o : Nat) (hb : b < W.heap.size) (hk : b ≠ k) : w.cell? ⟨b, o, none⟩ = W.cell? ⟨b, o, none⟩ := by
  exact World.cell?_of_block (w := W) (World.grownBy.block h b hb (by simpa using hk))
theorem Grw.size {W w : World} {k : Nat} (h : Grw W k w) : W.heap.size ≤ w.heap.size := World.grownBy.size h
theorem Grw.more {W w w' : World} {k : Nat} (h : Grw W k w) (hg : w.grownBy w' (some k)) : Grw W k w' := grownBy_trans h hg
theorem Grw.lies {W w w' : World} {k : Nat} (h : Grw W k w) (hg : Lies w w') : Grw W k w' := grownBy_trans h ⟨hg.os, hg.tape, hg.output, hg.size, fun k hk _ => hg.block k hk⟩
/-- .. and block k is these cells. -/
def GrwB (W : World) (k : Nat) (t : TypeId) (cs : Array Value) (w : World) : Prop := Grw W k w ∧ Blk w k t cs
theorem GrwB.cells {W w : World} {k : Nat} {t : TypeId} {cs : Array Value} (h : GrwB W k t cs w) (b o : Nat) (hb : b < W.heap.size) (hk : b ≠ k) : w.cell? ⟨b, o, none⟩ = W.cell? ⟨b, o, none⟩ := h.1.cells b o hb hk
theorem grwB_sub {W : World} {k : Nat} {t t' : TypeId} {cs cs' : Array Value} {x : World} (h : GrwB W k t cs x) : Grw W k x := h.1
theorem GrwB.start {W : World} {k : Nat} {t : TypeId} {cs : Array Value} (h : Blk W k t cs) : GrwB W k t cs W := ⟨Grw.start _ _, h⟩
theorem GrwB.drew {W w : World} {k : Nat} {t : TypeId} {cs : Array Value} (h : GrwB W k t cs w) : GrwB W k t cs w.drew := ⟨h.1.drew, h.2⟩
/-- .. and block k is some set. -/
def GrwE (W : World) (k : Nat) (t : TypeId) (w : World) : Prop := Grw W k w ∧ ∃ s : BS, Blk w k t s.cells
theorem GrwE.cells {W w : World} {k : Nat} {t : TypeId} (h : GrwE W k t w) (b o : Nat) (hb : b < W.heap.size) (hk : b ≠ k) : w.cell? ⟨b, o, none⟩ = W.cell? ⟨b, o, none⟩ := h.1.cells b o hb hk
theorem GrwE.start {W : World} {k : Nat} {t : TypeId} {s : BS} (h : Blk W k t s.cells) : GrwE W k t W := ⟨Grw.start _ _, _, h⟩
theorem GrwE.drew {W w : World} {k : Nat} {t : TypeId} (h : GrwE W k t w) : GrwE W k t w.drew := ⟨h.1.drew, h.2⟩
theorem GrwE.of {W x : World} {k : Nat} {t : TypeId} {s : BS} (h : GrwB W k t s.cells x) : GrwE W k t x := ⟨h.1, _, h.2⟩
/-- A whole set is stored into its block. -/
theorem loud_store_set {o : Oper} {a : Act} {w : World} {R : Value → World → Prop} (T : TypeId) (x y : Operand) (ho : o.op = .store T x y)
    (g : Nat) (hx : a.eval x = .pointer (some ⟨g, 0, none⟩)) (s : BS) (hy : a.eval y = .agg s.cells) (hsz : (P.info? T).map (·.size) = some 4)
    {t : TypeId} {r : BS} (hB : Blk w g t r.cells)
    (h : ∀ w', Blk w' g t s.cells → w.grownBy w' (some g) → w'.heap.size = w.heap.size → R undef w') : Oper.loudAt P o a w R := by
  cases hi : P.info? T with
  | none => rw [hi] at hsz; cases hsz
  | some d =>
    rw [hi] at hsz
    have hs : d.size = 4 := by simpa using hsz
    obtain ⟨w', hr, hB', hg, hz⟩ := run_storeCells_blk (P := P) g s.cells.toList w r.cells 0 0 (BS.cells_one s) hB (by simp [BS.cells_size])
    have hB2 : Blk w' g t s.cells := by rwa [Nat.add_zero, BS.writes_all _ rfl] at hB'
    unfold Oper.loudAt execOp
    simp only [ho, hx, hy, Instr.storeAt, Instr.sureAddr, storeVar, sizeOf, typeInfo, Sem.run_bind, Sem.run_pure, Result.andThen_ok, run_program, hi, hs, BS.agg_cells, BS.cells_size, ne_eq, not_true_eq_false, if_false, hr]
    exact h w' hB2 hg hz
end Go.Proofs.YtakcckdnliiieaaDoor
