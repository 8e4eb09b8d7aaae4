/- A scope of many labels; the reader of numbers: what it computes. -/
import Derived.Test.YtbgmjlonbbmffaaDoorL5
import Derived.WalkMore
import Derived.Scope
namespace Go.Proofs.YtbgmjlonbbmffaaDoor
open Go Go.RowKit
attribute [local go_sem] Oper.quietAt Oper.quietUpon
/-- A goto to label l is met by J l; any other way out by Q. -/
def jumps (J : Nat → Act → World → Prop) (Q : Exit → Act → World → Prop) : Exit → Act → World → Prop
  | .goto l, a, w => J l a w
  | e, a, w => Q e a w
section
variable {P : Program} {a : Act} {w : World} {Q : Exit → Act → World → Prop}
theorem jumps_mono {J J' : Nat → Act → World → Prop} {c : Code} (h : c.wp P (jumps J Q) a w) (hJ : ∀ l a w, J l a w → J' l a w) : c.wp P (jumps J' Q) a w := by
  refine Code.wp_mono ?_ h
  intro e a w hq
  cases e <;> first | exact hJ _ _ _ hq | exact hq
/-- A scope of many labels: what holds at each jump, and a measure that every pass lowers. -/
theorem wp_scope_labels {c : Code} (J : Nat → Act → World → Prop) (μ : Nat → Act → World → Nat)
    (pass : ∀ l a w, J l a w → ∃ rest, findLabel c l = some (.seq .skip rest) ∧ rest.wp P (jumps (fun l' a' w' => J l' a' w' ∧ μ l' a' w' < μ l a w) Q) a w)
    (first : (∀ l a w rest, J l a w → findLabel c l = some (.seq .skip rest) → rest.wp P (jumps J Q) a w) → c.wp P (jumps J Q) a w) : (Code.scope c).wp P Q a w := by
  intro b k cs
  have key : ∀ n l a w rest, μ l a w = n → J l a w → findLabel c l = some rest → ∃ e a' w', Q e a' w' ∧ Arrives P (lone (b.at a (.code rest :: .inScope c :: k)) cs w) b k cs e a' w' := by
    intro n
    induction n using Nat.strongRecOn with
    | _ n ih =>
      intro l a w rest hn hJ hf
      obtain ⟨rest0, hf0, hp⟩ := pass l a w hJ
      obtain rfl : .seq .skip rest0 = rest := Option.some.inj (hf0.symm.trans hf)
      obtain ⟨e, a1, w1, hq, har⟩ := wp_seq (wp_skip hp) b (.inScope c :: k) cs
      cases e with
      | goto l' =>
        obtain ⟨hJ1, hlt⟩ := hq
        obtain ⟨rest1, hf1, _⟩ := pass l' a1 w1 hJ1
        obtain ⟨e2, a2, w2, hq2, har2⟩ := ih _ (by omega) l' a1 w1 _ rfl hJ1 hf1
        exact ⟨e2, a2, w2, hq2, .of_steps (har _ (by simp [gotoIn, hf1])) har2⟩
      | normal => exact ⟨_, a1, w1, hq, Steps.trans har (.one step_inScope)⟩
      | exit id => exact ⟨_, a1, w1, hq, fun k' hk => har k' (by simp [exitTo, hk])⟩
      | ret => exact ⟨_, a1, w1, hq, har⟩
      | panic ch => exact ⟨_, a1, w1, hq, har⟩
      | outgrown => exact ⟨_, a1, w1, hq, har⟩
  obtain ⟨e, a1, w1, hq, har⟩ := first (fun l a w rest hJ hf => by obtain ⟨r0, hf0, hp⟩ := pass l a w hJ; obtain rfl : r0 = rest := (by have h := Option.some.inj (hf0.symm.trans hf); injection h); exact jumps_mono hp (fun _ _ _ h => h.1)) b (.inScope c :: k) cs
  cases e with
  | goto l' =>
    obtain ⟨rest1, hf1, _⟩ := pass l' a1 w1 hq
    obtain ⟨e2, a2, w2, hq2, har2⟩ := key _ l' a1 w1 _ rfl hq hf1
    exact ⟨e2, a2, w2, hq2, .of_steps (.head step_scope (har _ (by simp [gotoIn, hf1]))) har2⟩
  | normal => exact ⟨_, a1, w1, hq, .head step_scope (Steps.trans har (.one step_inScope))⟩
  | exit id => exact ⟨_, a1, w1, hq, fun k' hk => .head step_scope (har k' (by simp [exitTo, hk]))⟩
  | ret => exact ⟨_, a1, w1, hq, .of_steps (.one step_scope) har⟩
  | panic ch => exact ⟨_, a1, w1, hq, .of_steps (.one step_scope) har⟩
  | outgrown => exact ⟨_, a1, w1, hq, .of_steps (.one step_scope) har⟩
end
/-- A reader's cells. -/
def rdr (t : ByteArray) (p : Nat) : Array Value := #[.string t, .int .i64 (p : Int)]
def byteAt (t : ByteArray) (i : Nat) : Option Nat := (t.data.toList[i]?).map UInt8.toNat
theorem byteAt_lt {t : ByteArray} {i : Nat} (h : i < t.size) : byteAt t i = some t[i].toNat := by
  unfold byteAt
  rw [List.getElem?_eq_getElem (by simpa using h)]; rfl
theorem byteAt_ge {t : ByteArray} {i : Nat} (h : t.size ≤ i) : byteAt t i = none := by
  unfold byteAt
  rw [List.getElem?_eq_none (by rw [Array.length_toList]; exact h)]; rfl
theorem grown_lies {w w' : World} (h : Lies w w') (row : Option Nat) : w.grownBy w' row := ⟨h.os, h.tape, h.output, h.size, fun k hk _ => h.block k hk⟩
/-- A number read: f + 1 bytes may come, n is gathered, at p: the number, the error, the place. -/
def numG (t : ByteArray) (lim : Nat) : Nat → Nat → Nat → Nat × Nat × Nat
  | 0, n, p => (n, 4, p)
  | f + 1, n, p => match byteAt t p with
    | none => (0, 8, p)
    | some b => if lim < n + b % 128 * 2 ^ (7 * (4 - f)) ∨ (128 ≤ b ∧ f = 0) ∨ (b = 0 ∧ f < 4) then (0, 4, p + 1) else if 128 ≤ b then numG t lim f (n + b % 128 * 2 ^ (7 * (4 - f))) (p + 1) else (n + b % 128 * 2 ^ (7 * (4 - f)), 0, p + 1)
theorem numG_step {t : ByteArray} {lim f n p b : Nat} (h : byteAt t p = some b) : numG t lim (f + 1) n p = if lim < n + b % 128 * 2 ^ (7 * (4 - f)) ∨ (128 ≤ b ∧ f = 0) ∨ (b = 0 ∧ f < 4) then (0, 4, p + 1) else if 128 ≤ b then numG t lim f (n + b % 128 * 2 ^ (7 * (4 - f))) (p + 1) else (n + b % 128 * 2 ^ (7 * (4 - f)), 0, p + 1) := by
  conv => lhs; unfold numG
  rw [h]
def numP (t : ByteArray) (lim p : Nat) : Nat × Nat × Nat := numG t lim 5 0 p
/-- The walk's slots at a jump. -/
def numFr (g lim : Nat) (n e : Int) (u6 u7 : Value) (us : Nat → Value) : Act := { tmps := (Value.pointer (some ⟨g, 0, none⟩) :: .int .i64 (lim : Int) :: undef :: undef :: .int .i64 n :: .int .i64 e :: u6 :: u7 :: us 8 :: us 9 :: us 10 :: us 11 :: us 12 :: us 13 :: us 14 :: us 15 :: us 16 :: us 17 :: us 18 :: us 19 :: us 20 :: us 21 :: us 22 :: us 23 :: us 24 :: us 25 :: us 26 :: us 27 :: us 28 :: us 29 :: us 30 :: us 31 :: us 32 :: us 33 :: us 34 :: us 35 :: us 36 :: us 37 :: us 38 :: us 39 :: us 40 :: us 41 :: us 42 :: us 43 :: us 44 :: us 45 :: us 46 :: us 47 :: us 48 :: us 49 :: us 50 :: us 51 :: us 52 :: us 53 :: us 54 :: us 55 :: us 56 :: us 57 :: us 58 :: us 59 :: us 60 :: us 61 :: us 62 :: us 63 :: us 64 :: us 65 :: []).toArray, defers := [] }
/-- Where the walk stands at a jump. -/
def NumAt (w : World) (t : ByteArray) (g lim : Nat) (r : Nat × Nat × Nat) (l : Nat) (a' : Act) (w' : World) : Prop :=
  ∃ (nI eI : Int) (u6 u7 : Value), (∃ us, a' = numFr g lim nI eI u6 u7 us) ∧ ∃ q, Blk w' g 70 (rdr t q) ∧ w.grownBy w' (some g) ∧
    ((l = 0 ∧ ∃ e : Nat, eI = e ∧ r = (0, e, q)) ∨ (l = 1 ∧ eI = 0 ∧ ∃ n : Nat, nI = n ∧ n ≤ lim ∧ q ≤ t.size ∧ ∃ (f : Nat) (k : Int), ((f = 4 ∧ k = 0) ∨ (f = 3 ∧ k = 7) ∨ (f = 2 ∧ k = 14) ∨ (f = 1 ∧ k = 21) ∨ (f = 0 ∧ k = 28)) ∧ u7 = .int .i64 k ∧ numG t lim (f + 1) n q = r))
def kOf (a : Act) : Nat := match a.tmps.getD 7 undef with | .int _ k => (29 - k).toNat | _ => 0
def mu : Nat → Act → Nat | 0, _ => 0 | _ + 1, a => 1 + kOf a
set_option maxRecDepth 100000 in
theorem numFr_mk (g lim : Nat) (n e : Int) (u6 u7 : Value) (v8 v9 v10 v11 v12 v13 v14 v15 v16 v17 v18 v19 v20 v21 v22 v23 v24 v25 v26 v27 v28 v29 v30 v31 v32 v33 v34 v35 v36 v37 v38 v39 v40 v41 v42 v43 v44 v45 v46 v47 v48 v49 v50 v51 v52 v53 v54 v55 v56 v57 v58 v59 v60 v61 v62 v63 v64 v65 : Value) : ∃ us, ({ tmps := (Value.pointer (some ⟨g, 0, none⟩) :: .int .i64 (lim : Int) :: undef :: undef :: .int .i64 n :: .int .i64 e :: u6 :: u7 :: v8 :: v9 :: v10 :: v11 :: v12 :: v13 :: v14 :: v15 :: v16 :: v17 :: v18 :: v19 :: v20 :: v21 :: v22 :: v23 :: v24 :: v25 :: v26 :: v27 :: v28 :: v29 :: v30 :: v31 :: v32 :: v33 :: v34 :: v35 :: v36 :: v37 :: v38 :: v39 :: v40 :: v41 :: v42 :: v43 :: v44 :: v45 :: v46 :: v47 :: v48 :: v49 :: v50 :: v51 :: v52 :: v53 :: v54 :: v55 :: v56 :: v57 :: v58 :: v59 :: v60 :: v61 :: v62 :: v63 :: v64 :: v65 :: []).toArray, defers := [] } : Act) = numFr g lim n e u6 u7 us :=
  ⟨fun i => (v8 :: v9 :: v10 :: v11 :: v12 :: v13 :: v14 :: v15 :: v16 :: v17 :: v18 :: v19 :: v20 :: v21 :: v22 :: v23 :: v24 :: v25 :: v26 :: v27 :: v28 :: v29 :: v30 :: v31 :: v32 :: v33 :: v34 :: v35 :: v36 :: v37 :: v38 :: v39 :: v40 :: v41 :: v42 :: v43 :: v44 :: v45 :: v46 :: v47 :: v48 :: v49 :: v50 :: v51 :: v52 :: v53 :: v54 :: v55 :: v56 :: v57 :: v58 :: v59 :: v60 :: v61 :: v62 :: v63 :: v64 :: v65 :: []).getD (i - 8) undef, rfl⟩
end Go.Proofs.YtbgmjlonbbmffaaDoor
