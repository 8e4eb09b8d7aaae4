/- Rows of bytes that a call makes for itself: append, and the string of them. Over any program. -/
import Derived.Test.YtbgmjlonbbmffaaDoorMem
import Derived.Laws.AppendOwn
import Derived.Laws.OwnMore
import Derived.Laws.BytesArg
namespace Go.Proofs.YtbgmjlonbbmffaaDoor
open Go Go.RowKit

/-- A byte in a cell. -/
def nb (n : Nat) : Value := .int .u8 (n : Int)
def strV (l : List UInt8) : Value := .string ⟨l.toArray⟩

section
variable {P : Program}
theorem run_convert_own {w : World} {src dst e : TypeId} {base : Nat} {v : Value} {n : Nat} (l : List Nat) (hs : P.underlying src = some (.slice e)) (he : P.underlying e = some (.int .u8)) (hd : P.underlying dst = some .string)
    (h : w.ownsRow base e 1 v n (l.map nb)) : (convert src dst v).run P w = .ok (strV (l.map UInt8.ofNat)) w := by
  rcases h.2 with ⟨rfl, h0⟩ | ⟨g, cap, cur, rfl, _, hh, _, _, _, hx⟩
  · have : l = [] := by have h1 := h.1; rw [h0] at h1; simpa using h1
    subst this
    exact run_convert_bytes_nil w src e hs he 0 0 dst hd
  · have hl : l.length = n := by have := h.1; simpa using this
    have hc := h.cells (g := g) rfl
    have := run_convert_bytes_arg w src e hs he g 0 n cap (l.map (Int.ofNat ·)) (by simpa using hl) (fun i hi => by
      have := hc i (nb (l[i]'(by omega))) (by simp [List.getElem?_map, List.getElem?_eq_getElem (show i < l.length by omega)])
      rw [show ((⟨g, 0, none⟩ : Addr).add i) = ⟨g, 0 + i, none⟩ by unfold Addr.add; split <;> simp_all] at this
      rw [this]
      simp [nb, List.getD, List.getElem?_map, List.getElem?_eq_getElem (show i < l.length by omega)]) dst hd
    rw [this]
    simp [strV, strOfNums, List.map_map, Function.comp_def]
theorem ownsRow_lies {w w' : World} {base : Nat} {e : TypeId} {size : Nat} {v : Value} {n : Nat} {xs : List Value} (h : w.ownsRow base e size v n xs) (hw : Lies w w') : w'.ownsRow base e size v n xs :=
  h.kept (row := none) ⟨hw.os, hw.tape, hw.output, hw.size, fun k hk _ => hw.block k hk⟩ (by cases hv : v.ownBlock <;> simp)
/-- 'out = append(out, x)', x one cell, laid just now: the new value, its row, and that nothing below the rows has turned. -/
theorem wpList_push {ops : Array Oper} {rest : List Oper} {o : Oper} {a : Act} {Q : Exit → Act → World → Prop} {w : World} (hgd : o.guard = none) (s x : Operand) (t : TypeId)
    (ho : o.op = .call { callee := .builtin .append, args := #[s, x], argTypes := #[t, t] })
    (base : Nat) (e : TypeId) (z : Value) (bytes : Nat) (ht : P.underlying t = some (.slice e)) (hi : (P.info? e).map (fun i => (i.zero, i.size, i.bytes)) = some (some z, 1, bytes)) (hzs : z.cells.size = 1)
    (v : Value) (n : Nat) (xs : List Value) (hs : a.eval s = v) (hown : w.ownsRow base e 1 v n xs) (u : Value)
    (hx : a.eval x = .slice (some ⟨w.heap.size, 0, none⟩) 1 1) (h1 : u.oneCell' = true)
    (h63 : n + 1 ≤ 9223372036854775807) (hbytes : (n + 1) * bytes ≤ 140737488355328) (hbase : base ≤ w.heap.size)
    (h : ∀ v' w', w'.ownsRow base e 1 v' (n + 1) (xs ++ [u]) → Below base w w' → v' ≠ .slice none 0 0 → wpList P ops Q rest (a.put o.dst v') w') : wpList P ops Q (o :: rest) a (w.alloc (.cells #[u] e)) := by
  obtain ⟨i0, hi0, hz0, hz1, hz2⟩ := info_parts hi
  refine wpList_append_own _ hgd s x t ho base e i0 z 1 bytes ht hi0 hz0 hz1 hz2 hzs (by decide) v n xs hs (hown.alloc _) ⟨w.heap.size, 0, none⟩ 1 1 [u] hx rfl (fun j y hj => ?_) (by simpa using h1) (by unfold maxLen; omega) hbytes (by simp; omega) ?_
  · cases j with
    | zero => simp at hj; subst hj; simp [Addr.add]
    | succ j => simp at hj
  · intro v' w' hown' hg hnil
    refine h v' w' hown' ?_ (fun e0 => by have := hnil.1 e0; omega)
    have hb1 : Below base w (w.alloc (.cells #[u] e)) := (Below.refl _ _).alloc hbase _
    exact hb1.grown hg (by simp; omega) (fun k hk => (hown.lt k hk).1)
theorem strV_eq (l m : List UInt8) : (strV l = strV m) = (l = m) := by simp [strV]
end
end Go.Proofs.YtbgmjlonbbmffaaDoor
