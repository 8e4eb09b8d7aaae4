import Derived.Test.YtakcckdnliiieaaDoorSet10
import Derived.Test.YtakcckdnliiieaaDoorSet4
namespace Go.Proofs.YtakcckdnliiieaaDoor
open Go Go.RowKit
theorem runsL_snoc (l : List Nat) (b : Nat) : runsL (l ++ [b]) = addRun (runsL l) b := by simp [runsL]
theorem runsL_last (l : List Nat) {q : List (Nat × Nat)} {a z : Nat} (h : runsL l = q ++ [(a, z)]) : z ∈ l := by
  rcases List.eq_nil_or_concat l with rfl | ⟨l', b, rfl⟩
  · simp [runsL] at h
  · rw [List.concat_eq_append] at *
    rw [runsL_snoc] at h
    have : z = b := by
      rcases runs_cases (runsL l') with h0 | ⟨q', a', z', h0⟩
      · rw [h0, addRun_nil] at h
        have := congrArg List.getLast? h
        simp at this; exact this.2.symm
      · rw [h0] at h
        by_cases e : z' + 1 = b
        · rw [addRun_ext _ _ _ _ e] at h
          have := congrArg List.getLast? h
          simp at this; exact this.2.symm
        · rw [addRun_new _ _ _ _ e] at h
          have := congrArg List.getLast? h
          simp at this; exact this.2.symm
    simp [this]
theorem BS.runs_eq (s : BS) : s.runs = runsL s.list := by
  unfold BS.runs rsB BS.bytes
  rw [List.map_map]
  congr 1
  have : ∀ n ∈ s.list, (UInt8.toNat ∘ UInt8.ofNat) n = id n := fun n hn => by
    have := ((BS.mem_list s n).1 hn).1
    simp; omega
  rw [List.map_congr_left this, List.map_id]
/-- A run begins at i and goes to j. -/
theorem BS.run_from (s : BS) (i : Nat) (h0 : i = 0 ∨ s.has (i - 1) = false) : ∀ d, (∀ n, i ≤ n → n ≤ i + d → s.has n = true) → runsL (s.upTo (i + d + 1)) = runsL (s.upTo i) ++ [(i, i + d)]
  | 0, h => by
    rw [Nat.add_zero, BS.upTo_succ, h i (Nat.le_refl _) (Nat.le_refl _)]
    simp only [if_true, runsL_snoc]
    rcases runs_cases (runsL (s.upTo i)) with e | ⟨q, a, z, e⟩
    · rw [e]; rfl
    · rw [e]
      have hz := (BS.mem_upTo s i z).1 (runsL_last _ e)
      refine addRun_new q a z i (fun e1 => ?_)
      rcases h0 with h0 | h0
      · omega
      · rw [show i - 1 = z by omega, hz.2] at h0; cases h0
  | d + 1, h => by
    rw [BS.upTo_succ, h (i + (d + 1)) (by omega) (Nat.le_refl _)]
    simp only [if_true, runsL_snoc]
    rw [← Nat.add_assoc, BS.run_from s i h0 d (fun n h1 h2 => h n h1 (by omega))]
    exact addRun_ext _ _ _ _ rfl
/-- Where the second way of the runs stands: whatever lies below m is in the list. -/
def BS.At (s : BS) (i m : Nat) : Prop := i ≤ m ∧ m ≤ 256 ∧ (∀ n, i ≤ n → n < m → s.has n = true) ∧ (0 < i ∧ s.has (i - 1) = true → m = 256 ∨ s.has m = false) ∧ (¬ (0 < i ∧ s.has (i - 1) = true) → m = i)
theorem BS.At.start (s : BS) : s.At 0 0 := ⟨by omega, by omega, by omega, by omega, by omega⟩
theorem BS.At.no {s : BS} {i m : Nat} (h : s.At i m) (hi : i < 256) (h1 : s.has i = false) : s.At (i + 1) (i + 1) ∧ runsL (s.upTo (i + 1)) = runsL (s.upTo m) := by
  have hm : m = i := by
    rcases Nat.lt_or_ge i m with hlt | hge
    · have := h.2.2.1 i (Nat.le_refl _) hlt; rw [h1] at this; cases this
    · have := h.1; omega
  refine ⟨⟨Nat.le_refl _, by omega, fun n _ _ => by omega, fun ⟨_, h2⟩ => ?_, fun _ => rfl⟩, ?_⟩
  · rw [show i + 1 - 1 = i by omega, h1] at h2; cases h2
  · rw [BS.upTo_succ, h1, hm]; simp
theorem BS.At.within {s : BS} {i m : Nat} (h : s.At i m) (hi : i < 256) (h0 : 0 < i) (h1 : s.has i = true) (h2 : s.has (i - 1) = true) : s.At (i + 1) m := by
  have h3 := h.2.2.2.1 ⟨h0, h2⟩
  have hlt : i < m := by
    rcases Nat.lt_or_ge i m with hlt | hge
    · exact hlt
    · have : m = i := by have := h.1; omega
      subst this
      rcases h3 with h3 | h3
      · omega
      · rw [h1] at h3; cases h3
  refine ⟨hlt, h.2.1, fun n h4 h5 => h.2.2.1 n (by omega) h5, fun _ => h3, fun h4 => absurd ⟨by omega, by rw [show i + 1 - 1 = i by omega]; exact h1⟩ h4⟩
theorem BS.At.begins {s : BS} {i m j : Nat} (h : s.At i m) (hb : i = 0 ∨ s.has (i - 1) = false) (hij : i ≤ j) (hj : j < 256) (h1 : ∀ n, i ≤ n → n ≤ j → s.has n = true) (h2 : j = 255 ∨ s.has (j + 1) = false) :
    s.At (i + 1) (j + 1) ∧ runsL (s.upTo (j + 1)) = runsL (s.upTo m) ++ [(i, j)] := by
  have hm : m = i := h.2.2.2.2 (fun ⟨h3, h4⟩ => by rcases hb with hb | hb; omega; rw [hb] at h4; cases h4)
  subst hm
  refine ⟨⟨by omega, by omega, fun n h3 h4 => h1 n (by omega) (by omega), fun _ => ?_, fun h3 => absurd ⟨by omega, by rw [show m + 1 - 1 = m by omega]; exact h1 m (Nat.le_refl _) hij⟩ h3⟩, ?_⟩
  · rcases h2 with h2 | h2
    · exact .inl (by omega)
    · exact .inr h2
  · obtain ⟨d, rfl⟩ : ∃ d, j = m + d := ⟨j - m, by omega⟩
    exact BS.run_from s m hb d h1
theorem BS.At.stop {s : BS} {m : Nat} (h : s.At 256 m) : runsL (s.upTo m) = s.runs := by
  have : m = 256 := by have := h.1; have := h.2.1; omega
  rw [this, BS.runs_eq]; rfl
theorem runsL_len (s : BS) (m : Nat) (hm : m ≤ 256) : (runsL (s.upTo m)).length ≤ 256 := by
  have h1 := foldl_runs_len (s.upTo m) []
  have h2 := BS.upTo_len_le s m
  unfold runsL
  simp at h1 ⊢; omega
attribute [local go_sem] Oper.quietAt Oper.quietUpon
section
variable {P : Program}
/-- One cell pair more. -/
theorem wpList_push2 {ops : Array Oper} {rest : List Oper} {o : Oper} {a : Act} {Q : Exit → Act → World → Prop} {w : World} (hgd : o.guard = none) (s x : Operand) (t : TypeId)
    (ho : o.op = .call { callee := .builtin .append, args := #[s, x], argTypes := #[t, t] })
    (base : Nat) (e : TypeId) (z : Value) (ht : P.underlying t = some (.slice e)) (hi : (P.info? e).map (fun i => (i.zero, i.size, i.bytes)) = some (some z, 2, 2)) (hzs : z.cells.size = 2)
    (v : Value) (n : Nat) (xs : List Value) (hs : a.eval s = v) (hown : w.ownsRow base e 2 v n xs) (u u2 : Value)
    (hx : a.eval x = .slice (some ⟨w.heap.size, 0, none⟩) 1 1) (h1 : u.oneCell' = true) (h2 : u2.oneCell' = true)
    (h63 : n ≤ 256) (hbase : base ≤ w.heap.size)
    (h : ∀ v' w', w'.ownsRow base e 2 v' (n + 1) (xs ++ [u, u2]) → Below base w w' → v' ≠ .slice none 0 0 → wpList P ops Q rest (a.put o.dst v') w') : wpList P ops Q (o :: rest) a (w.alloc (.cells #[u, u2] e)) := by
  obtain ⟨i0, hi0, hz0, hz1, hz2⟩ := info_parts hi
  refine wpList_append_own _ hgd s x t ho base e i0 z 2 2 ht hi0 hz0 hz1 hz2 hzs (by decide) v n xs hs (hown.alloc _) ⟨w.heap.size, 0, none⟩ 1 1 [u, u2] hx rfl (cell_two_new _ _ _ _) (by simp [h1, h2]) (by unfold maxLen; omega) (by omega) (by simp; omega) ?_
  intro v' w' hown' hg hnil
  refine h v' w' hown' ?_ (fun e0 => by have := hnil.1 e0; omega)
  have hb1 : Below base w (w.alloc (.cells #[u, u2] e)) := (Below.refl _ _).alloc hbase _
  exact hb1.grown hg (by simp; omega) (fun k hk => (hown.lt k hk).1)
end
set_option maxRecDepth 100000 in
set_option maxHeartbeats 2000000 in
theorem refRuns_any (s : BS) (w : World) :
    Calls Tryd.prog 38 #[.agg s.cells] w fun e W' => ∃ v, e = .returned v ∧ W'.ownsRow (w.heap.size + 1) 36 2 v s.runs.length (rcells s.runs) ∧ Below w.heap.size w W' := by
  have hX0 := Blk.new w 24 s.cells
  go_enter Tryd.func38, Tryd.ntmps38
  go_wp2_with fail
  go_loopw [3, 4] (fun v i wr => ∃ (k m : Nat), k ≤ 256 ∧ i = .int .i64 (k : Int) ∧ s.At k m ∧ Below w.heap.size w wr ∧ Blk wr w.heap.size 24 s.cells ∧ wr.ownsRow (w.heap.size + 1) 36 2 v (runsL (s.upTo m)).length (rcells (runsL (s.upTo m)))) (fun _ i _ => 256 - (intOf i).toNat)
  case atStart => exact ⟨0, 0, by omega, rfl, BS.At.start s, by (repeat' first | exact Below.refl _ _ | assumption | refine Below.alloc ?_ (by simp <;> omega) _ | refine Below.setCell ?_ (by simp <;> omega) _ | refine Below.drew ?_), hX0, World.ownsRow_nil _ _ _ _⟩
  clear hX0
  case round =>
    obtain ⟨i, m, hi, rfl, hA, hb', hX, hown⟩ := hrel
    have hlen := runsL_len s m hA.2.1
    by_cases hlt : i < 256
    · have hd : decide ((i : Int) < 256) = true := by simp; omega
      have hcX := hX.cell
      have hlX := hX.lt
      cases h1 : s.has i
      · go_wp2_with (go_at_call 23; refine (refHas_eq _ _ _ hlt h1).mono ?_; rintro e w2 ⟨rfl, hw2⟩)
        obtain ⟨hA2, hr2⟩ := hA.no hlt h1
        go_roundw
        case rel => exact ⟨i + 1, i + 1, by omega, by go_num, hA2, Lies.below hw2 hb'.size hb', hX.lies hw2, by rw [hr2]; exact ownsRow_lies hown hw2⟩
        case measure => (simp [intOf] <;> omega)
      · by_cases h2 : 0 < i ∧ s.has (i - 1) = true
        · obtain ⟨k, rfl⟩ : ∃ k, i = k + 1 := ⟨i - 1, by omega⟩
          have h3 : s.has k = true := h2.2
          have hA2 := hA.within hlt h2.1 h1 h2.2
          have c1 : ∀ w, Calls Tryd.prog 23 #[.agg s.cells, .int .u8 ((k : Int) + 1)] w (Ret (.bool true) w) := fun w => refHas_eq s (k + 1) w hlt h1
          have c2 : ∀ w, Calls Tryd.prog 23 #[.agg s.cells, .int .u8 (k : Int)] w (Ret (.bool true) w) := fun w => refHas_eq s k w (by omega) h3
          go_wp2_with (first | (go_at_call 23; (with_reducible refine (c1 _).mono ?_); rintro e w2 ⟨rfl, hw2⟩; have hX2 := hX.lies hw2; have hcX2 := hX2.cell) | (go_at_call 23; (with_reducible refine (c2 _).mono ?_); rintro e w3 ⟨rfl, hw3⟩))
          go_roundw
          case rel => exact ⟨k + 1 + 1, m, by omega, by go_num, hA2, Lies.below hw3 (Lies.below hw2 hb'.size hb').size (Lies.below hw2 hb'.size hb'), hX2.lies hw3, ownsRow_lies (ownsRow_lies hown hw2) hw3⟩
          case measure => (simp [intOf] <;> omega)
        · by_cases h0 : i = 0
          · subst h0
            have c1 : ∀ w, Calls Tryd.prog 23 #[.agg s.cells, .int .u8 0] w (Ret (.bool true) w) := fun w => refHas_eq s 0 w (by omega) h1
            go_wp2_with (go_at_call 23; (with_reducible refine (c1 _).mono ?_); rintro e w2 ⟨rfl, hw2⟩; have hX2 := hX.lies hw2; have hb2 := Lies.below hw2 hb'.size hb'; have hown2 := ownsRow_lies hown hw2)
            go_loopw [5] (fun v wr => ∃ j : Nat, 0 ≤ j ∧ j < 256 ∧ v = .int .i64 (j : Int) ∧ (∀ n, 0 ≤ n → n ≤ j → s.has n = true) ∧ Below w.heap.size w wr ∧ Blk wr w.heap.size 24 s.cells ∧ wr.ownsRow (w.heap.size + 1) 36 2 u3 (runsL (s.upTo m)).length (rcells (runsL (s.upTo m)))) (fun v _ => 256 - (intOf v).toNat)
            case atStart => exact ⟨0, by omega, by omega, rfl, fun n h5 h6 => by rw [show n = 0 by omega]; exact h1, hb2, hX2, hown2⟩
            case round =>
              obtain ⟨j, hij, hj, rfl, hall, hb6, hX6, hown6⟩ := hrel
              have hl6 := hX6.lt
              have hcX6 := hX6.cell
              by_cases hj5 : j < 255
              · have hdj : decide ((j : Int) < 255) = true := by simp; omega
                cases h5 : s.has (j + 1)
                · have c3 : ∀ w, Calls Tryd.prog 23 #[.agg s.cells, .int .u8 ((j : Int) + 1)] w (Ret (.bool false) w) := fun w => refHas_eq s (j + 1) w (by omega) h5
                  have hE := hA.begins (.inl rfl) hij hj hall (.inr h5)
                  go_wp2_with (first | (go_at_call 23; (with_reducible refine (c3 _).mono ?_); rintro e w7 ⟨rfl, hw7⟩; have hX7 := hX6.lies hw7; have hb7 := Lies.below hw7 hb6.size hb6; have hown7 := ownsRow_lies hown6 hw7; have hl7 := hX7.lt) | (at_builtin; refine wpList_push2 rfl _ _ 34 rfl (w.heap.size + 1) 36 (.agg #[.int .u8 0, .int .u8 0]) Tryd.underlying34 Tryd.info36 rfl _ _ _ rfl hown7 (nb (0)) (nb j) rfl rfl rfl hlen (by omega) ?_; intro v5 w5 hown5 hb5 _))
                  go_roundw
                  case rel => exact ⟨0 + 1, j + 1, by omega, by go_num, hE.1, hb7.trans (hb5.mono (by omega)), hX7.below hb5 (by omega), by rw [hE.2, List.length_append, rcells_append]; exact hown5⟩
                  case measure => (simp [intOf] <;> omega)
                · have c3 : ∀ w, Calls Tryd.prog 23 #[.agg s.cells, .int .u8 ((j : Int) + 1)] w (Ret (.bool true) w) := fun w => refHas_eq s (j + 1) w (by omega) h5
                  go_wp2_with (go_at_call 23; (with_reducible refine (c3 _).mono ?_); rintro e w7 ⟨rfl, hw7⟩)
                  go_roundw
                  case rel => exact ⟨j + 1, by omega, by omega, by go_num, fun n h8 h9 => by rcases Nat.lt_or_ge n (j + 1) with hn | hn; exact hall n h8 (by omega); rw [show n = j + 1 by omega]; exact h5, Lies.below hw7 hb6.size hb6, hX6.lies hw7, ownsRow_lies hown6 hw7⟩
                  case measure => (simp [intOf] <;> omega)
              · obtain rfl : j = 255 := by omega
                have hE := hA.begins (.inl rfl) hij hj hall (.inl rfl)
                go_wp2_with (at_builtin; refine wpList_push2 rfl _ _ 34 rfl (w.heap.size + 1) 36 (.agg #[.int .u8 0, .int .u8 0]) Tryd.underlying34 Tryd.info36 rfl _ _ _ rfl hown6 (nb (0)) (nb 255) rfl rfl rfl hlen (by omega) ?_; intro v5 w5 hown5 hb5 _)
                go_roundw
                case rel => exact ⟨0 + 1, 255 + 1, by omega, by go_num, hE.1, hb6.trans (hb5.mono (by omega)), hX6.below hb5 (by omega), by rw [hE.2, List.length_append, rcells_append]; exact hown5⟩
                case measure => (simp [intOf] <;> omega)
          · obtain ⟨k, rfl⟩ : ∃ k, i = k + 1 := ⟨i - 1, by omega⟩
            have h3 : s.has k = false := by
              have : ¬ s.has k = true := fun h => h2 ⟨by omega, h⟩
              simpa using this
            have c1 : ∀ w, Calls Tryd.prog 23 #[.agg s.cells, .int .u8 ((k : Int) + 1)] w (Ret (.bool true) w) := fun w => refHas_eq s (k + 1) w hlt h1
            have c2 : ∀ w, Calls Tryd.prog 23 #[.agg s.cells, .int .u8 (k : Int)] w (Ret (.bool false) w) := fun w => refHas_eq s k w (by omega) h3
            go_wp2_with (first | (go_at_call 23; (with_reducible refine (c1 _).mono ?_); rintro e w2 ⟨rfl, hw2⟩; have hX2 := hX.lies hw2; have hcX2 := hX2.cell; have hb2 := Lies.below hw2 hb'.size hb'; have hown2 := ownsRow_lies hown hw2) | (go_at_call 23; (with_reducible refine (c2 _).mono ?_); rintro e w3 ⟨rfl, hw3⟩; have hX3 := hX2.lies hw3; have hb3 := Lies.below hw3 hb2.size hb2; have hown3 := ownsRow_lies hown2 hw3))
            go_loopw [5] (fun v wr => ∃ j : Nat, (k + 1) ≤ j ∧ j < 256 ∧ v = .int .i64 (j : Int) ∧ (∀ n, (k + 1) ≤ n → n ≤ j → s.has n = true) ∧ Below w.heap.size w wr ∧ Blk wr w.heap.size 24 s.cells ∧ wr.ownsRow (w.heap.size + 1) 36 2 u3 (runsL (s.upTo m)).length (rcells (runsL (s.upTo m)))) (fun v _ => 256 - (intOf v).toNat)
            case atStart => exact ⟨(k + 1), by omega, by omega, by go_num, fun n h5 h6 => by rw [show n = (k + 1) by omega]; exact h1, hb3, hX3, hown3⟩
            case round =>
              obtain ⟨j, hij, hj, rfl, hall, hb6, hX6, hown6⟩ := hrel
              have hl6 := hX6.lt
              have hcX6 := hX6.cell
              by_cases hj5 : j < 255
              · have hdj : decide ((j : Int) < 255) = true := by simp; omega
                cases h5 : s.has (j + 1)
                · have c3 : ∀ w, Calls Tryd.prog 23 #[.agg s.cells, .int .u8 ((j : Int) + 1)] w (Ret (.bool false) w) := fun w => refHas_eq s (j + 1) w (by omega) h5
                  have hE := hA.begins (.inr h3) hij hj hall (.inr h5)
                  go_wp2_with (first | (go_at_call 23; (with_reducible refine (c3 _).mono ?_); rintro e w7 ⟨rfl, hw7⟩; have hX7 := hX6.lies hw7; have hb7 := Lies.below hw7 hb6.size hb6; have hown7 := ownsRow_lies hown6 hw7; have hl7 := hX7.lt) | (at_builtin; refine wpList_push2 rfl _ _ 34 rfl (w.heap.size + 1) 36 (.agg #[.int .u8 0, .int .u8 0]) Tryd.underlying34 Tryd.info36 rfl _ _ _ rfl hown7 (nb ((k + 1))) (nb j) rfl rfl rfl hlen (by omega) ?_; intro v5 w5 hown5 hb5 _))
                  go_roundw
                  case rel => exact ⟨(k + 1) + 1, j + 1, by omega, by go_num, hE.1, hb7.trans (hb5.mono (by omega)), hX7.below hb5 (by omega), by rw [hE.2, List.length_append, rcells_append]; exact hown5⟩
                  case measure => (simp [intOf] <;> omega)
                · have c3 : ∀ w, Calls Tryd.prog 23 #[.agg s.cells, .int .u8 ((j : Int) + 1)] w (Ret (.bool true) w) := fun w => refHas_eq s (j + 1) w (by omega) h5
                  go_wp2_with (go_at_call 23; (with_reducible refine (c3 _).mono ?_); rintro e w7 ⟨rfl, hw7⟩)
                  go_roundw
                  case rel => exact ⟨j + 1, by omega, by omega, by go_num, fun n h8 h9 => by rcases Nat.lt_or_ge n (j + 1) with hn | hn; exact hall n h8 (by omega); rw [show n = j + 1 by omega]; exact h5, Lies.below hw7 hb6.size hb6, hX6.lies hw7, ownsRow_lies hown6 hw7⟩
                  case measure => (simp [intOf] <;> omega)
              · obtain rfl : j = 255 := by omega
                have hE := hA.begins (.inr h3) hij hj hall (.inl rfl)
                go_wp2_with (at_builtin; refine wpList_push2 rfl _ _ 34 rfl (w.heap.size + 1) 36 (.agg #[.int .u8 0, .int .u8 0]) Tryd.underlying34 Tryd.info36 rfl _ _ _ rfl hown6 (nb ((k + 1))) (nb 255) rfl rfl rfl hlen (by omega) ?_; intro v5 w5 hown5 hb5 _)
                go_roundw
                case rel => exact ⟨(k + 1) + 1, 255 + 1, by omega, by go_num, hE.1, hb6.trans (hb5.mono (by omega)), hX6.below hb5 (by omega), by rw [hE.2, List.length_append, rcells_append]; exact hown5⟩
                case measure => (simp [intOf] <;> omega)
    · obtain rfl : i = 256 := by omega
      have hd : decide ((256 : Int) < 256) = false := rfl
      rw [hA.stop] at hown
      go_wp2
      go_ret
      exact ⟨_, rfl, hown, hb'⟩
end Go.Proofs.YtakcckdnliiieaaDoor
