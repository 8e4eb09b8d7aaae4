/- Lines in plain words: what is shown is read as it was; what is read, shown, is the line. -/
import Derived.Test.YtbgmjlonbbmffaaDoorL26
import Derived.Lib.CutLaws
namespace Go.Proofs.YtbgmjlonbbmffaaDoor
open Go Go.RowKit
def isD (b : UInt8) : Prop := 48 ≤ b.toNat ∧ b.toNat ≤ 57
theorem digG_app : ∀ (l m : List UInt8) (n : Nat), digG (l ++ m) n = (digG l n).bind (digG m)
  | [], m, n => rfl
  | b :: l, m, n => by
    rw [List.cons_append]
    unfold digG
    split
    · rfl
    · exact digG_app l m _
theorem digG_some {l : List UInt8} {n r : Nat} (h : digG l n = some r) : ∀ b ∈ l, isD b := by
  induction l generalizing n with
  | nil => simp
  | cons b l ih =>
    unfold digG at h
    split at h
    · cases h
    · rename_i hb
      intro c hc
      rcases List.mem_cons.1 hc with rfl | hc
      · exact ⟨by omega, by omega⟩
      · exact ih h c hc
theorem dig_byte {d : Nat} (h : d < 10) : (UInt8.ofNat (48 + d)).toNat = 48 + d := by simp [UInt8.toNat_ofNat']; omega
theorem dec_digits : ∀ n, ∀ b ∈ Lib.decDigits n, isD b := by
  intro n
  induction n using Nat.strongRecOn with
  | _ n ih =>
    intro b hb
    rw [Lib.decDigits] at hb
    split at hb
    · rename_i h
      rw [List.mem_singleton] at hb
      subst hb
      unfold isD; rw [dig_byte h]; omega
    · rename_i h
      rcases List.mem_append.1 hb with hb | hb
      · exact ih (n / 10) (by omega) b hb
      · rw [List.mem_singleton] at hb
        subst hb
        unfold isD; rw [dig_byte (by omega)]; omega
theorem digG_dec : ∀ n, digG (Lib.decDigits n) 0 = some n := by
  intro n
  induction n using Nat.strongRecOn with
  | _ n ih =>
    rw [Lib.decDigits]
    split
    · rename_i h
      unfold digG
      rw [dig_byte h, if_neg (by omega)]
      unfold digG
      congr 1; omega
    · rename_i h
      rw [digG_app, ih (n / 10) (by omega)]
      simp only [Option.bind_some]
      unfold digG
      rw [dig_byte (by omega), if_neg (by omega)]
      unfold digG
      congr 1; omega
theorem dec_len (n : Nat) (h : n ≤ 2147483647) : 0 < (Lib.decDigits n).length ∧ (Lib.decDigits n).length ≤ 10 := by
  rw [Lib.decDigits_length]
  exact ⟨Lib.nDigits_pos n, nDigits_le 9 n (by omega)⟩
/-- The first digit of a number of two or more is no zero. -/
theorem dec_head : ∀ n, 10 ≤ n → (Lib.decDigits n).head? ≠ some 48 := by
  intro n
  induction n using Nat.strongRecOn with
  | _ n ih =>
    intro hn
    rw [Lib.decDigits, dif_neg (by omega)]
    by_cases h : n / 10 < 10
    · rw [Lib.decDigits_one h]
      simp only [List.cons_append, List.head?_cons, ne_eq, Option.some.injEq]
      intro e
      have := congrArg UInt8.toNat e
      rw [dig_byte h] at this
      have e48 : (48 : UInt8).toNat = 48 := rfl
      omega
    · have h1 := ih (n / 10) (by omega) (by omega)
      have h2 := Lib.nDigits_pos (n / 10)
      rw [← Lib.decDigits_length] at h2
      rw [List.head?_append]
      cases hh : (Lib.decDigits (n / 10)).head? with
      | none => rw [List.head?_eq_none_iff] at hh; rw [hh] at h2; simp at h2
      | some b => rw [hh] at h1; simpa using h1
theorem decR_dec (n : Nat) (h : n ≤ 2147483647) : decR (Lib.decDigits n) = (n, true) := by
  have hl := dec_len n h
  unfold decR
  rw [if_neg, digG_dec]
  · simp [h]
  · rintro (h1 | h1 | ⟨h1, h2⟩)
    · rw [h1] at hl; simp at hl
    · omega
    · by_cases hn : 10 ≤ n
      · exact dec_head n hn h1
      · rw [Lib.decDigits_one (by omega)] at h2; simp at h2
/-- A numeral that begins with no zero is what its number is written as. -/
theorem dec_canon : ∀ (k : Nat) (l : List UInt8), l.length = k + 1 → (l.head? = some 48 → k = 0) → ∀ n, digG l 0 = some n → l = Lib.decDigits n ∧ (k ≠ 0 → 0 < n)
  | 0, l, hl, _, n, h => by
    match l, hl with
    | [b], _ =>
      have hd := digG_some h b (by simp)
      unfold digG at h
      rw [if_neg (by have := hd.1; have := hd.2; omega)] at h
      unfold digG at h
      injection h with h
      have h1 := hd.1
      have h2 := hd.2
      rw [Lib.decDigits_one (by omega)]
      refine ⟨?_, fun h => absurd rfl h⟩
      congr 1
      apply UInt8.toNat_inj.1
      rw [dig_byte (by omega)]; omega
  | k + 1, l, hl, hh, n, h => by
    rcases List.eq_nil_or_concat l with rfl | ⟨t, b, rfl⟩
    · simp at hl
    rw [List.concat_eq_append] at *
    have htl : t.length = k + 1 := by simp at hl; exact hl
    rw [digG_app] at h
    cases ht : digG t 0 with
    | none => rw [ht] at h; simp at h
    | some m =>
      rw [ht] at h
      simp only [Option.bind_some] at h
      have hd := digG_some h b (by simp)
      unfold digG at h
      rw [if_neg (by have := hd.1; have := hd.2; omega)] at h
      unfold digG at h
      injection h with h
      have hth : t.head? = (t ++ [b]).head? := by
        cases t with
        | nil => simp at htl
        | cons c t => rfl
      have h1 := hd.1
      have h2 := hd.2
      have hne : t.head? ≠ some 48 := fun e => by have := hh (hth ▸ e); omega
      obtain ⟨h3, h4⟩ := dec_canon k t htl (fun e => absurd e hne) m ht
      have hm : 0 < m := by
        by_cases hk : k = 0
        · subst hk
          match t, htl with
          | [c], _ =>
            have hc := digG_some ht c (by simp)
            unfold digG at ht
            rw [if_neg (by have := hc.1; have := hc.2; omega)] at ht
            unfold digG at ht
            injection ht with ht
            have : c.toNat ≠ 48 := fun e => hne (by simp only [List.head?_cons, Option.some.injEq]; exact UInt8.toNat_inj.1 e)
            have := hc.1
            omega
        · exact h4 hk
      refine ⟨?_, fun _ => by omega⟩
      rw [Lib.decDigits, dif_neg (by omega), show n / 10 = m by omega, ← h3]
      congr 2
      apply UInt8.toNat_inj.1
      rw [dig_byte (by omega)]; omega
theorem decR_inv {l : List UInt8} (h : (decR l).2 = true) : l = Lib.decDigits (decR l).1 ∧ (decR l).1 ≤ 2147483647 := by
  refine ⟨?_, decR_le l h⟩
  unfold decR at h ⊢
  split
  · rename_i hc; rw [if_pos hc] at h; cases h
  · rename_i hc
    rw [if_neg hc] at h
    cases hd : digG l 0 with
    | none => rw [hd] at h; cases h
    | some n =>
      simp only
      have hne : l ≠ [] := fun e => hc (.inl e)
      have hlen : 0 < l.length := List.length_pos_iff.2 hne
      refine (dec_canon (l.length - 1) l (by omega) (fun e => ?_) n hd).1
      have : ¬ 1 < l.length := fun h1 => hc (.inr (.inr ⟨e, h1⟩))
      omega
theorem okW_dec {i n : Nat} (h : n ≤ 2147483647) (hi : i < 2 → n ≤ 255) : okW i (Lib.decDigits n) = some n := by
  unfold okW
  rw [decR_dec n h, if_pos ⟨rfl, by omega⟩]
theorem okW_inv {i n : Nat} {l : List UInt8} (h : okW i l = some n) : l = Lib.decDigits n := by
  unfold okW at h
  split at h
  · rename_i hc
    injection h with h
    subst h
    exact (decR_inv hc.1).1
  · cases h
theorem itoa_nat (n : Nat) : Lib.itoa (n : Int) = Lib.decDigits n := by unfold Lib.itoa; rw [if_neg (by omega), Int.toNat_natCast]
theorem itoa_pos {n : Int} (h : 0 ≤ n) : Lib.itoa n = Lib.decDigits n.toNat := by unfold Lib.itoa; rw [if_neg (by omega)]
theorem drop_app2 (a sep b : List UInt8) : (a ++ sep ++ b).drop (a.length + sep.length) = b := by
  rw [← List.length_append, List.drop_left]
theorem index_app {a sep b t : List UInt8} {c : UInt8} (hs : sep = c :: t) (hc : c ∉ a) : Lib.index (a ++ sep ++ b) sep = (a.length : Int) := by
  refine Lib.index_first (by simp) ?_ (fun j hj => ?_)
  · unfold Lib.occAt
    rw [List.append_assoc, List.drop_left]
    exact List.isPrefixOf_iff_prefix.2 (List.prefix_append _ _)
  · cases h : Lib.occAt (a ++ sep ++ b) sep j with
    | false => rfl
    | true =>
      have := Lib.occAt_head hs h
      rw [List.append_assoc, List.getElem?_append_left hj] at this
      exact absurd (List.mem_of_getElem? this) hc
theorem cut_app {a sep b t : List UInt8} {c : UInt8} (hs : sep = c :: t) (hc : c ∉ a) : Lib.cut (a ++ sep ++ b) sep = (a, b, true) := by
  unfold Lib.cut
  rw [index_app hs hc, if_pos (by omega), Int.toNat_natCast, drop_app2, List.append_assoc, List.take_left]
theorem cut_inv {s sep : List UInt8} (h : (Lib.cut s sep).2.2 = true) : s = (Lib.cut s sep).1 ++ sep ++ (Lib.cut s sep).2.1 := by
  unfold Lib.cut at h ⊢
  split
  · rename_i h0
    rcases Lib.index_spec s sep with ⟨h1, _⟩ | ⟨i, h1, h2, h3, _⟩
    · omega
    · rw [h1, Int.toNat_natCast]
      simp only
      unfold Lib.occAt at h3
      obtain ⟨r, hr⟩ := List.isPrefixOf_iff_prefix.1 h3
      have : s.drop (i + sep.length) = r := by rw [← List.drop_drop, ← hr, List.drop_left]
      rw [this, List.append_assoc, hr, List.take_append_drop]
  · rename_i h0
    rw [if_neg h0] at h
    cases h
def jn : List (List UInt8) → List UInt8
  | [] => []
  | x :: ds => x ++ ds.flatMap fun d => 47 :: d
theorem splitK_cons (k : Nat) (s : List UInt8) : ∃ x ds, Lib.splitK [47] 0 k s = x :: ds := by
  cases k with
  | zero => exact ⟨s, [], rfl⟩
  | succ k => unfold Lib.splitK; split <;> exact ⟨_, _, rfl⟩
theorem jn_split : ∀ (k : Nat) (s : List UInt8), jn (Lib.splitK [47] 0 k s) = s
  | 0, s => by simp [Lib.splitK, jn]
  | k + 1, s => by
    unfold Lib.splitK
    split
    · simp [jn]
    · rename_i hne
      rcases Lib.index_spec s [47] with ⟨h1, _⟩ | ⟨i, h1, h2, h3, _⟩
      · exact absurd (by rw [h1]; rfl) hne
      · rw [h1, Int.toNat_natCast, Nat.add_zero]
        unfold Lib.occAt at h3
        obtain ⟨r, hr⟩ := List.isPrefixOf_iff_prefix.1 h3
        have hd : s.drop (i + 1) = r := by rw [← List.drop_drop, ← hr]; rfl
        simp only [List.length_cons, List.length_nil, Nat.zero_add]
        rw [hd]
        have ih := jn_split k r
        obtain ⟨x, ds, hx⟩ := splitK_cons k r
        rw [hx] at ih ⊢
        simp only [jn, List.flatMap_cons] at ih ⊢
        conv => rhs; rw [← List.take_append_drop i s, ← hr]
        rw [← ih]
        simp
theorem index_no {s : List UInt8} {c : UInt8} (h : c ∉ s) : Lib.index s [c] = -1 :=
  Lib.index_none fun j _ => by
    cases hh : Lib.occAt s [c] j with
    | false => rfl
    | true => exact absurd (List.mem_of_getElem? (Lib.occAt_head rfl hh)) h
theorem split_jn : ∀ (ds : List (List UInt8)) (x : List UInt8), 47 ∉ x → (∀ d ∈ ds, 47 ∉ d) → Lib.count (jn (x :: ds)) [47] = ds.length ∧ Lib.split (jn (x :: ds)) [47] = x :: ds
  | [], x, hx, _ => by
    have h0 := index_no hx
    have e : jn [x] = x := by simp [jn]
    rw [e]
    have hc := Lib.count_miss h0
    exact ⟨hc, by unfold Lib.split; rw [hc]; rfl⟩
  | d :: ds, x, hx, hd => by
    obtain ⟨i1, i2⟩ := split_jn ds d (hd d (by simp)) (fun e he => hd e (by simp [he]))
    have e : jn (x :: d :: ds) = x ++ [47] ++ jn (d :: ds) := by simp [jn]
    have hi := index_app (b := jn (d :: ds)) (sep := [47]) rfl hx
    have hc := Lib.count_hit (by simp) hi
    rw [drop_app2, i1] at hc
    rw [e]
    refine ⟨by rw [hc, List.length_cons]; omega, ?_⟩
    unfold Lib.split at i2 ⊢
    rw [i1] at i2
    rw [hc, Nat.add_comm 1]
    unfold Lib.splitK
    rw [if_neg (by rw [hi]; intro h; have := beq_iff_eq.1 h; omega), hi, Int.toNat_natCast, Nat.add_zero, List.append_assoc, List.take_left, ← List.append_assoc, drop_app2, i2]
theorem numsG_dec : ∀ (ns : List Nat) (i : Nat), (∀ j y, ns[j]? = some y → y ≤ 2147483647 ∧ (i + j < 2 → y ≤ 255)) → numsG i (ns.map Lib.decDigits) = some ns
  | [], i, _ => rfl
  | n :: ns, i, h => by
    have h0 := h 0 n rfl
    rw [List.map_cons, numsG_step (okW_dec h0.1 (fun hi => h0.2 (by omega))), numsG_dec ns (i + 1) (fun j y hj => by have := h (j + 1) y (by simpa using hj); exact ⟨this.1, fun hh => this.2 (by omega)⟩)]
    rfl
theorem numsG_inv : ∀ (ws : List (List UInt8)) (i : Nat) (ns : List Nat), numsG i ws = some ns → ws = ns.map Lib.decDigits
  | [], i, ns, h => by simp [numsG] at h; subst h; rfl
  | w :: ws, i, ns, h => by
    unfold numsG at h
    split at h
    · cases h
    · rename_i n hn
      obtain ⟨ms, h1, rfl⟩ := Option.map_eq_some_iff.1 h
      rw [List.map_cons, ← okW_inv hn, ← numsG_inv ws (i + 1) ms h1]
theorem dig_not {l : List UInt8} (h : ∀ b ∈ l, isD b) {c : UInt8} (hc : ¬ isD c) : c ∉ l := fun hm => hc (h c hm)
theorem pathS_jn (r : List UInt8) (l : List Int) : r ++ pathS l = jn (r :: l.map Lib.itoa) := by
  unfold pathS jn
  simp only [List.flatMap_map]
theorem pathS_no (l : List Int) (h : ∀ x ∈ l, 0 ≤ x ∧ x ≤ 2147483647) : (32 : UInt8) ∉ pathS l := by
  intro hm
  obtain ⟨x, hx, hm⟩ := List.mem_flatMap.1 hm
  rcases List.mem_cons.1 hm with hm | hm
  · exact absurd hm (by decide)
  · rw [itoa_pos (h x hx).1] at hm
    have := dec_digits _ _ hm
    exact absurd this.1 (by decide)
theorem mark_zero' {x : ItemD} (h : mayB x = true) (hm : x.mark = true) : x = ⟨true, zeroS⟩ := by
  obtain ⟨m, ⟨a, b, c, d, e⟩⟩ := x
  simp only at hm
  subst hm
  simp [mayB] at h
  obtain ⟨⟨⟨⟨h1, h2⟩, h3⟩, h4⟩, h5⟩ := h
  subst h1 h2 h3 h4 h5
  rfl
/-- What is shown is read as it was. -/
theorem readP_show {x : ItemD} (hm : mayB x = true) (hok : x.step.ok) : readP (showB x) = (x, 0) := by
  cases hmk : x.mark
  case true =>
    have := mark_zero' hm hmk
    subst this
    rfl
  obtain ⟨h0, h1, h2, h3, h4⟩ := mayB_spec hm hmk
  obtain ⟨m, ⟨pass, way, rule, path, place⟩⟩ := x
  simp only at hmk h0 h1 h2 h3 h4
  subst hmk
  unfold StepD.ok at hok
  simp only at hok
  have hs : showB ⟨false, ⟨pass, way, rule, path, place⟩⟩ = Lib.decDigits pass ++ [46] ++ (Lib.decDigits way ++ [32] ++ (Lib.decDigits rule.toNat ++ pathS path ++ [32, 64] ++ Lib.decDigits place.toNat)) := by
    unfold showB
    simp only [Bool.false_eq_true, if_false, itoa_nat, itoa_pos h1.1, itoa_pos h2.1, List.append_assoc]
  have c1 : cut1 (showB ⟨false, ⟨pass, way, rule, path, place⟩⟩) = (Lib.decDigits pass, Lib.decDigits way ++ [32] ++ (Lib.decDigits rule.toNat ++ pathS path ++ [32, 64] ++ Lib.decDigits place.toNat), true) := by
    unfold cut1; rw [hs]; exact cut_app rfl (dig_not (dec_digits _) (by unfold isD; decide))
  have c2 : cut2 (showB ⟨false, ⟨pass, way, rule, path, place⟩⟩) = (Lib.decDigits way, Lib.decDigits rule.toNat ++ pathS path ++ [32, 64] ++ Lib.decDigits place.toNat, true) := by
    unfold cut2; rw [c1]; exact cut_app rfl (dig_not (dec_digits _) (by unfold isD; decide))
  have c3 : cut3 (showB ⟨false, ⟨pass, way, rule, path, place⟩⟩) = (Lib.decDigits rule.toNat ++ pathS path, Lib.decDigits place.toNat, true) := by
    unfold cut3; rw [c2]
    refine cut_app rfl ?_
    intro hmm
    rcases List.mem_append.1 hmm with h | h
    · exact dig_not (dec_digits _) (by unfold isD; decide) h
    · exact pathS_no path h4 h
  have hsp := split_jn (path.map Lib.itoa) (Lib.decDigits rule.toNat) (dig_not (dec_digits _) (by unfold isD; decide)) (by
    intro d hd
    obtain ⟨y, hy, rfl⟩ := List.mem_map.1 hd
    rw [itoa_pos (h4 y hy).1]
    exact dig_not (dec_digits _) (by unfold isD; decide))
  rw [← pathS_jn, List.length_map] at hsp
  have hne : showB ⟨false, ⟨pass, way, rule, path, place⟩⟩ ≠ [109, 97, 114, 107] := by
    intro e
    rw [hs] at e
    have hl := (dec_len pass (by omega)).1
    cases hd : Lib.decDigits pass with
    | nil => rw [hd] at hl; simp at hl
    | cons b t =>
      rw [hd] at e
      simp only [List.cons_append, List.cons.injEq] at e
      have := dec_digits pass b (by rw [hd]; simp)
      rw [e.1] at this
      exact absurd this.2 (by decide)
  have hmap : path.map Lib.itoa = (path.map Int.toNat).map Lib.decDigits := by
    rw [List.map_map]
    exact List.map_congr_left fun y hy => itoa_pos (h4 y hy).1
  have hback : (path.map Int.toNat).map Int.ofNat = path := by
    rw [List.map_map]
    conv => rhs; rw [← List.map_id path]
    exact List.map_congr_left fun y hy => by have := (h4 y hy).1; simp; omega
  unfold readP
  rw [if_neg hne, c1, c2, c3]
  unfold readC
  rw [if_pos ⟨rfl, rfl, rfl, by rw [hsp.1]; exact h3⟩]
  unfold readN
  rw [hsp.2, hmap]
  have hn := numsG_dec (pass :: way :: place.toNat :: rule.toNat :: path.map Int.toNat) 0 (by
    intro j y hj
    match j, hj with
    | 0, hj => simp at hj; omega
    | 1, hj => simp at hj; omega
    | 2, hj => simp at hj; omega
    | 3, hj => simp at hj; omega
    | j + 4, hj =>
      simp only [List.getElem?_cons_succ] at hj
      rw [List.getElem?_map] at hj
      obtain ⟨z, hz, rfl⟩ := Option.map_eq_some_iff.1 hj
      have := h4 z (List.mem_of_getElem? hz)
      omega)
  simp only [List.map_cons] at hn
  rw [hn]
  simp only
  unfold readE
  have hx : numI (pass :: way :: place.toNat :: rule.toNat :: path.map Int.toNat) = ⟨false, ⟨pass, way, rule, path, place⟩⟩ := by
    unfold numI
    simp only [List.getD_cons_zero, List.getD_cons_succ, List.drop_succ_cons, List.drop_zero, hback]
    rw [Int.toNat_of_nonneg h1.1, Int.toNat_of_nonneg h2.1]
  rw [hx, if_pos hm]
/-- What is read, shown, is the line. -/
theorem readP_inv {s : List UInt8} {x : ItemD} (h : readP s = (x, 0)) : mayB x = true ∧ showB x = s := by
  unfold readP at h
  split at h
  · rename_i hs
    injection h with h _
    subst h hs
    exact ⟨by decide, rfl⟩
  unfold readC at h
  split at h
  case isFalse => injection h with _ h; cases h
  rename_i hc
  have k1 := cut_inv (s := s) (sep := [46]) hc.1
  have k2 := cut_inv (s := (cut1 s).2.1) (sep := [32]) hc.2.1
  have k3 := cut_inv (s := (cut2 s).2.1) (sep := [32, 64]) hc.2.2.1
  have k4 := jn_split (Lib.count (cut3 s).1 [47]) (cut3 s).1
  change jn (Lib.split (cut3 s).1 [47]) = _ at k4
  obtain ⟨y, ds, hy⟩ := splitK_cons (Lib.count (cut3 s).1 [47]) (cut3 s).1
  change Lib.split (cut3 s).1 [47] = _ at hy
  unfold readN at h
  split at h
  · injection h with _ h; cases h
  rename_i ns hns
  have hws := numsG_inv _ _ _ hns
  rw [hy] at hws k4
  unfold readE at h
  split at h
  case isFalse => injection h with _ h; cases h
  rename_i hmay
  injection h with h _
  subst h
  refine ⟨hmay, ?_⟩
  match ns, hws with
  | [], hws => simp at hws
  | [_], hws => simp at hws
  | [_, _], hws => simp at hws
  | [_, _, _], hws => simp at hws
  | n0 :: n1 :: n2 :: n3 :: rest, hws =>
    simp only [List.map_cons, List.cons.injEq] at hws
    obtain ⟨e1, e2, e3, e4, e5⟩ := hws
    have hpath : pathS (rest.map Int.ofNat) = ds.flatMap fun d => 47 :: d := by
      unfold pathS
      rw [e5, List.flatMap_map, List.flatMap_map]
      congr 1
    unfold showB numI
    simp only [Bool.false_eq_true, if_false, List.getD_cons_zero, List.getD_cons_succ, List.drop_succ_cons, List.drop_zero, itoa_nat]
    rw [hpath, ← e1, ← e2, ← e3, ← e4]
    have k5 : y ++ ds.flatMap (fun d => 47 :: d) = (cut3 s).1 := k4
    change s = (cut1 s).1 ++ [46] ++ (cut1 s).2.1 at k1
    change (cut1 s).2.1 = (cut2 s).1 ++ [32] ++ (cut2 s).2.1 at k2
    change (cut2 s).2.1 = (cut3 s).1 ++ [32, 64] ++ (cut3 s).2.1 at k3
    conv => rhs; rw [k1, k2, k3, ← k5]
    simp [List.append_assoc]
theorem readP_nil : readP [] = (zeroI, 4) := by
  unfold readP readC
  rw [if_neg (by simp), if_neg]
  rintro ⟨h, _⟩
  exact absurd h (by decide)
theorem readE_ok (ns : List Nat) (h : ∀ j y, ns[j]? = some y → y ≤ 2147483647 ∧ (0 + j < 2 → y ≤ 255)) : ((readE ns).2 = 0 ∨ readE ns = (zeroI, 4)) ∧ (readE ns).1.step.ok := by
  unfold readE
  split
  · refine ⟨.inl rfl, ?_⟩
    unfold numI StepD.ok
    simp only
    have hb : ∀ j, j < 2 → ns.getD j 0 < 256 := fun j hj => by
      rw [List.getD_eq_getElem?_getD]
      cases hh : ns[j]? with
      | none => simp
      | some y => have := (h j y hh).2 (by omega); simp; omega
    exact ⟨hb 0 (by omega), hb 1 (by omega)⟩
  · exact ⟨.inr rfl, by unfold StepD.ok zeroI zeroS; decide⟩
theorem readP_ok (s : List UInt8) : ((readP s).2 = 0 ∨ readP s = (zeroI, 4)) ∧ (readP s).1.step.ok := by
  have hz : zeroI.step.ok := by unfold StepD.ok zeroI zeroS; decide
  unfold readP
  split
  · exact ⟨.inl rfl, by unfold StepD.ok zeroS; decide⟩
  · unfold readC
    split
    · unfold readN
      split
      · exact ⟨.inr rfl, hz⟩
      · rename_i ns hns
        exact readE_ok ns (numsG_le 0 _ ns hns)
    · exact ⟨.inr rfl, hz⟩
end Go.Proofs.YtbgmjlonbbmffaaDoor
