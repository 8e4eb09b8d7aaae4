/- Sets of bytes as four words: the plain mathematics. Nothing here speaks of a program. -/
namespace Go.Proofs.YtakcckdnliiieaaDoor

@[ext] structure BS where
  w0 : BitVec 64
  w1 : BitVec 64
  w2 : BitVec 64
  w3 : BitVec 64

namespace BS
def word (s : BS) (i : Nat) : BitVec 64 := match i with | 0 => s.w0 | 1 => s.w1 | 2 => s.w2 | _ => s.w3
def setw (s : BS) (i : Nat) (x : BitVec 64) : BS := match i with | 0 => { s with w0 := x } | 1 => { s with w1 := x } | 2 => { s with w2 := x } | _ => { s with w3 := x }
def has (s : BS) (n : Nat) : Bool := (s.word (n / 64)).getLsbD (n % 64)
def beq (s t : BS) : Bool := s.w0 == t.w0 && (s.w1 == t.w1 && (s.w2 == t.w2 && s.w3 == t.w3))
theorem beq_iff (s t : BS) : s.beq t = true ↔ s = t := by
  cases s; cases t; simp [beq]
instance : DecidableEq BS := fun s t => decidable_of_iff _ (beq_iff s t)

theorem word_lt {i : Nat} (h : i < 4) (P : Nat → Prop) (h0 : P 0) (h1 : P 1) (h2 : P 2) (h3 : P 3) : P i := by
  match i, h with
  | 0, _ => exact h0
  | 1, _ => exact h1
  | 2, _ => exact h2
  | 3, _ => exact h3
theorem word_setw (s : BS) (i j : Nat) (x : BitVec 64) (hi : i < 4) (hj : j < 4) : (s.setw i x).word j = if j = i then x else s.word j := by
  revert hj
  refine word_lt hi (fun i => j < 4 → (s.setw i x).word j = if j = i then x else s.word j) ?_ ?_ ?_ ?_ <;> intro hj <;>
    refine word_lt hj (fun j => (s.setw _ x).word j = if j = _ then x else s.word j) ?_ ?_ ?_ ?_ <;> rfl

theorem ext_has {s t : BS} (h : ∀ n, n < 256 → s.has n = t.has n) : s = t := by
  have key : ∀ k, k < 4 → s.word k = t.word k := by
    intro k hk
    apply BitVec.eq_of_getLsbD_eq
    intro i hi
    have := h (k * 64 + i) (by omega)
    unfold has at this
    rwa [show (k * 64 + i) / 64 = k by omega, show (k * 64 + i) % 64 = i by omega] at this
  have h0 := key 0 (by omega)
  have h1 := key 1 (by omega)
  have h2 := key 2 (by omega)
  have h3 := key 3 (by omega)
  cases s; cases t
  simp only [word] at h0 h1 h2 h3
  subst h0; subst h1; subst h2; subst h3; rfl

def zero : BS := ⟨0, 0, 0, 0⟩
def or (s t : BS) : BS := ⟨s.w0 ||| t.w0, s.w1 ||| t.w1, s.w2 ||| t.w2, s.w3 ||| t.w3⟩
def and (s t : BS) : BS := ⟨s.w0 &&& t.w0, s.w1 &&& t.w1, s.w2 &&& t.w2, s.w3 &&& t.w3⟩
def minus (s t : BS) : BS := ⟨s.w0 &&& ~~~t.w0, s.w1 &&& ~~~t.w1, s.w2 &&& ~~~t.w2, s.w3 &&& ~~~t.w3⟩
def not (s : BS) : BS := ⟨~~~s.w0, ~~~s.w1, ~~~s.w2, ~~~s.w3⟩
def ins (s : BS) (n : Nat) : BS := s.setw (n / 64) (s.word (n / 64) ||| 1#64 <<< (n % 64))
def full : BS := zero.not

theorem word_zero (i : Nat) : zero.word i = 0 := by unfold word; split <;> rfl
theorem word_or (s t : BS) (i : Nat) : (s.or t).word i = s.word i ||| t.word i := by unfold word; split <;> rfl
theorem word_and (s t : BS) (i : Nat) : (s.and t).word i = s.word i &&& t.word i := by unfold word; split <;> rfl
theorem word_minus (s t : BS) (i : Nat) : (s.minus t).word i = s.word i &&& ~~~t.word i := by unfold word; split <;> rfl
theorem word_not (s : BS) (i : Nat) : s.not.word i = ~~~s.word i := by unfold word; split <;> rfl

theorem has_zero (n : Nat) : zero.has n = false := by simp [has, word_zero]
theorem has_or (s t : BS) (n : Nat) : (s.or t).has n = (s.has n || t.has n) := by simp [has, word_or]
theorem has_and (s t : BS) (n : Nat) : (s.and t).has n = (s.has n && t.has n) := by simp [has, word_and]
theorem has_not (s : BS) (n : Nat) : s.not.has n = !s.has n := by
  have : n % 64 < 64 := Nat.mod_lt _ (by omega)
  simp [has, word_not, this]
theorem has_minus (s t : BS) (n : Nat) : (s.minus t).has n = (s.has n && !t.has n) := by
  have : n % 64 < 64 := Nat.mod_lt _ (by omega)
  simp [has, word_minus, this]
theorem has_full (n : Nat) : full.has n = true := by rw [full, has_not, has_zero]; rfl
theorem has_ins (s : BS) (n m : Nat) (hn : n < 256) (hm : m < 256) : (s.ins n).has m = (s.has m || decide (m = n)) := by
  unfold has ins
  rw [word_setw _ _ _ _ (by omega) (by omega)]
  by_cases hw : m / 64 = n / 64
  · rw [if_pos hw, hw]
    have h1 : m % 64 < 64 := Nat.mod_lt _ (by omega)
    have : decide (m = n) = decide (m % 64 = n % 64) := by
      have : m = n ↔ m % 64 = n % 64 := by omega
      simp [this]
    rw [this]
    simp only [BitVec.getLsbD_or, BitVec.getLsbD_shiftLeft, h1, decide_true, Bool.true_and]
    congr 1
    by_cases hlt : m % 64 < n % 64
    · simp [hlt]; omega
    · by_cases he : m % 64 = n % 64
      · simp [he]
      · have : m % 64 - n % 64 ≠ 0 := by omega
        simp [he, BitVec.getLsbD_one, this]
  · rw [if_neg hw]
    have : m ≠ n := by omega
    simp [this]

/-- The set of a predicate. -/
def wd (p : Nat → Bool) (o : Nat) : BitVec 64 := (BitVec.ofBoolListLE ((List.range 64).map fun i => p (o + i))).setWidth 64
def ofFn (p : Nat → Bool) : BS := ⟨wd p 0, wd p 64, wd p 128, wd p 192⟩
theorem getLsbD_wd (p : Nat → Bool) (o i : Nat) (h : i < 64) : (wd p o).getLsbD i = p (o + i) := by
  unfold wd
  rw [BitVec.getLsbD_setWidth, BitVec.getLsbD_ofBoolListLE]
  simp [h]
theorem has_ofFn (p : Nat → Bool) (n : Nat) (h : n < 256) : (ofFn p).has n = p n := by
  have h1 : n % 64 < 64 := Nat.mod_lt _ (by omega)
  have key : ∀ k, k < 4 → n / 64 = k → (ofFn p).has n = p n := by
    intro k hk he
    unfold has
    rw [he]
    revert he
    refine word_lt hk (fun k => n / 64 = k → ((ofFn p).word k).getLsbD (n % 64) = p n) ?_ ?_ ?_ ?_ <;> intro he <;>
      (show (wd p _).getLsbD (n % 64) = p n; rw [getLsbD_wd _ _ _ h1]; congr 1; omega)
  exact key (n / 64) (by omega) rfl
theorem eq_ofFn (s : BS) (p : Nat → Bool) (h : ∀ n, n < 256 → s.has n = p n) : s = ofFn p :=
  ext_has fun n hn => by rw [h n hn, has_ofFn p n hn]

/-- The bytes, rising. -/
def list (s : BS) : List Nat := (List.range 256).filter s.has
def upTo (s : BS) (n : Nat) : List Nat := (List.range n).filter s.has
theorem list_eq (s : BS) : s.list = s.upTo 256 := rfl
theorem upTo_succ (s : BS) (n : Nat) : s.upTo (n + 1) = s.upTo n ++ (if s.has n then [n] else []) := by
  unfold upTo
  rw [List.range_succ, List.filter_append]
  congr 1
  by_cases h : s.has n = true <;> simp [h]
theorem mem_upTo (s : BS) (n m : Nat) : m ∈ s.upTo n ↔ m < n ∧ s.has m = true := by simp [upTo]
theorem mem_list (s : BS) (m : Nat) : m ∈ s.list ↔ m < 256 ∧ s.has m = true := by simp [list]
def bytes (s : BS) : List UInt8 := s.list.map UInt8.ofNat
def len (s : BS) : Nat := s.list.length
theorem len_le (s : BS) : s.len ≤ 256 := by
  unfold len list
  have := List.length_filter_le s.has (List.range 256)
  simpa using this
theorem upTo_len_le (s : BS) (n : Nat) : (s.upTo n).length ≤ n := by
  have := List.length_filter_le s.has (List.range n)
  simpa [upTo] using this

theorem list_inj {s t : BS} (h : s.list = t.list) : s = t := by
  refine ext_has fun n hn => ?_
  have h1 : n ∈ s.list ↔ n ∈ t.list := by rw [h]
  rw [mem_list, mem_list] at h1
  cases hs : s.has n <;> cases ht : t.has n <;> simp_all
theorem bytes_inj {s t : BS} (h : s.bytes = t.bytes) : s = t := by
  apply list_inj
  have key : ∀ l : List Nat, (∀ x ∈ l, x < 256) → (l.map UInt8.ofNat).map UInt8.toNat = l := by
    intro l hl
    induction l with
    | nil => rfl
    | cons a l ih =>
      have ha := hl a (by simp)
      simp only [List.map_cons]
      rw [ih (fun x hx => hl x (by simp [hx]))]
      congr 1
      exact UInt8.toNat_ofNat_of_lt' (by simpa using ha)
  have hs := key s.list (fun x hx => ((mem_list s x).1 hx).1)
  have ht := key t.list (fun x hx => ((mem_list t x).1 hx).1)
  unfold bytes at h
  rw [← hs, ← ht, h]

theorem ins_of_has (s : BS) (n : Nat) (hn : n < 256) (h : s.has n = true) : s.ins n = s := by
  refine ext_has fun m hm => ?_
  rw [has_ins _ _ _ hn hm]
  by_cases he : m = n
  · subst he; simp [h]
  · simp [he]
theorem add_of_not_has (s : BS) (n : Nat) (h : s.has n = false) : s.word (n / 64) + 1#64 <<< (n % 64) = s.word (n / 64) ||| 1#64 <<< (n % 64) := by
  refine BitVec.add_eq_or_of_and_eq_zero _ _ ?_
  apply BitVec.eq_of_getLsbD_eq
  intro i hi
  rw [BitVec.getLsbD_and, BitVec.getLsbD_shiftLeft, BitVec.getLsbD_one]
  by_cases he : i = n % 64
  · subst he
    unfold has at h
    simp [h]
  · by_cases hlt : i < n % 64
    · simp [hlt]
    · have : ¬ i - n % 64 = 0 := by omega
      simp [this]

/-- The set of a text's bytes. -/
def ofBytes (l : List UInt8) : BS := l.foldl (fun s b => s.ins b.toNat) zero
theorem has_foldl (l : List UInt8) (s : BS) (n : Nat) (hn : n < 256) : (l.foldl (fun s b => s.ins b.toNat) s).has n = (s.has n || l.any fun b => b.toNat == n) := by
  induction l generalizing s with
  | nil => simp
  | cons b l ih =>
    rw [List.foldl_cons, ih, has_ins _ _ _ (by exact b.toNat_lt) hn, List.any_cons, Bool.or_assoc]
    congr 2
    by_cases h : n = b.toNat
    · subst h; simp
    · have : ¬ b.toNat = n := fun e => h e.symm
      simp [h, this]
theorem has_ofBytes (l : List UInt8) (n : Nat) (hn : n < 256) : (ofBytes l).has n = l.any fun b => b.toNat == n := by
  rw [ofBytes, has_foldl _ _ _ hn, has_zero, Bool.false_or]
theorem ofBytes_snoc (l : List UInt8) (b : UInt8) : ofBytes (l ++ [b]) = (ofBytes l).ins b.toNat := by simp [ofBytes]
theorem ofBytes_bytes (s : BS) : ofBytes s.bytes = s := by
  refine ext_has fun n hn => ?_
  rw [has_ofBytes _ _ hn]
  rw [Bool.eq_iff_iff]
  simp only [List.any_eq_true, bytes, List.mem_map, beq_iff_eq]
  constructor
  · rintro ⟨b, ⟨m, hm, rfl⟩, he⟩
    obtain ⟨h1, h2⟩ := (mem_list s m).1 hm
    have : (UInt8.ofNat m).toNat = m := UInt8.toNat_ofNat_of_lt' (by simpa using h1)
    rw [this] at he
    subst he
    exact h2
  · intro h
    exact ⟨_, ⟨n, (mem_list s n).2 ⟨hn, h⟩, rfl⟩, UInt8.toNat_ofNat_of_lt' (by simpa using hn)⟩

/-- The bytes from one to another one. -/
def range (a b : Nat) : BS := ofFn fun n => decide (a ≤ n) && decide (n ≤ b)
theorem has_range (a b n : Nat) (h : n < 256) : (range a b).has n = (decide (a ≤ n) && decide (n ≤ b)) := has_ofFn _ _ h

/-- What a loop over the bytes has put together, so far. -/
def part (p : Nat → Bool) (k : Nat) : BS := ofFn fun m => decide (m < k) && p m
theorem part_zero (p : Nat → Bool) : part p 0 = zero := ext_has fun n hn => by rw [part, has_ofFn _ _ hn, has_zero]; simp
theorem part_yes (p : Nat → Bool) (k : Nat) (hk : k < 256) (h : p k = true) : (part p k).ins k = part p (k + 1) := ext_has fun n hn => by
  rw [has_ins _ _ _ hk hn, part, part, has_ofFn _ _ hn, has_ofFn _ _ hn]
  by_cases he : n = k
  · subst he; simp [h]
  · have : (n < k + 1) = (n < k) := by rw [eq_iff_iff]; omega
    simp [he, this]
theorem part_no (p : Nat → Bool) (k : Nat) (h : p k = false) : part p (k + 1) = part p k := ext_has fun n hn => by
  rw [part, part, has_ofFn _ _ hn, has_ofFn _ _ hn]
  by_cases he : n = k
  · subst he; simp [h]
  · have : (n < k + 1) = (n < k) := by rw [eq_iff_iff]; omega
    simp [this]
theorem part_all (p : Nat → Bool) : part p 256 = ofFn p := ext_has fun n hn => by
  rw [part, has_ofFn _ _ hn, has_ofFn _ _ hn]; simp [hn]
theorem or_eq (s t : BS) : ofFn (fun n => s.has n || t.has n) = s.or t := ext_has fun n hn => by rw [has_ofFn _ _ hn, has_or]
theorem and_eq (s t : BS) : ofFn (fun n => s.has n && t.has n) = s.and t := ext_has fun n hn => by rw [has_ofFn _ _ hn, has_and]
theorem minus_eq (s t : BS) : ofFn (fun n => s.has n && !t.has n) = s.minus t := ext_has fun n hn => by rw [has_ofFn _ _ hn, has_minus]
end BS
end Go.Proofs.YtakcckdnliiieaaDoor
