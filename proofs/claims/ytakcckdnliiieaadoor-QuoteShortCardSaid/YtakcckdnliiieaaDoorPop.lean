/- How many bits of a word are set: the library's way, byte by byte. Plain mathematics. -/
import Derived.Test.YtakcckdnliiieaaDoorBS
namespace Go.Proofs.YtakcckdnliiieaaDoor

/-- A number of its bytes, the least one first. -/
def ofB : List Nat → Nat
  | [] => 0
  | d :: ds => d + 256 * ofB ds
theorem and_ofB (d y m z : Nat) (hd : d < 256) (hm : m < 256) : (d + 256 * y) &&& (m + 256 * z) = (d &&& m) + 256 * (y &&& z) := by
  have h1 : ((d + 256 * y) &&& (m + 256 * z)) % 2 ^ 8 = d &&& m := by
    rw [Nat.and_mod_two_pow]
    congr 1 <;> omega
  have h2 : ((d + 256 * y) &&& (m + 256 * z)) / 2 ^ 8 = y &&& z := by
    rw [Nat.and_div_two_pow]
    congr 1 <;> omega
  have := Nat.div_add_mod ((d + 256 * y) &&& (m + 256 * z)) (2 ^ 8)
  rw [h1, h2] at this
  omega
theorem ofB_lt : ∀ (ds : List Nat), (∀ d ∈ ds, d < 256) → ofB ds < 256 ^ ds.length
  | [], _ => by simp [ofB]
  | d :: ds, h => by
    have h1 := ofB_lt ds (fun x hx => h x (by simp [hx]))
    have h2 := h d (by simp)
    simp only [ofB, List.length_cons, Nat.pow_succ]
    omega
/-- Masked by the same byte everywhere. -/
theorem and_rep (m : Nat) (hm : m < 256) : ∀ (ds : List Nat), (∀ d ∈ ds, d < 256) → ofB ds &&& ofB (List.replicate ds.length m) = ofB (ds.map (· &&& m))
  | [], _ => by simp [ofB]
  | d :: ds, h => by
    simp only [ofB, List.length_cons, List.replicate_succ, List.map_cons]
    rw [and_ofB _ _ _ _ (h d (by simp)) hm, and_rep m hm ds (fun x hx => h x (by simp [hx]))]
theorem shr_rep (s m : Nat) (hs : s ≤ 8) (hm : m < 2 ^ (8 - s)) : ∀ (ds : List Nat), (∀ d ∈ ds, d < 256) → (ofB ds / 2 ^ s) &&& ofB (List.replicate ds.length m) = ofB (ds.map fun d => (d / 2 ^ s) &&& m)
  | [], _ => by simp [ofB]
  | d :: ds, h => by
    have hm' : m < 256 := Nat.lt_of_lt_of_le hm (by have : 2 ^ (8 - s) ≤ 2 ^ 8 := Nat.pow_le_pow_right (by omega) (by omega); omega)
    have hd := h d (by simp)
    simp only [ofB, List.length_cons, List.replicate_succ, List.map_cons]
    have h256 : 256 = 2 ^ s * 2 ^ (8 - s) := by rw [← Nat.pow_add, show s + (8 - s) = 8 by omega]
    have hp : 0 < 2 ^ s := Nat.pow_pos (by omega)
    have hdiv : (d + 256 * ofB ds) / 2 ^ s = d / 2 ^ s + 2 ^ (8 - s) * ofB ds := by
      rw [h256, Nat.mul_assoc, Nat.add_mul_div_left _ _ hp]
    have hlow : d / 2 ^ s < 2 ^ (8 - s) := by
      rw [Nat.div_lt_iff_lt_mul hp, Nat.mul_comm, ← h256]; exact hd
    -- the byte of it, and what lies above
    have key : d / 2 ^ s + 2 ^ (8 - s) * ofB ds = (d / 2 ^ s + 2 ^ (8 - s) * (ofB ds % 2 ^ s)) + 256 * (ofB ds / 2 ^ s) := by
      have := Nat.div_add_mod (ofB ds) (2 ^ s)
      generalize ofB ds / 2 ^ s = q at *
      generalize ofB ds % 2 ^ s = r at *
      rw [← this, Nat.mul_add, ← Nat.mul_assoc, Nat.mul_comm (2 ^ (8 - s)) (2 ^ s), ← h256]
      omega
    have hbyte : d / 2 ^ s + 2 ^ (8 - s) * (ofB ds % 2 ^ s) < 256 := by
      have hr : ofB ds % 2 ^ s < 2 ^ s := Nat.mod_lt _ hp
      have : 2 ^ (8 - s) * (ofB ds % 2 ^ s) + 2 ^ (8 - s) ≤ 2 ^ (8 - s) * 2 ^ s := by
        rw [← Nat.mul_succ]; exact Nat.mul_le_mul_left _ hr
      rw [Nat.mul_comm (2 ^ (8 - s)) (2 ^ s), ← h256] at this
      omega
    rw [hdiv, key, and_ofB _ _ _ _ hbyte hm', shr_rep s m hs hm ds (fun x hx => h x (by simp [hx]))]
    congr 1
    -- the mask sees the low part alone
    have e1 : (d / 2 ^ s + 2 ^ (8 - s) * (ofB ds % 2 ^ s)) &&& m = ((d / 2 ^ s + 2 ^ (8 - s) * (ofB ds % 2 ^ s)) % 2 ^ (8 - s)) &&& m := by
      have hmm : m = m % 2 ^ (8 - s) := (Nat.mod_eq_of_lt hm).symm
      have h1 : (d / 2 ^ s + 2 ^ (8 - s) * (ofB ds % 2 ^ s)) &&& m < 2 ^ (8 - s) := Nat.lt_of_le_of_lt Nat.and_le_right hm
      have h2 := Nat.and_mod_two_pow (a := d / 2 ^ s + 2 ^ (8 - s) * (ofB ds % 2 ^ s)) (b := m) (n := 8 - s)
      rw [Nat.mod_eq_of_lt h1, ← hmm] at h2
      exact h2
    rw [e1, Nat.add_mul_mod_self_left, Nat.mod_eq_of_lt hlow]
theorem add_ofB (f g : Nat → Nat) : ∀ (ds : List Nat), ofB (ds.map f) + ofB (ds.map g) = ofB (ds.map fun d => f d + g d)
  | [] => rfl
  | d :: ds => by
    have := add_ofB f g ds
    simp only [ofB, List.map_cons]
    omega

def popB (b : Nat) : Nat := ((List.range 8).filter b.testBit).length
def g1 (b : Nat) : Nat := ((b / 2 ^ 1) &&& 0x55) + (b &&& 0x55)
def g2 (b : Nat) : Nat := ((b / 2 ^ 2) &&& 0x33) + (b &&& 0x33)
theorem g_all : ∀ b, b < 256 → g1 b < 256 ∧ g2 (g1 b) < 256 ∧ g2 (g1 b) % 16 ≤ 4 ∧ g2 (g1 b) / 16 ≤ 4 ∧ (g2 (g1 b) % 16 + g2 (g1 b) / 16) = popB b ∧ popB b ≤ 8 := by decide +kernel

theorem map_lt {f : Nat → Nat} {ds : List Nat} (h : ∀ d ∈ ds, d < 256) (hf : ∀ d, d < 256 → f d < 256) : ∀ d ∈ ds.map f, d < 256 := by
  intro x hx
  obtain ⟨d, hd, rfl⟩ := List.mem_map.1 hx
  exact hf d (h d hd)
theorem step1 (ds : List Nat) (h : ∀ d ∈ ds, d < 256) : ((ofB ds / 2 ^ 1) &&& ofB (List.replicate ds.length 0x55)) + (ofB ds &&& ofB (List.replicate ds.length 0x55)) = ofB (ds.map g1) := by
  rw [shr_rep 1 0x55 (by omega) (by decide) ds h, and_rep 0x55 (by omega) ds h, add_ofB]; rfl
theorem step2 (ds : List Nat) (h : ∀ d ∈ ds, d < 256) : ((ofB ds / 2 ^ 2) &&& ofB (List.replicate ds.length 0x33)) + (ofB ds &&& ofB (List.replicate ds.length 0x33)) = ofB (ds.map g2) := by
  rw [shr_rep 2 0x33 (by omega) (by decide) ds h, and_rep 0x33 (by omega) ds h, add_ofB]; rfl
/-- (x>>4 + x) & 0x0f.. -/
theorem step3 : ∀ (ds : List Nat), (∀ d ∈ ds, d % 16 ≤ 4 ∧ d / 16 ≤ 4) → (ofB ds / 2 ^ 4 + ofB ds) &&& ofB (List.replicate ds.length 0x0f) = ofB (ds.map fun d => d % 16 + d / 16)
  | [], _ => by simp [ofB]
  | d :: ds, h => by
    have hd := h d (by simp)
    have hds := step3 ds (fun x hx => h x (by simp [hx]))
    simp only [ofB, List.length_cons, List.replicate_succ, List.map_cons]
    have hlow : ofB ds % 16 ≤ 4 := by
      cases ds with
      | nil => simp [ofB]
      | cons e es =>
        have := h e (by simp)
        simp only [ofB]
        omega
    have e1 : (d + 256 * ofB ds) / 2 ^ 4 + (d + 256 * ofB ds) = (d / 16 + d + 16 * (ofB ds % 16)) + 256 * (ofB ds / 2 ^ 4 + ofB ds) := by omega
    rw [e1, and_ofB _ _ _ _ (by omega) (by omega), hds]
    congr 1
    rw [show (0x0f : Nat) = 2 ^ 4 - 1 from rfl, Nat.and_two_pow_sub_one_eq_mod]
    omega

def onesOf (x : Nat) : Nat :=
  let a := ((x / 2 ^ 1) &&& 0x5555555555555555) + (x &&& 0x5555555555555555)
  let b := ((a / 2 ^ 2) &&& 0x3333333333333333) + (a &&& 0x3333333333333333)
  let c := (b / 2 ^ 4 + b) &&& 0x0f0f0f0f0f0f0f0f
  let d := c + c / 2 ^ 8
  let e := d + d / 2 ^ 16
  let f := e + e / 2 ^ 32
  f % 128
def bytesOf (x : Nat) : List Nat := (List.range 8).map fun k => x / 256 ^ k % 256
theorem ofB_bytesOf (x : Nat) (h : x < 2 ^ 64) : ofB (bytesOf x) = x := by
  simp only [bytesOf, List.range, List.range.loop, List.map_cons, List.map_nil, ofB]
  omega
theorem div_of (a m q r : Nat) (h : a = m * q + r) (hr : r < m) : a / m = q := by
  subst h
  rw [Nat.mul_add_div (by omega), Nat.div_eq_of_lt hr, Nat.add_zero]
set_option maxHeartbeats 1000000 in
theorem fin8 (d0 d1 d2 d3 d4 d5 d6 d7 : Nat) (p0 : d0 ≤ 8) (p1 : d1 ≤ 8) (p2 : d2 ≤ 8) (p3 : d3 ≤ 8) (p4 : d4 ≤ 8) (p5 : d5 ≤ 8) (p6 : d6 ≤ 8) (p7 : d7 ≤ 8) :
    (d0 + 256 * (d1 + 256 * (d2 + 256 * (d3 + 256 * (d4 + 256 * (d5 + 256 * (d6 + 256 * (d7 + 256 * 0))))))) +
            (d0 + 256 * (d1 + 256 * (d2 + 256 * (d3 + 256 * (d4 + 256 * (d5 + 256 * (d6 + 256 * (d7 + 256 * 0)))))))) / 2 ^ 8 +
          (d0 + 256 * (d1 + 256 * (d2 + 256 * (d3 + 256 * (d4 + 256 * (d5 + 256 * (d6 + 256 * (d7 + 256 * 0))))))) +
              (d0 + 256 * (d1 + 256 * (d2 + 256 * (d3 + 256 * (d4 + 256 * (d5 + 256 * (d6 + 256 * (d7 + 256 * 0)))))))) / 2 ^ 8) / 2 ^ 16 +
        (d0 + 256 * (d1 + 256 * (d2 + 256 * (d3 + 256 * (d4 + 256 * (d5 + 256 * (d6 + 256 * (d7 + 256 * 0))))))) +
              (d0 + 256 * (d1 + 256 * (d2 + 256 * (d3 + 256 * (d4 + 256 * (d5 + 256 * (d6 + 256 * (d7 + 256 * 0)))))))) / 2 ^ 8 +
            (d0 + 256 * (d1 + 256 * (d2 + 256 * (d3 + 256 * (d4 + 256 * (d5 + 256 * (d6 + 256 * (d7 + 256 * 0))))))) +
                (d0 + 256 * (d1 + 256 * (d2 + 256 * (d3 + 256 * (d4 + 256 * (d5 + 256 * (d6 + 256 * (d7 + 256 * 0)))))))) / 2 ^ 8) / 2 ^ 16) / 2 ^ 32) % 128 =
      d0 + (d1 + (d2 + (d3 + (d4 + (d5 + (d6 + (d7 + 0))))))) := by
  have h1 : (d0 + 256 * (d1 + 256 * (d2 + 256 * (d3 + 256 * (d4 + 256 * (d5 + 256 * (d6 + 256 * (d7 + 256 * 0)))))))) / 2 ^ 8 = d1 + 256 * (d2 + 256 * (d3 + 256 * (d4 + 256 * (d5 + 256 * (d6 + 256 * d7))))) := by omega
  rw [h1]
  have h2 : (d0 + 256 * (d1 + 256 * (d2 + 256 * (d3 + 256 * (d4 + 256 * (d5 + 256 * (d6 + 256 * (d7 + 256 * 0))))))) + (d1 + 256 * (d2 + 256 * (d3 + 256 * (d4 + 256 * (d5 + 256 * (d6 + 256 * d7))))))) / 2 ^ 16 = (d2 + d3) + 256 * ((d3 + d4) + 256 * ((d4 + d5) + 256 * ((d5 + d6) + 256 * ((d6 + d7) + 256 * d7)))) := by omega
  rw [h2]
  have h3 : (d0 + 256 * (d1 + 256 * (d2 + 256 * (d3 + 256 * (d4 + 256 * (d5 + 256 * (d6 + 256 * (d7 + 256 * 0))))))) + (d1 + 256 * (d2 + 256 * (d3 + 256 * (d4 + 256 * (d5 + 256 * (d6 + 256 * d7)))))) + ((d2 + d3) + 256 * ((d3 + d4) + 256 * ((d4 + d5) + 256 * ((d5 + d6) + 256 * ((d6 + d7) + 256 * d7)))))) / 2 ^ 32 = (d4 + d5 + d6 + d7) + 256 * ((d5 + d6 + d7) + 256 * ((d6 + d7) + 256 * d7)) :=
    div_of _ _ _ ((d0 + d1 + d2 + d3) + 256 * ((d1 + d2 + d3 + d4) + 256 * ((d2 + d3 + d4 + d5) + 256 * (d3 + d4 + d5 + d6)))) (by omega) (by omega)
  rw [h3]
  generalize hq : d1 + 256 * (d2 + 256 * (d3 + 256 * (d4 + 256 * (d5 + 256 * (d6 + 256 * (d7 + 256 * 0)))))) = q
  obtain ⟨r', hr'⟩ : ∃ r', q = d1 + 256 * r' := ⟨_, hq.symm⟩
  generalize ht : (d3 + d4) + 256 * ((d4 + d5) + 256 * ((d5 + d6) + 256 * ((d6 + d7) + 256 * d7))) = t
  generalize hu : (d5 + d6 + d7) + 256 * ((d6 + d7) + 256 * d7) = u
  clear h1 h2 h3 hq ht hu
  omega
theorem onesOf_eq (x : Nat) (h : x < 2 ^ 64) : onesOf x = ((bytesOf x).map popB).foldr (· + ·) 0 := by
  have hb : ∀ d ∈ bytesOf x, d < 256 := by
    intro d hd
    simp only [bytesOf, List.mem_map] at hd
    obtain ⟨k, _, rfl⟩ := hd
    exact Nat.mod_lt _ (by omega)
  have e0 := ofB_bytesOf x h
  have hl : (bytesOf x).length = 8 := by simp [bytesOf]
  have s1 := step1 (bytesOf x) hb
  have hb1 : ∀ d ∈ (bytesOf x).map g1, d < 256 := map_lt hb fun d hd => (g_all d hd).1
  have s2 := step2 _ hb1
  have s3 := step3 (((bytesOf x).map g1).map g2) (by
    intro y hy
    simp only [List.mem_map] at hy
    obtain ⟨z, ⟨d, hd, rfl⟩, rfl⟩ := hy
    have := g_all d (hb d hd)
    exact ⟨this.2.2.1, this.2.2.2.1⟩)
  simp only [List.length_map, hl] at s1 s2 s3
  rw [show ofB (List.replicate 8 0x55) = 0x5555555555555555 by decide +kernel] at s1
  rw [show ofB (List.replicate 8 0x33) = 0x3333333333333333 by decide +kernel] at s2
  rw [show ofB (List.replicate 8 0x0f) = 0x0f0f0f0f0f0f0f0f by decide +kernel] at s3
  rw [e0] at s1
  have s4 : ((((bytesOf x).map g1).map g2).map fun d => d % 16 + d / 16) = (bytesOf x).map popB := by
    rw [List.map_map, List.map_map]
    refine List.map_congr_left fun d hd => ?_
    exact (g_all d (hb d hd)).2.2.2.2.1
  rw [s4] at s3
  unfold onesOf
  simp only [s1, s2, s3]
  have hp : ∀ k, popB (x / 256 ^ k % 256) ≤ 8 := fun k => (g_all _ (Nat.mod_lt _ (by omega))).2.2.2.2.2
  have p0 := hp 0; have p1 := hp 1; have p2 := hp 2; have p3 := hp 3; have p4 := hp 4; have p5 := hp 5; have p6 := hp 6; have p7 := hp 7
  simp only [bytesOf, List.range, List.range.loop, List.map_cons, List.map_nil, ofB, List.foldr_cons, List.foldr_nil]
  generalize popB (x / 256 ^ 0 % 256) = d0 at *
  generalize popB (x / 256 ^ 1 % 256) = d1 at *
  generalize popB (x / 256 ^ 2 % 256) = d2 at *
  generalize popB (x / 256 ^ 3 % 256) = d3 at *
  generalize popB (x / 256 ^ 4 % 256) = d4 at *
  generalize popB (x / 256 ^ 5 % 256) = d5 at *
  generalize popB (x / 256 ^ 6 % 256) = d6 at *
  generalize popB (x / 256 ^ 7 % 256) = d7 at *
  exact fin8 d0 d1 d2 d3 d4 d5 d6 d7 p0 p1 p2 p3 p4 p5 p6 p7

/-- The bits of a word that are set. -/
def popW (x : BitVec 64) : Nat := ((List.range 64).filter x.getLsbD).length
theorem popW_eq (x : BitVec 64) : onesOf x.toNat = popW x := by
  rw [onesOf_eq _ x.isLt]
  have hbit : ∀ k i, i < 8 → (x.toNat / 256 ^ k % 256).testBit i = x.getLsbD (8 * k + i) := by
    intro k i hi
    rw [show (256 : Nat) = 2 ^ 8 from rfl, ← Nat.pow_mul, Nat.testBit_mod_two_pow, Nat.testBit_div_two_pow]
    simp [hi, BitVec.getLsbD, Nat.add_comm]
  have hpop : ∀ k, popB (x.toNat / 256 ^ k % 256) = ((List.range' (8 * k) 8).filter x.getLsbD).length := by
    intro k
    unfold popB
    rw [List.range'_eq_map_range, List.filter_map, List.length_map]
    congr 1
    refine List.filter_congr fun i hi => ?_
    exact hbit k i (List.mem_range.1 hi)
  have hr : List.range 64 = List.range' (8 * 0) 8 ++ (List.range' (8 * 1) 8 ++ (List.range' (8 * 2) 8 ++ (List.range' (8 * 3) 8 ++ (List.range' (8 * 4) 8 ++ (List.range' (8 * 5) 8 ++ (List.range' (8 * 6) 8 ++ List.range' (8 * 7) 8)))))) := by decide +kernel
  unfold popW
  rw [hr]
  simp only [List.filter_append, List.length_append, bytesOf, List.range, List.range.loop, List.map_cons, List.map_nil, List.foldr_cons, List.foldr_nil, hpop]
  omega
theorem popW_le (x : BitVec 64) : popW x ≤ 64 := by
  have := List.length_filter_le x.getLsbD (List.range 64)
  simpa [popW] using this
theorem BS.len_pop (s : BS) : s.len = popW s.w0 + popW s.w1 + popW s.w2 + popW s.w3 := by
  have hb : ∀ k, k < 4 → ((List.range' (64 * k) 64).filter s.has).length = popW (s.word k) := by
    intro k hk
    unfold popW
    rw [List.range'_eq_map_range, List.filter_map, List.length_map]
    congr 1
    refine List.filter_congr fun i hi => ?_
    have := List.mem_range.1 hi
    simp only [Function.comp, BS.has]
    rw [show (64 * k + i) / 64 = k by omega, show (64 * k + i) % 64 = i by omega]
  have hr : List.range 256 = List.range' (64 * 0) 64 ++ (List.range' (64 * 1) 64 ++ (List.range' (64 * 2) 64 ++ List.range' (64 * 3) 64)) := by decide +kernel
  unfold BS.len BS.list
  rw [hr]
  simp only [List.filter_append, List.length_append, hb 0 (by omega), hb 1 (by omega), hb 2 (by omega), hb 3 (by omega)]
  show popW s.w0 + (popW s.w1 + (popW s.w2 + popW s.w3)) = _
  omega
end Go.Proofs.YtakcckdnliiieaaDoor
