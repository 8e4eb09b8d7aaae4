/- quote.Unliteral. -/
import Derived.Test.YtakcckdnliiieaaDoorQ12
import Derived.Test.YtakcckdnliiieaaDoorSet7
import Derived.Test.YtakcckdnliiieaaDoorSet18
namespace Go.Proofs.YtakcckdnliiieaaDoor
open Go Go.RowKit Go.Shelf
attribute [local go_sem] Oper.semAt_some
theorem EscAt.kept {w w' : World} {mb : Nat} {L : List UInt8} {row : Option Nat} (h : EscAt w mb L) (hg : w.grownBy w' row) (hne : some mb ≠ row) : EscAt w' mb L := World.ownsMap.kept h hg hne
theorem EscAt.below {w w' : World} {mb B : Nat} {L : List UInt8} (h : EscAt w mb L) (hb : Below B w w') (hlt : mb < B) : EscAt w' mb L := by
  obtain ⟨es, clock, hbk, r⟩ := h
  exact ⟨es, clock, (hb.block mb hlt).trans hbk, r⟩
theorem RD.kept {g mb bx : Nat} {t L : ByteArray} {en i e B : Nat} {w w' : World} {row : Option Nat} (h : RD g mb bx t L en i e w) (hg : w.grownBy w' row) (hr : ∀ r, row = some r → B ≤ r) (h1 : g < B) (h2 : mb < B) (h3 : bx < B) : RD g mb bx t L en i e w' := by
  have hne : ∀ k, k < B → some k ≠ row := fun k hk e => by have := hr k e.symm; omega
  exact ⟨h.1.grown hg (hne g h1), h.2.1.kept hg (hne mb h2), h.2.2.grown hg (hne bx h3)⟩
theorem RD.own {g mb bx : Nat} {t L : ByteArray} {en B : Nat} {β : Type} (i e : β → Nat) (Pu : β → Prop) (h1 : g < B) (h2 : mb < B) (h3 : bx < B) : OwnFrom B (fun (s : β) w => RD g mb bx t L en (i s) (e s) w ∧ Pu s) :=
  fun _ _ _ _ hs hg hr => ⟨hs.1.kept hg (fun r e => (hr r e).1) h1 h2 h3, hs.2⟩
/-- What was handed out so far are the signs, one behind the other. -/
def Chn (t : ByteArray) (L : List UInt8) (en : Nat) (nx : Nat × Nat → Nat) (i0 e0 : Nat) (pre : List (Nat × Nat)) : Prop :=
  ∀ k (h : k < pre.length), endAt t L en (headAt nx i0 (pre.take k)) (headE e0 (pre.take k)) = none ∧ signP t L (headAt nx i0 (pre.take k)) = (pre[k].1, pre[k].2, 0)
theorem Chn.nil {t : ByteArray} {L : List UInt8} {en : Nat} {nx : Nat × Nat → Nat} {i0 e0 : Nat} : Chn t L en nx i0 e0 [] := fun k h => by simp at h
theorem Chn.snoc {t : ByteArray} {L : List UInt8} {en : Nat} {nx : Nat × Nat → Nat} {i0 e0 : Nat} {pre : List (Nat × Nat)} {x : Nat × Nat} (h : Chn t L en nx i0 e0 pre) (h1 : endAt t L en (headAt nx i0 pre) (headE e0 pre) = none) (h2 : signP t L (headAt nx i0 pre) = (x.1, x.2, 0)) : Chn t L en nx i0 e0 (pre ++ [x]) := by
  intro k hk
  rcases Nat.lt_or_ge k pre.length with hlt | hge
  · rw [List.take_append_of_le_length (by omega), List.getElem_append_left hlt]; exact h k hlt
  · have : k = pre.length := by simp at hk; omega
    subst this
    simp only [List.take_left, List.getElem_append_right (Nat.le_refl _), Nat.sub_self, List.getElem_cons_zero]
    exact ⟨h1, h2⟩
theorem headAt_cons (nx : Nat × Nat → Nat) (i0 : Nat) (x : Nat × Nat) (q : List (Nat × Nat)) : headAt nx i0 (x :: q) = headAt nx (nx x) q := by
  unfold headAt
  cases q with
  | nil => simp
  | cons y q =>
    rw [List.getLast?_cons_cons]
    cases h : (y :: q).getLast? with
    | none => simp at h
    | some z => rfl
theorem headE_cons (e0 : Nat) (x : Nat × Nat) (q : List (Nat × Nat)) : headE e0 (x :: q) = headE 0 q := by
  unfold headE
  simp
theorem Chn.tail {t : ByteArray} {L : List UInt8} {en : Nat} {nx : Nat × Nat → Nat} {i0 e0 : Nat} {x : Nat × Nat} {q : List (Nat × Nat)} (h : Chn t L en nx i0 e0 (x :: q)) : Chn t L en nx (nx x) 0 q := by
  intro k hk
  have := h (k + 1) (by simp; omega)
  simpa [headAt_cons, headE_cons] using this
/-- All signs up to the end: the bytes, and how the reader stands then. -/
def sigs (t : ByteArray) (L : List UInt8) (en : Nat) : Nat → Nat → Nat → List UInt8 × Nat × Nat
  | 0, i, e => ([], i, e)
  | f + 1, i, e => match endAt t L en i e with
    | some r => ([], r)
    | none => ((UInt8.ofNat (signP t L i).1) :: (sigs t L en f (signP t L i).2.1 0).1, (sigs t L en f (signP t L i).2.1 0).2)
theorem sigs_chn {t : ByteArray} {L : List UInt8} {en : Nat} {i e : Nat} : ∀ (pre : List (Nat × Nat)) (f i0 e0 : Nat), Chn t L en (fun x => x.2) i0 e0 pre → pre.length < f → endAt t L en (headAt (fun x => x.2) i0 pre) (headE e0 pre) = some (i, e) → sigs t L en f i0 e0 = (pre.map (fun x => UInt8.ofNat x.1), i, e)
  | [], f + 1, i0, e0, _, _, h => by
    have h' : endAt t L en i0 e0 = some (i, e) := h
    unfold sigs; rw [h']; rfl
  | x :: q, f + 1, i0, e0, hc, hf, h => by
    have h0 := hc 0 (by simp)
    have h1 : endAt t L en i0 e0 = none := h0.1
    have h2 : signP t L i0 = (x.1, x.2, 0) := h0.2
    have ih := sigs_chn q f x.2 0 hc.tail (by simp at hf; omega) (by rw [headAt_cons, headE_cons] at h; exact h)
    unfold sigs
    rw [h1]
    simp only [h2, ih, List.map_cons]
theorem endAt_le {t : ByteArray} {L : List UInt8} {en i e j e' : Nat} (h : endAt t L en i e = some (j, e')) (hi : i ≤ t.size) : j ≤ t.size := by
  unfold endAt at h
  split at h
  · injection h with h; injection h with h1 h2; omega
  · split at h
    · injection h with h; injection h with h1 h2; omega
    · split at h
      · cases h
      · injection h with h
        have := (@signP_le t L i hi).1
        rw [h] at this; exact this
theorem chn_le {t : ByteArray} {L : List UInt8} {en : Nat} : ∀ (pre : List (Nat × Nat)) (i0 e0 : Nat), Chn t L en (fun x => x.2) i0 e0 pre → i0 ≤ t.size → headAt (fun x => x.2) i0 pre ≤ t.size
  | [], i0, _, _, h => h
  | x :: q, i0, e0, hc, h => by
    rw [headAt_cons]
    have h2 : signP t L i0 = (x.1, x.2, 0) := (hc 0 (by simp)).2
    have := (@signP_le t L i0 h).1
    rw [h2] at this
    exact chn_le q x.2 0 hc.tail this
/-- What a literal's text is read as: the bytes, the length, the error. -/
def unlitP (t : ByteArray) : List UInt8 × Nat × Nat :=
  let b := beginP t 34
  let r := sigs t [34] 34 (t.size + 1) b.1 b.2
  if r.2.2 ≠ 0 then ([], r.2.1, r.2.2) else if 255 < r.1.length then ([], 0, 40) else (r.1, r.2.1 + 1, 0)
set_option maxRecDepth 100000 in
set_option maxHeartbeats 2000000 in
theorem unliteral_any {t : ByteArray} {w : World} (ht : t.size ≤ 1000000) :
    Calls Tryd.prog 54 #[.string t] w (Ret (.tuple #[strV (unlitP t).1, .int .i64 ((unlitP t).2.1 : Int), .int .i64 ((unlitP t).2.2 : Int)]) w) := by
  obtain ⟨r, hr⟩ : ∃ r, r = unlitP t := ⟨_, rfl⟩
  rw [← hr]
  have HRR := Lib.hid hr
  clear hr
  refine (callsIn_wide (n := 3)).1 ?_
  obtain ⟨i0, hi, hz0, hz1, hz2⟩ := info_parts Tryd.info5
  refine callsIn_of_wp_marks Tryd.func54 rfl trivial ?_ rfl
  simp only [Tryd.ntmps54, List.size_toArray, List.length_cons, List.length_nil, Nat.reduceAdd, Nat.reduceSub, Array.replicate_succ, Array.replicate_zero, List.push_toArray, List.append_toArray, List.nil_append, List.cons_append]
  have k1 := @begin_any t ⟨#[34]⟩ 34 34 w (by omega) (by show 1 ≤ _; omega) (by omega) (by omega)
  gi_wp2_with (first | (refine ⟨trivial, ?_⟩; gi_at_call 67; refine (callsIn_wide.2 k1).mono ?_; rintro x w1 ⟨g, mb, rfl, hmb, hmg, hB1, hE1, hb1⟩) | (refine ⟨trivial, ?_⟩; gi_at_call 69; refine (callsIn_wide.2 (signs_any _ _)).mono ?_; rintro x w2 ⟨rfl, rfl⟩))
  have hs1 := hB1.lt
  obtain ⟨bp, hbp⟩ : ∃ bp, bp = beginP t 34 := ⟨_, rfl⟩
  rw [← hbp] at hB1
  obtain ⟨W0, hW0⟩ : ∃ W0, (w1.alloc (.cells #[.slice none 0 0] 41)).alloc (.cells #[.pointer (some ⟨g, 0, none⟩)] 80) = W0 := ⟨_, rfl⟩
  obtain ⟨bl, hbl⟩ : ∃ bl, bl = w1.heap.size := ⟨_, rfl⟩
  have hv0 : Boxed W0 bl 41 (.slice none 0 0) := by rw [← hW0, hbl]; exact (Boxed.new w1 41 _).alloc _
  have hx0 : Blk W0 (bl + 1) 80 #[.pointer (some ⟨g, 0, none⟩)] := by rw [← hW0, hbl]; have := Blk.new (w1.alloc (.cells #[.slice none 0 0] 41)) 80 #[.pointer (some ⟨g, 0, none⟩)]; rwa [World.size_alloc] at this
  have hR0 : RD g mb (bl + 1) t ⟨#[34]⟩ 34 bp.1 bp.2 W0 := ⟨by rw [← hW0]; exact (hB1.alloc _).alloc _, by rw [← hW0]; exact World.ownsMap.alloc (World.ownsMap.alloc hE1 _) _, hx0⟩
  have hb0 : Below w.heap.size w W0 := by rw [← hW0]; exact (hb1.alloc hb1.size _).alloc (by have := hb1.size; simp; omega) _
  have hsz0 : W0.heap.size = bl + 2 := by rw [← hW0, hbl]; simp
  have hg1 : g < bl := by omega
  have hwl : w.heap.size ≤ bl := by rw [hbl]; exact hb1.size
  rw [← hbl, hW0]
  clear hW0 hbl hB1 hE1 hb1 hs1 k1 hx0
  have hbpl : bp.1 ≤ t.size ∧ bp.1 ≤ 1 := by rw [hbp]; unfold beginP; split <;> (try split) <;> simp <;> (try omega); rename_i b hb _; exact (byteAt_256 hb).2
  have HBP := Lib.hid hbp
  clear hbp
  refine wpIn_rangeFunc_rd (gr := g) rfl (by omega) (gf := 82) (lb := #[.pointer (some ⟨bl + 1, 0, none⟩)]) rfl trivial (enters_of Tryd.func82 (by kernel_rfl) rfl) (by omega)
    (signs_seq 2 (by omega) (fun x => x.2) (mb := mb) (bx := bl + 1) (en := 34) (i0 := bp.1) (e0 := bp.2) (t := t) (L := ⟨#[34]⟩) (by omega) (by show 1 ≤ _; omega) (by omega) (by omega) (by omega) (fun x _ => Nat.le_refl _)) (fun _ => rfl)
    (fun pre W => (∃ v, Boxed W bl 41 v ∧ W.ownsRow bl 5 1 v pre.length (pre.map fun x => nb x.1) ∧ Chn t [34] 34 (fun x => x.2) bp.1 bp.2 pre) ∧ Below w.heap.size w W)
    (fun _ _ _ => False)
    (OwnFrom.and (Own.from (holdsRow_own bl bl 41 5 1 (fun pre : List (Nat × Nat) => pre.length) (fun pre => pre.map fun x => nb x.1) (fun pre _ => Chn t [34] 34 (fun x => x.2) bp.1 bp.2 pre)) _) (ownFrom_below (Nat.le_refl _) (by omega)))
    (fun s A B hs hg' => ⟨by obtain ⟨v, h1, h2, h3⟩ := hs.1; exact ⟨v, h1.kept hg' (by simp; omega), ownsRow_grown h2 hg' hg1, h3⟩, below_grown hs.2 hg' (by omega) hs.2.size⟩)
    (fun _ _ _ _ _ hs _ _ => hs) ?hR ?hR1 ?hE ⟨⟨_, hv0, World.ownsRow_nil _ _ _ _, Chn.nil⟩, hb0⟩ ?hR0
    (fun x => { tmps := #[Value.string t, undef, Value.string { data := #[] }, Value.int IntKind.i64 0, Value.int IntKind.i64 0,
          Value.pointer (some { block := g, off := 0 }), Value.pointer (some { block := bl, off := 0 }),
          nb x.1, Value.string t, Value.pointer (some { block := g, off := 0 }),
          Value.pointer (some { block := g, off := 0 }),
          Value.func (Fn.func 82) #[] #[Value.pointer (some { block := bl + 1, off := 0 })], nb x.1, undef,
          undef, undef, undef, undef, undef, undef, undef, undef, undef, undef, undef, undef, undef, undef, undef,
          undef, undef, undef, undef, undef, undef, undef, undef, undef, undef, undef, undef, undef], defers := [] }) ?assign ?body ?done ?stop
  case assign =>
    intro l x W K hK
    gi_wp2
    exact hK
  case stop =>
    rintro D c pre W _ h _
    exact h.elim
  case hR0 => exact ⟨by simpa [headAt, headE] using hR0, by simpa [headAt] using hbpl.1, by simp⟩
  case hR => exact RD.own (fun pre => headAt (fun x => x.2) bp.1 pre) (fun pre => headE bp.2 pre) (fun pre => headAt (fun x => x.2) bp.1 pre ≤ t.size ∧ pre.length ≤ headAt (fun x => x.2) bp.1 pre) (by omega) (by omega) (by omega)
  case hR1 => exact RD.own (fun p : List (Nat × Nat) × (Nat × Nat) => p.2.2) (fun _ => 0) (fun p => endAt t [34] 34 (headAt (fun x => x.2) bp.1 p.1) (headE bp.2 p.1) = none ∧ signP t [34] (headAt (fun x => x.2) bp.1 p.1) = (p.2.1, p.2.2, 0) ∧ p.2.2 ≤ t.size ∧ p.1.length < p.2.2) (by omega) (by omega) (by omega)
  case hE =>
    rintro s A B row ⟨i, e, h1, h2, h3⟩ hg' hr
    exact ⟨i, e, h1, h2.kept hg' (fun r e => (hr r e).1) (by omega) (by omega) (by omega), h3⟩
  case body =>
    rintro l pre x W ⟨⟨v, hv, hrow, hch⟩, hB⟩ ⟨hRD, hend, hsg, hle, hpl⟩
    have HCH := Lib.hid (hch.snoc hend hsg)
    have HEN := Lib.hid hend
    clear hch hend hsg
    have hc := hv.cell
    dsimp only [nb]
    gi_wp2_with (gi_at_builtin; refine wpListIn_append_own _ rfl _ _ 41 rfl bl 5 i0 (.int .u8 0) 1 1 Tryd.underlying41 hi hz0 hz1 hz2 rfl (by decide) _ _ _ rfl (hrow.alloc _) ⟨W.heap.size, 0, none⟩ 1 1 [nb x.1] rfl rfl (cell_one_new _ _ _) (by simp [Value.oneCell', nb]) (by unfold maxLen; omega) (by omega) (by have := hv.lt; simp; omega) ?_; intro v' w1' hown' hgrow _; obtain ⟨g', cap', rfl⟩ := ownsRow_succ hown'; obtain ⟨hv1, hv2, hr2, hk2, hb2⟩ := hv.appended (by decide) hrow (Nat.le_of_lt hv.lt) (Nat.le_refl _) hown' hgrow; have hc1 := hv1.cell; have hf1 := hv1.frozen)
    have hbx : Boxed W (bl + 1) 80 (.pointer (some ⟨g, 0, none⟩)) := hRD.2.2
    have hbx2 := (((hbx.alloc _).kept hgrow (hbx.not_row (by decide) hrow)).other (B' := bl) (by omega) (.slice (some ⟨g', 0, none⟩) (pre.length + 1) cap'))
    refine ⟨hk2.from _, trivial, ⟨⟨_, hv2, by simpa [nb] using hr2, HCH.out⟩, hB.trans (hb2.mono hwl)⟩, ?_, ?_, ?_⟩
    · rw [headAt_snoc, headE_snoc]
      exact ⟨hRD.1.below hb2 hg1, hRD.2.1.below hb2 (by omega), hbx2⟩
    · rw [headAt_snoc]; exact hle
    · rw [headAt_snoc, List.length_append]; simp; omega
  case done =>
    rintro D pre W hD ⟨⟨v, hv, hrow, hch⟩, hB⟩ ⟨i, e, hend, hRD, hpl⟩ hK
    have hile : i ≤ t.size := endAt_le hend (chn_le pre _ _ hch hbpl.1)
    have hsig := sigs_chn pre (t.size + 1) bp.1 bp.2 hch (by omega) hend
    have hu : unlitP t = if e ≠ 0 then ([], i, e) else if 255 < pre.length then ([], 0, 40) else (pre.map (fun x => UInt8.ofNat x.1), i + 1, 0) := by
      unfold unlitP
      rw [← HBP.out]
      simp only [hsig, List.length_map]
    have HU := Lib.hid hu
    clear hu hsig hend hch HBP
    have hl1 := hRD.1.lt
    have c4 : W.cell? ⟨g, 4, none⟩ = some (.int .i64 (i : Int)) := hRD.1.cell 4
    have c5 : W.cell? ⟨g, 5, none⟩ = some (.int .i64 (e : Int)) := hRD.1.cell 5
    have hDl := (Array.getElem?_eq_some_iff.1 hK).1
    by_cases he : e = 0
    case neg =>
      obtain rfl : r = ([], i, e) := by rw [HRR.out, HU.out, if_pos he]
      clear HRR HU
      have d1 : ((e : Int) != 0) = true := by simp; omega
      clear he hv hrow
      gi_wp2
      refine wpIn_wide.2 ?_
      (refine wp_region_quiet_all (C := Lies _) (by kernel_rfl) (by kernel_rfl) (Lies.drew (Lies.start _)) ?_; (repeat (first | (refine quiet_skip rfl ?_; simp only [Act.put, List.setIfInBounds_toArray, List.set_cons_zero, List.set_cons_succ]) | (apply quiet_op _ rfl; (focus (intro w1 hw1; have hc1 := hw1.cells; go_simp; (try go_bits); (try (rw [if_pos (by omega)]; go_simp)); first | rfl)); simp only [Act.put, List.setIfInBounds_toArray, List.set_cons_zero, List.set_cons_succ]))); refine wpQuiet_nil ?_; intro w2 hw2)
      have hK2 : w2.heap[D]? = some (.deferred (some [])) := (hw2.block D hDl).trans hK
      gi_wp2
      refine ⟨by simp, .inl ⟨_, _, rfl, run_takeDeferred hK2, ?_⟩⟩
      exact ⟨.tuple #[.string ⟨#[]⟩, .int .i64 (i : Int), .int .i64 (e : Int)], by simp [results, Tryd.results54, go_sem], rfl, (Lies.below hw2 hB.size hB).trans (belowK_b (w := w) (Nat.le_refl _) w2 D _ _ (by omega) hK2 rfl rfl)⟩
    subst he
    have c5' : W.cell? ⟨g, 5, none⟩ = some (.int .i64 0) := c5
    clear c5
    have hc := hv.cell
    have hlb := hv.lt
    obtain ⟨va, vc, rfl⟩ : ∃ a c, v = .slice a pre.length c := by
      rcases hrow.2 with ⟨h1, h2⟩ | ⟨g2, cap, cur, h1, _⟩
      · exact ⟨_, _, by rw [h1, h2]⟩
      · exact ⟨_, _, h1⟩
    by_cases hlen : 255 < pre.length
    · obtain rfl : r = ([], 0, 40) := by rw [HRR.out, HU.out, if_neg (by omega), if_pos hlen]
      clear HRR HU
      have d2 : decide (255 < (pre.length : Int)) = true := decide_eq_true (by omega)
      clear hlen
      gi_wp2
      refine ⟨by simp, .inl ⟨_, _, rfl, run_takeDeferred hK, ?_⟩⟩
      exact ⟨.tuple #[.string ⟨#[]⟩, .int .i64 0, .int .i64 40], by simp [results, Tryd.results54, go_sem], rfl, hB.trans (belowK_b (w := w) (Nat.le_refl _) W D _ _ (by omega) hK rfl rfl)⟩
    obtain rfl : r = (pre.map (fun x => UInt8.ofNat x.1), i + 1, 0) := by rw [HRR.out, HU.out, if_neg (by omega), if_neg hlen]
    clear HRR HU
    have d2 : decide (255 < (pre.length : Int)) = false := decide_eq_false (by omega)
    have hrow' : ∀ w', Lies W w' → w'.ownsRow bl 5 1 (.slice va pre.length vc) pre.length ((pre.map (fun x => x.1)).map nb) := fun w' h => by rw [List.map_map]; exact ownsRow_lies hrow h
    have hcv : ∀ w', Lies W w' → (convert 41 9 (.slice va pre.length vc)).run Tryd.prog w' = .ok (.string ⟨((pre.map (fun x => x.1)).map UInt8.ofNat).toArray⟩) w' := fun w' h => run_convert_own (P := Tryd.prog) (pre.map (fun x => x.1)) Tryd.underlying41 Tryd.underlying5 Tryd.underlying9 (hrow' w' h)
    clear hlen hrow hrow'
    gi_wp2
    refine wpIn_wide.2 ?_
    (refine wp_region_quiet_all (C := Lies _) (by kernel_rfl) (by kernel_rfl) (Lies.drew (Lies.start _)) ?_; (repeat (first | (refine quiet_skip rfl ?_; simp only [Act.put, List.setIfInBounds_toArray, List.set_cons_zero, List.set_cons_succ]) | (apply quiet_op _ rfl; (focus (intro w1 hw1; have hc1 := hw1.cells; go_simp; (try go_bits); (try (rw [if_pos (by omega)]; go_simp)); first | (rw [hcv w1 hw1]; exact ⟨rfl, rfl⟩) | rfl)); simp only [Act.put, List.setIfInBounds_toArray, List.set_cons_zero, List.set_cons_succ]))); refine wpQuiet_nil ?_; intro w2 hw2)
    have hK2 : w2.heap[D]? = some (.deferred (some [])) := (hw2.block D hDl).trans hK
    gi_wp2
    refine ⟨by simp, .inl ⟨_, _, rfl, run_takeDeferred hK2, ?_⟩⟩
    exact ⟨.tuple #[.string ⟨((pre.map (fun x => x.1)).map UInt8.ofNat).toArray⟩, .int .i64 ((i : Int) + 1), .int .i64 0], by simp [results, Tryd.results54, go_sem], by rw [List.map_map]; rfl, (Lies.below hw2 hB.size hB).trans (belowK_b (w := w) (Nat.le_refl _) w2 D _ _ (by omega) hK2 rfl rfl)⟩
end Go.Proofs.YtakcckdnliiieaaDoor
