/- log.Segments walked. -/
import Derived.Test.YtbgmjlonbbmffaaDoorL22
namespace Go.Proofs.YtbgmjlonbbmffaaDoor
open Go Go.RowKit
attribute [local go_sem] Oper.quietAt Oper.quietUpon Oper.loudAt Oper.loudUpon
theorem row_one {W : World} {base : Nat} {e : TypeId} {v : Value} {n : Nat} {xs : List Value} (h : W.ownsRow base e 1 v n xs) (hv : v ≠ .slice none 0 0) : ∃ A cu, v = .slice (some ⟨A, 0, none⟩) n cu := by
  rcases h.2 with ⟨h, _⟩ | ⟨g, cap, cur, h, _⟩
  · exact absurd h hv
  · exact ⟨g, cap, h⟩
/-- What Segments leaves. -/
def SegsRet (l : List (List StepD)) (w : World) (x : Ending) (w' : World) : Prop :=
  ∃ (v : Value) (F : Nat → Prop), x = .returned v ∧ SegsAt w' F v l ∧ (∀ b, F b → w.heap.size ≤ b ∧ b < w'.heap.size ∧ Free w' b) ∧ Lies w w'
set_option maxRecDepth 100000 in
set_option maxHeartbeats 1500000 in
theorem segments_any {w : World} {F : Nat → Prop} {v : Value} {l : List ItemD} (hI : ItemsAt w F v l) (hF : ∀ b, F b → b < w.heap.size) (hw : wt l < 20000) :
    Calls Tryd.prog 12 #[v] w (SegsRet (segP l) w) := by
  obtain ⟨r, hr⟩ : ∃ r, r = segP l := ⟨_, rfl⟩
  rw [← hr]
  obtain ⟨oa, cap, hv⟩ := hI.slice
  have hml : l.length < 20000 := Nat.lt_of_le_of_lt (wt_len l) hw
  have HPA := Lib.hid (wt_path l hw)
  have HI := Lib.hid hI
  have HR := Lib.hid hr
  have HF := Lib.hid hF
  clear hI hr hF hw
  subst hv
  go_enter Tryd.func12, Tryd.ntmps12
  go_wp2_with fail
  go_loopw [3, 9] (fun u j wr => ∃ (k : Nat) (vs : List Value) (pss : List (List (StepD × Value))), j = .int .i64 (k : Int) ∧ k ≤ l.length ∧ vs.length ≤ k ∧ (vs = [] → u = .slice none 0 0) ∧ Hid (pss.map (·.map (·.1)) = segP (l.take k)) ∧ Hid (∀ ps ∈ pss, ps.length ≤ k) ∧ Hid (SegMem w.heap.size wr u vs pss) ∧ Hid (Lies w wr)) (fun _ j _ => l.length - (intOf j).toNat)
  case atStart => exact ⟨0, [], [], rfl, Nat.zero_le _, Nat.le_refl _, fun _ => rfl, Lib.hid rfl, Lib.hid (by simp), Lib.hid ⟨rfl, World.ownsRow_nil _ _ _ _, by simp, by simp⟩, Lib.hid (Lies.start w)⟩
  case round =>
    obtain ⟨k, vs, pss, rfl, hk, hvk, hnil, hst, hpz, hmem, hl⟩ := hrel
    by_cases hlt : k < l.length
    case neg =>
      obtain rfl : k = l.length := by omega
      have d1 : decide (l.length < l.length) = false := decide_eq_false hlt
      have hfin := hst.out
      rw [List.take_length, ← HR.out] at hfin
      go_wp2
      go_ret
      refine ⟨_, fun b => w.heap.size ≤ b ∧ b < wr.heap.size ∧ Free wr b, rfl, ?_, fun b hb => hb, hl.out⟩
      rw [← hfin]
      exact segs_of_mem hmem.out (by omega) (fun ps hps => by have := hpz.out ps hps; omega)
    have d1 : decide (k < l.length) = true := decide_eq_true hlt
    obtain ⟨b, off, cap', pv, hv, hFb, hb, hp, hx, c0, c1, c2, c3, c4, c5⟩ := (HI.out.lies hl.out).cell hlt
    obtain ⟨oa2, cap2, hpv⟩ := hp.slice
    injection hv with e1 e2 e3
    subst e1 hpv
    clear e2 e3
    have hpl := HPA.out _ (List.getElem_mem hlt)
    have hst2 : segP (l.take (k + 1)) = segStep (segP (l.take k)) l[k] := by rw [List.take_succ_eq_append_getElem hlt, segP_snoc]
    generalize l[k] = x at *
    obtain ⟨m, ⟨a6, b6, c6, l6, z6⟩⟩ := x
    simp only at hp c0 c1 c2 c3 c4 c5 hpl
    rw [← hst.out] at hst2
    have HST := Lib.hid hst2
    clear hst2 hst
    go_upto_region 5 with (fail)
    obtain ⟨W1, hW1⟩ : ∃ W1, wr.alloc (.cells #[.bool m, .int .u8 (a6 : Int), .int .u8 (b6 : Int), .int .i64 c6, .slice oa2 l6.length cap2, .int .i64 z6] 37) = W1 := ⟨_, rfl⟩
    obtain ⟨X, hX0⟩ : ∃ X, wr.heap.size = X := ⟨_, rfl⟩
    have hX : Blk W1 X 37 #[.bool m, .int .u8 (a6 : Int), .int .u8 (b6 : Int), .int .i64 c6, .slice oa2 l6.length cap2, .int .i64 z6] := by rw [← hW1, ← hX0]; exact Blk.new wr 37 _
    have hl01 : Lies wr W1 := by rw [← hW1]; exact (Lies.start wr).alloc (Nat.le_refl _) _
    rw [hW1]
    try simp only [hX0]
    have hl1 := hl.out.tr' hl01
    have hM1 := hmem.out.lies hl01
    have hp1 := hp.lies hl01
    clear hW1 hX0 hl01 hmem hp c0 c1 c2 c3 c4 c5 hl
    cases m
    case true =>
      obtain ⟨ou, mu, cu, hu⟩ := row_slice hM1.2.1
      subst hu
      have hcX := hX.cell
      have hlX := hX.lt
      have HM1 := Lib.hid hM1
      have HL1 := Lib.hid hl1
      have hXu : ∀ b, (Value.slice ou mu cu).ownBlock = some b → X ≠ b := fun b e => (Typ.ne ⟨_, hX⟩ (row_typ hM1.2.1 b e) (by decide))
      clear hM1 hl1 hp1
      go_wp2_with (first | (at_builtin; refine wpList_push3 rfl _ _ 38 rfl w.heap.size 32 (.slice none 0 0) 1 24 Tryd.underlying38 Tryd.info32' rfl (by decide) _ _ _ rfl HM1.out.2.1 [.slice none 0 0] rfl rfl (by intro y hy; simp at hy; subst hy; rfl) (by omega) (by omega) HL1.out.size ?_; intro u1 W3 hown3 hg3 hnil3 hf3; have hX3 := hX.grown hg3 (fun e => hXu X e.symm rfl); clear hcX hlX; have hcX := hX3.cell; have hlX := hX3.lt) | go_in)
      go_roundw
      case measure => simp [intOf]; omega
      case rel =>
        refine ⟨k + 1, vs ++ [.slice none 0 0], pss ++ [[]], by go_num, by omega, by simp; omega, by simp, Lib.hid ?_, Lib.hid (fun qs hq => ?_), Lib.hid (HM1.out.nil hown3 hg3), Lib.hid (HL1.out.grown hg3 HL1.out.size (fun b e => (HM1.out.2.1.lt b e).1))⟩
        · rw [HST.out]; simp [segStep]
        · rcases List.mem_append.1 hq with h | h
          · have := hpz.out qs h; omega
          · simp at h; subst h; simp
    rcases List.eq_nil_or_concat vs with rfl | ⟨vi, vl, rfl⟩
    · obtain rfl : pss = [] := List.eq_nil_of_length_eq_zero (by have := hM1.1; simpa using this.symm)
      obtain rfl := hnil rfl
      have hcX := hX.cell
      have hlX := hX.lt
      have HM1 := Lib.hid hM1
      have HL1 := Lib.hid hl1
      have HP1 := Lib.hid hp1
      clear hM1 hl1 hp1
      go_upto_region 7 with (first | (at_builtin; refine wpList_push3 rfl _ _ 38 rfl w.heap.size 32 (.slice none 0 0) 1 24 Tryd.underlying38 Tryd.info32' rfl (by decide) _ _ _ rfl HM1.out.2.1 [.slice none 0 0] rfl rfl (by intro y hy; simp at hy; subst hy; rfl) (by simp) (by simp) HL1.out.size ?_; intro u1 Wc hown0 hg0' hnil0 hf0; have hg0 : W1.grownBy Wc none := hg0'; have hX3 := hX.grown hg0 (by simp); clear hcX hlX; obtain ⟨A, cu, hu1⟩ := row_one hown0 hnil0; subst hu1) | go_in)
      have hM : SegMem w.heap.size Wc (.slice (some ⟨A, 0, none⟩) (0 + 1) cu) ([] ++ [.slice none 0 0]) ([] ++ [[]]) := HM1.out.nil hown0 hg0
      have hlc : Lies w Wc := HL1.out.grown hg0 HL1.out.size (fun b e => by cases e)
      have hpc : IntsAt Wc F (.slice oa2 l6.length cap2) l6 := HP1.out.kept hg0 (fun b e => by cases e)
      clear HM1 HL1 HP1 hX hown0 hg0 hg0' hnil0 hf0
      have hX := hX3
      clear hX3
      have hcX := hX.cell
      have hlX := hX.lt
      have hvl := hM.2.2.1 0 (.slice none 0 0) [] rfl rfl
      have hArow := hM.2.1
      have hAt : Typ Wc 32 A := row_typ hArow A rfl
      have hAl := hAt.lt
      have cA : Wc.cell? ⟨A, 0, none⟩ = some (Value.slice none 0 0) := by
        have := hArow.cells (g := A) rfl 0 (.slice none 0 0) rfl
        rwa [show (⟨A, 0, none⟩ : Addr).add 0 = ⟨A, 0, none⟩ by unfold Addr.add; split <;> simp_all] at this
      obtain ⟨cur, hA⟩ := hAt
      have hA' : Blk Wc A 32 cur := hA
      obtain ⟨k0, hk0⟩ : ∃ k0, ((Value.slice none 0 0).ownBlock = some k0 ∨ ((Value.slice none 0 0).ownBlock = none ∧ k0 = Wc.heap.size)) := by
        cases hvo : (Value.slice none 0 0).ownBlock with
        | none => exact ⟨Wc.heap.size, .inr ⟨rfl, rfl⟩⟩
        | some b => exact ⟨b, .inl rfl⟩
      have hXt : Typ Wc 37 X := ⟨_, hX⟩
      have hne : A ≠ k0 ∧ X ≠ k0 := by
        rcases hk0 with h | ⟨_, h⟩
        · simp [Value.ownBlock] at h
        · omega
      obtain ⟨hneA, hneX⟩ := hne
      have hkv : (Value.slice none 0 0).ownBlock = some k0 ∨ (Value.slice none 0 0).ownBlock = none := hk0.imp id (fun h => h.1)
      have hvA : (Value.slice none 0 0).ownBlock ≠ some A := fun e => (row_typ hvl.1 A e).ne ⟨cur, hA⟩ (by decide) rfl
      have k29 := own_any (w := Wc.drew) (s := ⟨a6, b6, c6, l6, z6⟩) (F := F) (hpc.lies (Lies.start Wc).drew) (by simp only; omega) (fun b hb => Nat.lt_of_lt_of_le (HF.out b hb) hlc.size)
      unfold OwnRet at k29
      simp only at k29
      have HM := Lib.hid hM
      have HLc := Lib.hid hlc
      have HVL := Lib.hid hvl.1
      have HK := Lib.hid hkv
      have HHA := Lib.hid hA'
      have HAB := Lib.hid ((hArow.lt A rfl).1)
      clear hM hlc hvl hArow hA hA' hk0 hXt hpc hkv
      go_upto_region 9 with (fail)
      (refine wp_region_lay_tail (id := 9) (I := Grw Wc k0) [(true, 0), (true, 1), (true, 2), (true, 3), (true, 4), (true, 5), (true, 6), (true, 7), (false, 8), (false, 9), (false, 10)] 11 (by kernel_rfl) (by kernel_rfl) (Grw.start Wc k0).drew ?_; simp only [layOps, List.filterMap_cons, List.filterMap_nil, List.getElem?_cons_succ, List.getElem?_cons_zero, Option.map_some, List.append_eq, List.cons_append, List.nil_append, List.drop_succ_cons, List.drop_zero]; (repeat (first | (have hX_ : True := trivial; refine i_skip ?_ ?_; (focus exact wanted_no rfl rfl rfl); clear hX_; simp only [Act.put, List.setIfInBounds_toArray, List.set_cons_zero, List.set_cons_succ]) | (apply i_free _ rfl; (focus (intro C1 hs1 w1 hw0; have hw1 := hs1 _ hw0; have hc1 := hw1.cells; go_simp; (try go_bits); (try (rw [if_pos (by omega)]; go_simp)); first | rfl)); simp only [Act.put, List.setIfInBounds_toArray, List.set_cons_zero, List.set_cons_succ]) | (refine i_loud rfl ?_; intro K hK; refine loud_push (.tmp 34) (.tmp 38) 32 rfl w.heap.size 35 (.agg zs5) 5 48 Tryd.underlying32 Tryd.info35' rfl (by decide) _ _ _ rfl hrow2 [.int .u8 (a6 : Int), .int .u8 (b6 : Int), .int .i64 c6, .slice oa3 l6.length cp3, .int .i64 z6] rfl rfl (by intro y hy; simp at hy; rcases hy with rfl | rfl | rfl | rfl | rfl <;> rfl) (by omega) (by omega) (Nat.le_trans HLc.out.size hl2.size) ?_; intro vl1 w3 hown3 hg3 hnil3 hf3; obtain ⟨ov, mv, cv, hvl1⟩ := row_slice hown3; subst hvl1; refine ⟨grw_of hl2 hg3 HK.out, ?_⟩; (try simp only [Act.put, List.setIfInBounds_toArray, List.set_cons_zero, List.set_cons_succ]); apply hK) | (refine i_loud rfl ?_; intro K hK; go_simp; go_at_call 29; refine k29.mono ?_; rintro e w2 ⟨pv2, rfl, hp2, hl2'⟩; obtain ⟨oa3, cp3, hpv2⟩ := hp2.slice; subst hpv2; have hl2 : Lies Wc w2 := (Lies.start Wc).drew.tr' hl2'; have hrow2 := ownsRow_lies' HVL.out hl2; refine ⟨_, rfl, grown_lies hl2 _, ?_⟩; (try simp only [Act.put, List.setIfInBounds_toArray, List.set_cons_zero, List.set_cons_succ]); apply hK) | (refine i_loud rfl ?_; intro K hK; go_simp; refine ⟨grown_lies (hl2.tr' ((Lies.start w2).alloc (Nat.le_refl _) _)) _, ?_⟩; (try simp only [Act.put, List.setIfInBounds_toArray, List.set_cons_zero, List.set_cons_succ]); apply hK))); refine i_nil ?_)
      have hA3 : Blk w3 A 32 cur := (HHA.out.lies hl2).grown hg3 (fun e => hvA e.symm)
      have hcA3 : w3.cell? ⟨A, 0, none⟩ = some (Value.slice none 0 0) := by rw [hA3.cell, ← HHA.out.cell]; exact cA
      have hfA3 := hA3.free 0
      have hlA3 := hA3.lt
      have HM3 := HM.out.step (p := (⟨a6, b6, c6, l6, z6⟩, .slice oa3 l6.length cp3)) rfl hl2 hown3 hg3 hf3 (hp2.mono (fun b hb => ⟨by have := HLc.out.size; simp at hb; omega, hb.2.2⟩))
      go_wp2
      go_roundw
      case measure => simp [intOf]; omega
      case rel =>
        refine ⟨k + 1, [] ++ [.slice ov mv cv], [] ++ [[] ++ [(⟨a6, b6, c6, l6, z6⟩, .slice oa3 l6.length cp3)]], by go_num, by omega, by simp, by simp, Lib.hid ?_, Lib.hid (fun qs hq => ?_), Lib.hid HM3, Lib.hid ?_⟩
        · rw [HST.out]; simp [segStep]
        · rcases List.mem_append.1 hq with h | h
          · simp at h
          · simp at h; subst h; simp
        · have h3 : Lies w w3 := (HLc.out.tr' hl2).grown hg3 (HLc.out.tr' hl2).size (fun b e => (hrow2.lt b e).1)
          exact h3.grown (grownBy_setCell w3 A _ _) h3.size (fun b e => by injection e with e; subst e; exact HAB.out)
    · rw [List.concat_eq_append] at *
      obtain ⟨pi, ps, rfl⟩ : ∃ pi ps, pss = pi ++ [ps] := by
        rcases List.eq_nil_or_concat pss with rfl | ⟨pi, ps, rfl⟩
        · have := hM1.1; simp at this
        · exact ⟨pi, ps, by rw [List.concat_eq_append]⟩
      have hpsz : ps.length ≤ k := hpz.out ps (by simp)
      obtain ⟨A, cu, hu⟩ : ∃ A cu, u3 = .slice (some ⟨A, 0, none⟩) (vi.length + 1) cu := by
        rcases hM1.2.1.2 with ⟨_, h⟩ | ⟨g, cap, cur, h, _⟩
        · simp at h
        · exact ⟨g, cap, by rw [h]; simp⟩
      subst hu
      have hM := hM1
      have hlc := hl1
      have hpc := hp1
      obtain ⟨Wc, hWc⟩ : ∃ Wc, W1 = Wc := ⟨_, rfl⟩
      rw [hWc] at hM hlc hpc hX ⊢
      clear hWc hM1 hl1 hp1
      have hvn : vi.length < 20000 := by simp at hvk; omega
      have e5 : ((vi.length : Int) + 1 == 0) = false := by simp; omega
      have hcX := hX.cell
      have hlX := hX.lt
      have hvl := hM.2.2.1 vi.length vl ps (by simp) (by have := hM.1; simp at this; rw [List.getElem?_append_right (by omega)]; simp [this])
      have hArow := hM.2.1
      have hAt : Typ Wc 32 A := row_typ hArow A rfl
      have hAl := hAt.lt
      have cA : Wc.cell? ⟨A, vi.length, none⟩ = some vl := by
        have := hArow.cells (g := A) rfl vi.length vl (by simp)
        rwa [show (⟨A, 0, none⟩ : Addr).add vi.length = ⟨A, vi.length, none⟩ by unfold Addr.add; split <;> simp_all] at this
      obtain ⟨cur, hA⟩ := hAt
      have hA' : Blk Wc A 32 cur := hA
      obtain ⟨k0, hk0⟩ : ∃ k0, (vl.ownBlock = some k0 ∨ (vl.ownBlock = none ∧ k0 = Wc.heap.size)) := by
        cases hvo : vl.ownBlock with
        | none => exact ⟨Wc.heap.size, .inr ⟨rfl, rfl⟩⟩
        | some b => exact ⟨b, .inl rfl⟩
      have hXt : Typ Wc 37 X := ⟨_, hX⟩
      have hne : A ≠ k0 ∧ X ≠ k0 := by
        rcases hk0 with h | ⟨_, h⟩
        · have := row_typ hvl.1 k0 h
          exact ⟨(Typ.ne ⟨cur, hA⟩ this (by decide)), hXt.ne this (by decide)⟩
        · omega
      obtain ⟨hneA, hneX⟩ := hne
      have hkv : vl.ownBlock = some k0 ∨ vl.ownBlock = none := hk0.imp id (fun h => h.1)
      have hvA : vl.ownBlock ≠ some A := fun e => (row_typ hvl.1 A e).ne ⟨cur, hA⟩ (by decide) rfl
      have hlq : ps.length ≤ 20000 := by omega
      have k29 := own_any (w := Wc.drew) (s := ⟨a6, b6, c6, l6, z6⟩) (F := F) (hpc.lies (Lies.start Wc).drew) (by simp only; omega) (fun b hb => Nat.lt_of_lt_of_le (HF.out b hb) hlc.size)
      unfold OwnRet at k29
      simp only at k29
      have HM := Lib.hid hM
      have HLc := Lib.hid hlc
      have HVL := Lib.hid hvl.1
      have HK := Lib.hid hkv
      have HHA := Lib.hid hA'
      have HAB := Lib.hid ((hArow.lt A rfl).1)
      clear hM hlc hvl hArow hA hA' hk0 hXt hpc hkv
      go_upto_region 9 with (fail)
      (refine wp_region_lay_tail (id := 9) (I := Grw Wc k0) [(true, 0), (true, 1), (true, 2), (true, 3), (true, 4), (true, 5), (true, 6), (true, 7), (false, 8), (false, 9), (false, 10)] 11 (by kernel_rfl) (by kernel_rfl) (Grw.start Wc k0).drew ?_; simp only [layOps, List.filterMap_cons, List.filterMap_nil, List.getElem?_cons_succ, List.getElem?_cons_zero, Option.map_some, List.append_eq, List.cons_append, List.nil_append, List.drop_succ_cons, List.drop_zero]; (repeat (first | (have hX_ : True := trivial; refine i_skip ?_ ?_; (focus exact wanted_no rfl rfl rfl); clear hX_; simp only [Act.put, List.setIfInBounds_toArray, List.set_cons_zero, List.set_cons_succ]) | (apply i_free _ rfl; (focus (intro C1 hs1 w1 hw0; have hw1 := hs1 _ hw0; have hc1 := hw1.cells; go_simp; (try go_bits); (try (rw [if_pos (by omega)]; go_simp)); first | rfl)); simp only [Act.put, List.setIfInBounds_toArray, List.set_cons_zero, List.set_cons_succ]) | (refine i_loud rfl ?_; intro K hK; refine loud_push (.tmp 34) (.tmp 38) 32 rfl w.heap.size 35 (.agg zs5) 5 48 Tryd.underlying32 Tryd.info35' rfl (by decide) _ _ _ rfl hrow2 [.int .u8 (a6 : Int), .int .u8 (b6 : Int), .int .i64 c6, .slice oa3 l6.length cp3, .int .i64 z6] rfl rfl (by intro y hy; simp at hy; rcases hy with rfl | rfl | rfl | rfl | rfl <;> rfl) (by omega) (by omega) (Nat.le_trans HLc.out.size hl2.size) ?_; intro vl1 w3 hown3 hg3 hnil3 hf3; obtain ⟨ov, mv, cv, hvl1⟩ := row_slice hown3; subst hvl1; refine ⟨grw_of hl2 hg3 HK.out, ?_⟩; (try simp only [Act.put, List.setIfInBounds_toArray, List.set_cons_zero, List.set_cons_succ]); apply hK) | (refine i_loud rfl ?_; intro K hK; go_simp; go_at_call 29; refine k29.mono ?_; rintro e w2 ⟨pv2, rfl, hp2, hl2'⟩; obtain ⟨oa3, cp3, hpv2⟩ := hp2.slice; subst hpv2; have hl2 : Lies Wc w2 := (Lies.start Wc).drew.tr' hl2'; have hrow2 := ownsRow_lies' HVL.out hl2; refine ⟨_, rfl, grown_lies hl2 _, ?_⟩; (try simp only [Act.put, List.setIfInBounds_toArray, List.set_cons_zero, List.set_cons_succ]); apply hK) | (refine i_loud rfl ?_; intro K hK; go_simp; refine ⟨grown_lies (hl2.tr' ((Lies.start w2).alloc (Nat.le_refl _) _)) _, ?_⟩; (try simp only [Act.put, List.setIfInBounds_toArray, List.set_cons_zero, List.set_cons_succ]); apply hK))); refine i_nil ?_)
      have hA3 : Blk w3 A 32 cur := (HHA.out.lies hl2).grown hg3 (fun e => hvA e.symm)
      have hcA3 : w3.cell? ⟨A, vi.length, none⟩ = some vl := by rw [hA3.cell, ← HHA.out.cell]; exact cA
      have hfA3 := hA3.free vi.length
      have hlA3 := hA3.lt
      have HM3 := HM.out.step (p := (⟨a6, b6, c6, l6, z6⟩, .slice oa3 l6.length cp3)) rfl hl2 hown3 hg3 hf3 (hp2.mono (fun b hb => ⟨by have := HLc.out.size; simp at hb; omega, hb.2.2⟩))
      go_wp2
      go_roundw
      case measure => simp [intOf]; omega
      case rel =>
        refine ⟨k + 1, vi ++ [.slice ov mv cv], pi ++ [ps ++ [(⟨a6, b6, c6, l6, z6⟩, .slice oa3 l6.length cp3)]], by go_num, by omega, by simp at hvk ⊢; omega, by simp, Lib.hid ?_, Lib.hid (fun qs hq => ?_), Lib.hid HM3, Lib.hid ?_⟩
        · rw [HST.out, List.map_append (l₁ := pi) (l₂ := [ps]), List.map_cons, List.map_nil, segStep_snoc _ _ (x := ⟨false, ⟨a6, b6, c6, l6, z6⟩⟩) rfl]; simp
        · rcases List.mem_append.1 hq with h | h
          · have := hpz.out qs (List.mem_append_left _ h); omega
          · simp at h; subst h; simp; omega
        · have h3 : Lies w w3 := (HLc.out.tr' hl2).grown hg3 (HLc.out.tr' hl2).size (fun b e => (hrow2.lt b e).1)
          exact h3.grown (grownBy_setCell w3 A _ _) h3.size (fun b e => by injection e with e; subst e; exact HAB.out)
end Go.Proofs.YtbgmjlonbbmffaaDoor
