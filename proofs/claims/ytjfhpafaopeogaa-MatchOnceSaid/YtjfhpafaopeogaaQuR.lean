/-
  The document's queue (layer 21): Pop.
-/
import Derived.Test.YtjfhpafaopeogaaQuQ
namespace Go.Proofs.Ytjfhpafaopeogaa
open Go.RowKit
set_option linter.unusedVariables false
set_option linter.unusedSimpArgs false

set_option maxRecDepth 100000 in
set_option maxHeartbeats 4000000 in
theorem rPop_none (B sb : Nat) (E : Nat → Prop) (most : Nat) (v : Value) (w : World) (h : QO 88 B w sb E [] most v) :
    Calls Try.prog 77 #[.pointer (some ⟨sb, 0, none⟩)] w fun e w' => e = .returned (.tuple #[enArg enZero enZeroP, .bool false]) ∧ Below w.heap.size w w' := by
  have HB2 : Hid (Blk (w.alloc (.cells enZ 52)) w.heap.size 52 enZ) := Lib.hid (Blk.new _ _ _)
  have hbw : Below w.heap.size w (w.alloc (.cells enZ 52)) := (Below.refl _ _).alloc (Nat.le_refl _) _
  have hz : w.heap.size < (w.alloc (.cells enZ 52)).heap.size := by simp
  have h0 := h.still hbw
  obtain ⟨p, c, rfl, _⟩ := h0.slice
  have hq := h0.blk.cell
  have Hb := Lib.hid hbw
  clear h h0 hbw
  simp only [List.length_nil] at hq ⊢
  unfold enZ at HB2 Hb hz hq
  go_enter Try.func77, Try.ntmps77
  go_upto_region 1 with (fail)
  generalize w.alloc (.cells #[.int .i64 0, .bool false, .string ⟨#[]⟩, .string ⟨#[]⟩, .slice none 0 0, .slice none 0 0, .slice none 0 0, .slice none 0 0] 52) = w0 at *
  have hd := HB2.out.cell
  have hg := HB2.out.frozen
  go_wp2_with fail
  have hbf := setEn_blk enZero enZeroP HB2.out
  have HBel : Hid (Below w.heap.size w (setEn w0 w.heap.size enZero enZeroP)) := Lib.hid (Hb.out.trans ((setEn_touch w0 w.heap.size enZero enZeroP).below (by omega) (fun k hk => by omega)))
  unfold setEn enZero enZeroP at hbf HBel
  dsimp only [List.length_nil] at hbf HBel
  have hcf := hbf.cell
  clear hd hg hbf hq
  unfold enArg enZero enZeroP
  exact bodyPost_ret (v := .tuple #[.agg #[.int .i64 0, .bool false, .string ⟨#[]⟩, .string ⟨#[]⟩, .slice none 0 0, .slice none 0 0, .slice none 0 0, .slice none 0 0], .bool false]) (by simp [results, Try.results77, go_sem, hcf]) rfl ⟨rfl, HBel.out⟩

set_option maxRecDepth 100000 in
set_option maxHeartbeats 4000000 in
theorem rPop_strong (B sb : Nat) (E : Nat → Prop) (x : EnV) (L : List EnV) (most : Nat) (v : Value) (w : World) (h : QO 88 B w sb E (x :: L) most v) (hBw : B ≤ w.heap.size) :
    Calls Try.prog 77 #[.pointer (some ⟨sb, 0, none⟩)] w fun e w' => ∃ a, e = .returned (.tuple #[enArg x a, .bool true]) ∧ EnL (fun k => (E k ∨ rowOf v = some k) ∧ k < w.heap.size ∧ k ≠ sb) w' x a ∧ OpN 88 B sb E L most v w w' := by
  have HB2 : Hid (Blk (w.alloc (.cells enZ 52)) w.heap.size 52 enZ) := Lib.hid (Blk.new _ _ _)
  have hbw : Below w.heap.size w (w.alloc (.cells enZ 52)) := (Below.refl _ _).alloc (Nat.le_refl _) _
  have hz : w.heap.size + 1 = (w.alloc (.cells enZ 52)).heap.size := by simp
  have hsl := h.blk.lt
  have hrw := h.own.row
  have hnoE := h.noE
  have hno := h.no
  have h1 := h.weak (E' := fun k => E k ∧ k < w.heap.size) (fun k hk hE => ⟨hE, hk⟩) (fun e => h.noE e.1)
  have h0 := h1.still hbw
  obtain ⟨pv, cv, hv, _⟩ := h0.slice
  have hn1 : (x :: L).length = L.length + 1 := by simp
  rw [hn1] at hv
  subst hv
  have hlim : L.length + 1 ≤ 4096 := by have h1 := h.len; have h2 := h.lim; simp only [List.length_cons] at h1; omega
  have hlm : L.length + 1 ≤ most := by have h1 := h.len; simp only [List.length_cons] at h1; omega
  have hs := h0.src
  obtain ⟨b, o, a, rfl, hS, hbl, hL, c0, c1, c2, c3, c4, c5, c6, c7⟩ := en_at hs (k := 0) (by simp)
  simp only [List.getElem_cons_zero, Nat.zero_mul, Nat.add_zero] at c0 c1 c2 c3 c4 c5 c6 c7 hL
  obtain ⟨_, hlc, hcm⟩ := hs.len
  rw [hn1] at hlc
  unfold maxLen at hcm
  have hd1 := hs.dropAny (by omega) 1 (by simp)
  rw [hn1, List.drop_succ_cons, List.drop_zero, Nat.add_sub_cancel] at hd1
  have HD := Lib.hid (hd1.weak EnS.still (S' := fun k => ((fun k => E k ∧ k < w.heap.size) k ∨ rowOf (.slice (some ⟨b, o, none⟩) (L.length + 1) cv) = some k) ∧ k < (w.alloc (.cells enZ 52)).heap.size) (fun k hk hj => ⟨hj, hk⟩))
  have HQ := Lib.hid h0
  have HL := Lib.hid hL
  have hq := h0.blk.cell
  have Hb := Lib.hid hbw
  have hci : (1 : Int) ≤ (cv : Int) := by omega
  have hli : (1 : Int) ≤ ((L.length + 1 : Nat) : Int) := by omega
  have hl0 : (((L.length + 1 : Nat) : Int) == 0) = false := by simp; omega
  have hl1 : (0 : Int) < ((L.length + 1 : Nat) : Int) := by omega
  clear h h1 h0 hbw hs hL hd1
  obtain ⟨xk, xh, xf, xd, xg, xb, xc, xr⟩ := x
  obtain ⟨pg, cg, pb, cb, pc, cc, pr, cr⟩ := a
  dsimp only at *
  obtain ⟨n, hn⟩ : ∃ n, n = L.length + 1 := ⟨_, rfl⟩
  have hn2 : L.length = n - 1 := by omega
  rw [← hn] at hl0 hl1 hli hq HQ HD hno hlc hrw ⊢
  rw [hn2] at HD
  have hna : n ≤ L.length + 1 := by omega
  have hnb : L.length + 1 ≤ n := by omega
  clear hn hn2
  have hsm : EnSmall ⟨xk, xh, xf, xd, xg, xb, xc, xr⟩ := HQ.out.small _ List.mem_cons_self
  unfold enZ at HB2 Hb hz hq HQ HL HD c0 c1 c2 c3 c4 c5 c6 c7 hbl
  clear hn1
  go_enter Try.func77, Try.ntmps77
  go_upto_region 1 with (fail)
  generalize w.alloc (.cells #[.int .i64 0, .bool false, .string ⟨#[]⟩, .string ⟨#[]⟩, .slice none 0 0, .slice none 0 0, .slice none 0 0, .slice none 0 0] 52) = w0 at *
  have hal : Below w0.heap.size w0 (w0.alloc (.cells #[.int .i64 xk, .bool xh, .string xf, .string xd, .slice pg xg.length cg, .slice pb xb.length cb, .slice pc xc.length cc, .slice pr xr.length cr] 52)) := (Below.refl _ _).alloc (Nat.le_refl _) _
  have hz1 : w0.heap.size + 1 = (w0.alloc (.cells #[.int .i64 xk, .bool xh, .string xf, .string xd, .slice pg xg.length cg, .slice pb xb.length cb, .slice pc xc.length cc, .slice pr xr.length cr] 52)).heap.size := by simp
  have HE1 : Hid (Blk (w0.alloc (.cells #[.int .i64 xk, .bool xh, .string xf, .string xd, .slice pg xg.length cg, .slice pb xb.length cb, .slice pc xc.length cc, .slice pr xr.length cr] 52)) w0.heap.size 52 #[.int .i64 xk, .bool xh, .string xf, .string xd, .slice pg xg.length cg, .slice pb xb.length cb, .slice pc xc.length cc, .slice pr xr.length cr]) := Lib.hid (Blk.new _ _ _)
  have HRB1 := Lib.hid (HB2.out.alloc (.cells #[.int .i64 xk, .bool xh, .string xf, .string xd, .slice pg xg.length cg, .slice pb xb.length cb, .slice pc xc.length cc, .slice pr xr.length cr] 52))
  have HQ1 := Lib.hid (HQ.out.still hal)
  have HDD := Lib.hid (HD.out.below EnS.still hal)
  have HL1 := Lib.hid ((HL.out.keep (Kept.all hal)).keep (S' := fun k => (E k ∨ rowOf (.slice (some ⟨b, o, none⟩) n cv) = some k) ∧ k < w.heap.size ∧ k ≠ sb) (Kept.mono _ (fun k _ hk => hk.elim (fun e => ⟨.inl e.1, e.2, fun e' => hnoE (by rw [← e']; exact e.1)⟩) (fun e => ⟨.inr e, (hrw k e).2, fun e' => hno (by rw [← e']; exact e)⟩))))
  have HB1 := Lib.hid (Hb.out.trans (hal.mono (by omega)))
  go_upto_region 4 with (fail)
  generalize w0.alloc (.cells #[.int .i64 xk, .bool xh, .string xf, .string xd, .slice pg xg.length cg, .slice pb xb.length cb, .slice pc xc.length cc, .slice pr xr.length cr] 52) = w1 at *
  have hq1 := HQ1.out.blk.cell
  clear hq hal HL HQ HD HB2 Hb c0 c1 c2 c3 c4 c5 c6 c7
  by_cases hc1 : cv = 1
  · subst hc1
    have hL0 : L = [] := List.eq_nil_of_length_eq_zero (by omega)
    have hn1 : n = 1 := by omega
    have HD1 : Hid (SliceS 8 EnS (fun k => (((E k ∧ k < w.heap.size) ∨ rowOf (.slice (some ⟨b, o, none⟩) n 1) = some k) ∧ k < w1.heap.size) ∧ rowOf (.slice none 0 0) ≠ some k) w1 [.slice (some ⟨b, o, none⟩) 0 0] L) := Lib.hid (by rw [hL0]; exact SliceS.empty _ _ (by simp [maxLen]))
    subst hn1
    clear hL0 HDD
    have Hno : Hid (rowOf (.slice (some ⟨b, o, none⟩) 1 1) ≠ some sb ∧ ¬ E sb) := Lib.hid ⟨hno, hnoE⟩
    go_upto_region 5 with (at_builtin; refine step_appendEn _ rfl (.const (.slice none 0 0)) (.tmp 23) rfl B (fun k => ((E k ∧ k < w.heap.size) ∨ rowOf (.slice (some ⟨b, o, none⟩) 1 1) = some k) ∧ k < w1.heap.size) (.slice none 0 0) [] rfl (OwnS.empty _) (some ⟨b, o, none⟩) 0 0 L rfl HD1.out (by simp; omega) (by omega) ?_; intro v4 w4 ho4 hg4 hn4; have hb4 := Below.of_row hg4 (Nat.le_refl w1.heap.size) (fun k hk => by simp [rowOf] at hk); obtain ⟨p4, c4, hv4, _⟩ := ho4.slice EnS.still (S' := fun _ => True) (fun _ _ _ => trivial) (fun _ _ => trivial); subst hv4; have hzz := hb4.size; have hr4 : ∀ j, rowOf (.slice p4 ([] ++ L).length c4) = some j → w1.heap.size ≤ j := (fun j hj => by rcases hn4 j hj with e | e; (· simp [rowOf] at e); (· exact e)); have hpe := HQ1.out.renew hb4 ho4 hr4 (fun k _ hE => hE.1.elim .inl (fun e => .inr (.inl e))) (fun hE => hE.1.elim HQ1.out.noE HQ1.out.no) (fun y hy => HQ1.out.small y (by simp at hy; simp [hy])) (by simp; omega); have hc4 := hpe.1.cell; have hf4 := hpe.1.frozen; have HP := Lib.hid hpe.2; have HR4 := Lib.hid hr4; have HE5 := Lib.hid ((HE1.out.below hb4 HE1.out.lt).far (p := ⟨sb, 0, none⟩) (by show _ ≠ sb; omega) (.slice p4 ([] ++ L).length c4)); have HR5 := Lib.hid ((HRB1.out.below hb4 HRB1.out.lt).far (p := ⟨sb, 0, none⟩) (by show _ ≠ sb; omega) (.slice p4 ([] ++ L).length c4)); have HL5 := Lib.hid (HL1.out.keep (S' := fun k => (E k ∨ rowOf (.slice (some ⟨b, o, none⟩) 1 1) = some k) ∧ k < w.heap.size ∧ k ≠ sb) (Kept.touch hpe.2.2 (fun k _ hk => ⟨hk, hk.2.2⟩))); clear ho4 hg4 hn4 hpe hr4 hb4; clear HD1 HQ1 HE1 HRB1 HL1; simp only [List.nil_append] at HP HR4 HE5 HR5 HL5 hc4 hf4)
    obtain ⟨hP1, hP2⟩ := HP.out
    have hR := HR4.out
    have hz5 : (w4.setCell ⟨sb, 0, none⟩ (.slice p4 L.length c4)).heap.size = w4.heap.size := size_set _ _ _
    generalize w4.setCell ⟨sb, 0, none⟩ (.slice p4 L.length c4) = w5 at *
    have hbf := setEn_blk ⟨xk, xh, xf, xd, xg, xb, xc, xr⟩ ⟨pg, cg, pb, cb, pc, cc, pr, cr⟩ HR5.out
    have hT := setEn_touch w5 w.heap.size ⟨xk, xh, xf, xd, xg, xb, xc, xr⟩ ⟨pg, cg, pb, cb, pc, cc, pr, cr⟩
    have hzf : (setEn w5 w.heap.size ⟨xk, xh, xf, xd, xg, xb, xc, xr⟩ ⟨pg, cg, pb, cb, pc, cc, pr, cr⟩).heap.size = w5.heap.size := by unfold setEn; simp only [size_set]
    have HK : Hid (EnL (fun k => (E k ∨ rowOf (.slice (some ⟨b, o, none⟩) 1 1) = some k) ∧ k < w.heap.size ∧ k ≠ sb) (setEn w5 w.heap.size ⟨xk, xh, xf, xd, xg, xb, xc, xr⟩ ⟨pg, cg, pb, cb, pc, cc, pr, cr⟩) ⟨xk, xh, xf, xd, xg, xb, xc, xr⟩ ⟨pg, cg, pb, cb, pc, cc, pr, cr⟩) := Lib.hid (HL5.out.keep (Kept.touch hT (fun k _ hk => ⟨hk, fun e => by have := hk.2.1; omega⟩)))
    have HO : Hid (OpN 88 B sb E L most (.slice (some ⟨b, o, none⟩) 1 1) w (setEn w5 w.heap.size ⟨xk, xh, xf, xd, xg, xb, xc, xr⟩ ⟨pg, cg, pb, cb, pc, cc, pr, cr⟩)) := Lib.hid (by
      refine ⟨_, (hP1.touch hT (by omega) (fun k hk => by have := hR k hk; omega) (fun k hk hE _ => ?_)).weak (fun k hk hE => ?_) ?_, fun k hk => (by have := hR k hk; omega), ?_⟩
      · rcases hE with e | e | e
        · have := e.2; omega
        · have := (hrw k e).2; omega
        · omega
      · rcases hE with e | e | e
        · exact .inl e.1
        · exact .inr (.inl e)
        · exact .inr (.inr ⟨by omega, hk⟩)
      · rintro (e | e | e)
        · exact hnoE e
        · exact hno e
        · omega
      · exact ((Touch.of_below (p := fun i => i = sb) HB1.out).trans hP2).then hT (fun i hi e => by omega))
    have he := HE5.out.cell
    have hd := HR5.out.cell
    have hg := HR5.out.frozen
    unfold setEn at hbf HK HO
    clear hP1 hP2 hT hzf hc4 hf4 hq1
    go_wp2_with fail
    have hcf := hbf.cell
    clear he hd hg hbf
    unfold enArg
    exact bodyPost_ret (v := .tuple #[.agg #[.int .i64 xk, .bool xh, .string xf, .string xd, .slice pg xg.length cg, .slice pb xb.length cb, .slice pc xc.length cc, .slice pr xr.length cr], .bool true]) (by simp [results, Try.results77, go_sem, hcf]) rfl ⟨⟨pg, cg, pb, cb, pc, cc, pr, cr⟩, rfl, HK.out, HO.out⟩
  · have hc1' : ¬ 1 = cv := fun e => hc1 e.symm
    have HD1 := Lib.hid (show SliceS 8 EnS (fun k => (((E k ∧ k < w.heap.size) ∨ rowOf (.slice (some ⟨b, o, none⟩) n cv) = some k) ∧ k < w1.heap.size) ∧ rowOf (.slice none 0 0) ≠ some k) w1 [.slice (some ⟨b, o + 8, none⟩) (n - 1) (cv - 1)] L from
      (by simpa [Addr.add_lit] using (HDD.out.weak EnS.still (fun k hk hj => (⟨⟨hj.1, by omega⟩, by simp [rowOf]⟩ : (((E k ∧ k < w.heap.size) ∨ rowOf (.slice (some ⟨b, o, none⟩) n cv) = some k) ∧ k < w1.heap.size) ∧ rowOf (.slice none 0 0) ≠ some k)))))
    clear HDD
    have Hno : Hid (rowOf (.slice (some ⟨b, o, none⟩) n cv) ≠ some sb ∧ ¬ E sb) := Lib.hid ⟨hno, hnoE⟩
    go_upto_region 5 with (at_builtin; refine step_appendEn _ rfl (.const (.slice none 0 0)) (.tmp 23) rfl B (fun k => ((E k ∧ k < w.heap.size) ∨ rowOf (.slice (some ⟨b, o, none⟩) n cv) = some k) ∧ k < w1.heap.size) (.slice none 0 0) [] rfl (OwnS.empty _) (some ⟨b, o + 8, none⟩) (n - 1) (cv - 1) L rfl HD1.out (by simp; omega) (by omega) ?_; intro v4 w4 ho4 hg4 hn4; have hb4 := Below.of_row hg4 (Nat.le_refl w1.heap.size) (fun k hk => by simp [rowOf] at hk); obtain ⟨p4, c4, hv4, _⟩ := ho4.slice EnS.still (S' := fun _ => True) (fun _ _ _ => trivial) (fun _ _ => trivial); subst hv4; have hzz := hb4.size; have hr4 : ∀ j, rowOf (.slice p4 ([] ++ L).length c4) = some j → w1.heap.size ≤ j := (fun j hj => by rcases hn4 j hj with e | e; (· simp [rowOf] at e); (· exact e)); have hpe := HQ1.out.renew hb4 ho4 hr4 (fun k _ hE => hE.1.elim .inl (fun e => .inr (.inl e))) (fun hE => hE.1.elim HQ1.out.noE HQ1.out.no) (fun y hy => HQ1.out.small y (by simp at hy; simp [hy])) (by simp; omega); have hc4 := hpe.1.cell; have hf4 := hpe.1.frozen; have HP := Lib.hid hpe.2; have HR4 := Lib.hid hr4; have HE5 := Lib.hid ((HE1.out.below hb4 HE1.out.lt).far (p := ⟨sb, 0, none⟩) (by show _ ≠ sb; omega) (.slice p4 ([] ++ L).length c4)); have HR5 := Lib.hid ((HRB1.out.below hb4 HRB1.out.lt).far (p := ⟨sb, 0, none⟩) (by show _ ≠ sb; omega) (.slice p4 ([] ++ L).length c4)); have HL5 := Lib.hid (HL1.out.keep (S' := fun k => (E k ∨ rowOf (.slice (some ⟨b, o, none⟩) n cv) = some k) ∧ k < w.heap.size ∧ k ≠ sb) (Kept.touch hpe.2.2 (fun k _ hk => ⟨hk, hk.2.2⟩))); clear ho4 hg4 hn4 hpe hr4 hb4; clear HD1 HQ1 HE1 HRB1 HL1; simp only [List.nil_append] at HP HR4 HE5 HR5 HL5 hc4 hf4)
    obtain ⟨hP1, hP2⟩ := HP.out
    have hR := HR4.out
    have hz5 : (w4.setCell ⟨sb, 0, none⟩ (.slice p4 L.length c4)).heap.size = w4.heap.size := size_set _ _ _
    generalize w4.setCell ⟨sb, 0, none⟩ (.slice p4 L.length c4) = w5 at *
    have hbf := setEn_blk ⟨xk, xh, xf, xd, xg, xb, xc, xr⟩ ⟨pg, cg, pb, cb, pc, cc, pr, cr⟩ HR5.out
    have hT := setEn_touch w5 w.heap.size ⟨xk, xh, xf, xd, xg, xb, xc, xr⟩ ⟨pg, cg, pb, cb, pc, cc, pr, cr⟩
    have hzf : (setEn w5 w.heap.size ⟨xk, xh, xf, xd, xg, xb, xc, xr⟩ ⟨pg, cg, pb, cb, pc, cc, pr, cr⟩).heap.size = w5.heap.size := by unfold setEn; simp only [size_set]
    have HK : Hid (EnL (fun k => (E k ∨ rowOf (.slice (some ⟨b, o, none⟩) n cv) = some k) ∧ k < w.heap.size ∧ k ≠ sb) (setEn w5 w.heap.size ⟨xk, xh, xf, xd, xg, xb, xc, xr⟩ ⟨pg, cg, pb, cb, pc, cc, pr, cr⟩) ⟨xk, xh, xf, xd, xg, xb, xc, xr⟩ ⟨pg, cg, pb, cb, pc, cc, pr, cr⟩) := Lib.hid (HL5.out.keep (Kept.touch hT (fun k _ hk => ⟨hk, fun e => by have := hk.2.1; omega⟩)))
    have HO : Hid (OpN 88 B sb E L most (.slice (some ⟨b, o, none⟩) n cv) w (setEn w5 w.heap.size ⟨xk, xh, xf, xd, xg, xb, xc, xr⟩ ⟨pg, cg, pb, cb, pc, cc, pr, cr⟩)) := Lib.hid (by
      refine ⟨_, (hP1.touch hT (by omega) (fun k hk => by have := hR k hk; omega) (fun k hk hE _ => ?_)).weak (fun k hk hE => ?_) ?_, fun k hk => (by have := hR k hk; omega), ?_⟩
      · rcases hE with e | e | e
        · have := e.2; omega
        · have := (hrw k e).2; omega
        · omega
      · rcases hE with e | e | e
        · exact .inl e.1
        · exact .inr (.inl e)
        · exact .inr (.inr ⟨by omega, hk⟩)
      · rintro (e | e | e)
        · exact hnoE e
        · exact hno e
        · omega
      · exact ((Touch.of_below (p := fun i => i = sb) HB1.out).trans hP2).then hT (fun i hi e => by omega))
    have he := HE5.out.cell
    have hd := HR5.out.cell
    have hg := HR5.out.frozen
    unfold setEn at hbf HK HO
    clear hP1 hP2 hT hzf hc4 hf4 hq1
    go_wp2_with fail
    have hcf := hbf.cell
    clear he hd hg hbf
    unfold enArg
    exact bodyPost_ret (v := .tuple #[.agg #[.int .i64 xk, .bool xh, .string xf, .string xd, .slice pg xg.length cg, .slice pb xb.length cb, .slice pc xc.length cc, .slice pr xr.length cr], .bool true]) (by simp [results, Try.results77, go_sem, hcf]) rfl ⟨⟨pg, cg, pb, cb, pc, cc, pr, cr⟩, rfl, HK.out, HO.out⟩

theorem rPop_some (B sb : Nat) (E : Nat → Prop) (x : EnV) (L : List EnV) (most : Nat) (v : Value) (w : World) (h : QO 88 B w sb E (x :: L) most v) (hBw : B ≤ w.heap.size) :
    Calls Try.prog 77 #[.pointer (some ⟨sb, 0, none⟩)] w fun e w' => ∃ a, e = .returned (.tuple #[enArg x a, .bool true]) ∧ EnL (fun _ => True) w' x a ∧ OpR 88 B sb E L most v w w' := by
  refine (rPop_strong B sb E x L most v w h hBw).mono ?_
  rintro e w' ⟨a, rfl, hl, v', hq, hr, hT⟩
  exact ⟨a, rfl, hl.keep (Kept.mono w' (fun _ _ _ => trivial)), v', hq, fun k hk => .inr (hr k hk), hT.mono (fun _ _ e => .inl e)⟩

end Go.Proofs.Ytjfhpafaopeogaa
