/-
  Messages of clients (layer 6): front.Encode whole; the document's Encode.
-/
import Derived.Test.YtldjfmddjbdciaaFoP
import Derived.Test.YtldjfmddjbdciaaFoK
namespace Go.Proofs.Ytldjfmddjbdciaa
open Go.RowKit
set_option linter.unusedVariables false
set_option linter.unusedSimpArgs false

theorem ok_of {x : FoV} (h : checkF x = 0) : okF x = true := by
  unfold checkF at h
  split at h
  · split at h
    · assumption
    · cases h
  · cases h
theorem ok_what {x : FoV} (h : checkF x = 0) : whatV x = true := by
  have := ok_of h
  unfold okF at this
  simp only [Bool.and_eq_true] at this
  exact this.1
theorem ok_kept {x : FoV} (h : checkF x = 0) : foEq x (keptV x) = true := by
  have := ok_of h
  unfold okF at this
  simp only [Bool.and_eq_true] at this
  exact this.2.2.2.2

theorem app_empty (s : ByteArray) : s ++ (⟨#[]⟩ : ByteArray) = s := by
  apply ByteArray.ext
  simp
theorem empty_app (s : ByteArray) : (⟨#[]⟩ : ByteArray) ++ s = s := by
  apply ByteArray.ext
  simp
theorem eq_empty {s : ByteArray} (h : s.toList = (⟨#[]⟩ : ByteArray).toList) : s = ⟨#[]⟩ := by
  have hs : s = strOf s.data.toList := by simp [strOf]
  rw [hs, strOf_toList] at h
  have h0 : (⟨#[]⟩ : ByteArray).toList = [] := by
    show (strOf []).toList = []
    exact strOf_toList []
  rw [h0] at h
  rw [hs, h]
  rfl

theorem enc_any (S : Nat → Prop) (x : FoV) (a : FoP) (w : World) (h : FoL S w x a) (hfb : FoB x) (hsm : SmallF x) : Calls Try.prog 26 #[foArg x a] w (EncR x w) := by
  by_cases hck : checkF x = 0
  · have hw := ok_what hck
    rcases kind_cases x.kind with hk | hk | hk | hk | hk | hk | hk
    · exact enc_P S x a w h hfb hsm hck hk
    · exact enc_B S x a w h hfb hsm hck hk
    · have hw' : x.what = 83 ∨ x.what = 80 := by unfold whatV at hw; rw [if_pos (.inl hk)] at hw; simpa using hw
      rcases hw' with e | e
      · exact enc_S67 S x a w h hfb hsm hck hk e
      · exact enc_N67 S x a w h hfb hsm hck hk e
    · have hw' : x.what = 83 ∨ x.what = 80 := by unfold whatV at hw; rw [if_pos (.inr hk)] at hw; simpa using hw
      rcases hw' with e | e
      · exact enc_S68 S x a w h hfb hsm hck hk e
      · exact enc_N68 S x a w h hfb hsm hck hk e
    · exact enc_E S x a w h hfb hsm hck hk
    · exact enc_Q S x a w h hfb hsm hck hk
    · exact enc_O S x a w h hfb hsm hck hk
  · exact enc_no S x a w h hfb hsm hck

set_option maxRecDepth 100000 in
set_option maxHeartbeats 4000000 in
theorem renc_no (S : Nat → Prop) (x : FoV) (a : FoP) (w : World) (h : FoL S w x a) (hfb : FoB x) (hsm : SmallF x) (hck : checkF x ≠ 0) : Calls Try.prog 27 #[foArg x a] w (EncR x w) := by
  have H0 := Lib.hid (EnI.start h)
  have HK := Lib.hid (fun (w0 : World) (H : EnI w w0 x a) => rcheck_any _ x a w0 H.l hfb (by have := hsm.n; unfold maxLen; omega) (by have := hsm.p; unfold maxLen; omega) (by have := hsm.t; unfold maxLen; omega))
  have Hev : Hid (encF x = (0, [], checkF x)) := Lib.hid (by unfold encF; rw [if_neg hck])
  generalize checkF x = cv at *
  have Hsm := Lib.hid hsm
  obtain ⟨hn, hp, ht, ho, hf, hr, hc, hb⟩ := hsm
  have HC : Hid (∀ w1 : World, EnI w w1 x a → (∀ i, w1.cell? ⟨w.heap.size, i, none⟩ = (foCells x a)[i]?) ∧ (∀ i, w1.cell? ⟨w.heap.size + 1, i, none⟩ = (#[.int .u8 0, .slice none 0 0] : Array Value)[i]?) ∧ (∀ i, w1.frozen? ⟨w.heap.size + 1, i, none⟩ = false)) := Lib.hid (fun w1 H => ⟨H.b.cell, H.m.cell, H.m.frozen⟩)
  have Hhb := Lib.hid hb
  unfold EncR
  rw [Hev.out]
  dsimp only
  obtain ⟨xk, xw, xn, xp, xt, xo, xf, xr, xc, xm⟩ := x
  obtain ⟨apo, aco, apf, acf, apr, acr, app, acp⟩ := a
  clear h hfb hb
  unfold foArg at *
  unfold foCells at *
  dsimp only at *
  go_enter Try.func27, Try.ntmps27
  go_upto_region 1 with (fail)
  generalize (w.alloc (.cells #[.int .u8 xk, .int .u8 xw, .string xn, .string xp, .string xt, .slice apo xo.length aco, .slice apf xf.length acf, .slice apr xr.length acr, .slice app xc.length acp, .int .i64 xm] 44)).alloc (.cells #[.int .u8 0, .slice none 0 0] 47) = w1 at *
  obtain ⟨hc1, hm1, hf1⟩ := HC.out w1 H0.out
  go_wp2_with fail
  refine (HK.out w1 H0.out).mono ?_
  rintro e w2 ⟨rfl, hb2⟩
  have H2 := Lib.hid (H0.out.step hb2)
  obtain ⟨hc2, hm2, hf2⟩ := HC.out w2 H2.out
  clear hb2 hc1 hm1 hf1
  have hcb : (cv == 0) = false := by simpa using hck
  clear hck
  go_wp2_with fail
  have hM2 := H2.out
  have hT9 : Touch (fun k => k = w.heap.size + 1) w2 ((w2.setCell ⟨w.heap.size + 1, 0, none⟩ (.int .u8 0)).setCell ⟨w.heap.size + 1, 1, none⟩ (.slice none 0 0)) := ((Touch.refl (fun k => k = w.heap.size + 1) _).setCell (x := ⟨w.heap.size + 1, 0, none⟩) (fun _ => rfl) _).setCell (x := ⟨w.heap.size + 1, 1, none⟩) (fun _ => rfl) _
  have h9 := ((hM2.m.set_ 0 (.int .u8 0)).set_ 1 (.slice none 0 0))
  simp only [List.setIfInBounds_toArray, List.set_cons_succ, List.set_cons_zero] at h9
  have hcf := h9.cell
  have HB := Lib.hid (hM2.bel.trans (hT9.below hM2.bel.size (fun k hk => by omega)))
  clear hT9 h9 hM2 hc2 hm2 hf2
  refine bodyPost_ret (v := .tuple #[.agg #[.int .u8 0, .slice none 0 0], .int .i64 cv]) (by simp [results, Try.results27, go_sem, hcf]) rfl ?_
  exact ⟨_, rfl, OwnBR.empty _ _ _, HB.out⟩

set_option maxRecDepth 100000 in
set_option maxHeartbeats 4000000 in
theorem renc_P (S : Nat → Prop) (x : FoV) (a : FoP) (w : World) (h : FoL S w x a) (hfb : FoB x) (hsm : SmallF x) (hck : checkF x = 0) (hk : x.kind = 80) : Calls Try.prog 27 #[foArg x a] w (EncR x w) := by
  have H0 := Lib.hid (EnI.start h)
  have HK := Lib.hid (fun (w0 : World) (H : EnI w w0 x a) => rcheck_any _ x a w0 H.l hfb (by have := hsm.n; unfold maxLen; omega) (by have := hsm.p; unfold maxLen; omega) (by have := hsm.t; unfold maxLen; omega))
  have Hev : Hid (encF x = (80, listB (strB (strB [] x.name) x.text) x.oids 4, 0)) := Lib.hid (by unfold encF; rw [if_pos hck]; unfold bodyF; simp_all)
  rw [hck] at HK
  clear hck
  have Hsm := Lib.hid hsm
  obtain ⟨hn, hp, ht, ho, hf, hr, hc, hb⟩ := hsm
  have HC : Hid (∀ w1 : World, EnI w w1 x a → (∀ i, w1.cell? ⟨w.heap.size, i, none⟩ = (foCells x a)[i]?) ∧ (∀ i, w1.cell? ⟨w.heap.size + 1, i, none⟩ = (#[.int .u8 0, .slice none 0 0] : Array Value)[i]?) ∧ (∀ i, w1.frozen? ⟨w.heap.size + 1, i, none⟩ = false)) := Lib.hid (fun w1 H => ⟨H.b.cell, H.m.cell, H.m.frozen⟩)
  have Hhb := Lib.hid hb
  unfold EncR
  rw [Hev.out]
  dsimp only
  obtain ⟨xk, xw, xn, xp, xt, xo, xf, xr, xc, xm⟩ := x
  obtain ⟨apo, aco, apf, acf, apr, acr, app, acp⟩ := a
  clear h hfb hb
  unfold foArg at *
  unfold foCells at *
  dsimp only at *
  subst hk
  go_enter Try.func27, Try.ntmps27
  go_upto_region 1 with (fail)
  generalize (w.alloc (.cells #[.int .u8 80, .int .u8 xw, .string xn, .string xp, .string xt, .slice apo xo.length aco, .slice apf xf.length acf, .slice apr xr.length acr, .slice app xc.length acp, .int .i64 xm] 44)).alloc (.cells #[.int .u8 0, .slice none 0 0] 47) = w1 at *
  obtain ⟨hc1, hm1, hf1⟩ := HC.out w1 H0.out
  go_wp2_with fail
  refine (HK.out w1 H0.out).mono ?_
  rintro e w2 ⟨rfl, hb2⟩
  have H2 := Lib.hid (H0.out.step hb2)
  obtain ⟨hc2, hm2, hf2⟩ := HC.out w2 H2.out
  clear hb2 hc1 hm1 hf1
  have hg2 : w.heap.size + 2 ≤ w2.heap.size := by have := H2.out.m.lt; omega
  go_upto_region 7 with fail
  go_region_held3 (fun w' => ∀ i, w'.cell? ⟨w.heap.size, i, none⟩ = (#[.int .u8 80, .int .u8 xw, .string xn, .string xp, .string xt, .slice apo xo.length aco, .slice apf xf.length acf, .slice apr xr.length acr, .slice app xc.length acp, .int .i64 xm] : Array Value)[i]?)
    (first | exact hc2 | exact (HC.out _ HE1.out).1 | exact (HC.out _ HE2.out).1 | exact (HC.out _ HE3.out).1 | go_keep)
    (first
      | (go_at_call 53; obtain ⟨pz3, cz3, hvz3, -, -, qz3, -⟩ := OwnBR.slice Ho2.out; subst hvz3; refine (rlist_any _ pz3 _ cz3 _ _ _ _ 4 4 rfl wn2 qz3 HE2.out.l.lo (by have e1 := strB_len [] xn; have e2 := strB_len (strB [] xn) xt; simp only [List.length_nil] at *; omega) (show xo.length ≤ 1000000 by omega)).mono ?_; rintro e wn3 ⟨u3, rfl, ho, hb⟩; have Ho3 : Hid (OwnBR w2.heap.size wn3 u3 _) := Lib.hid (OwnR.base ho HBb2.out.size); have hB3 : Below w2.heap.size w2 wn3 := HBb2.out.trans (hb.mono HBb2.out.size); have HE3 := Lib.hid (H2.out.step2 (hB3.mono hg2)); have HBb3 := Lib.hid hB3; clear ho hb hB3 qz3)
      | (go_at_call 54; refine (rstr_any w2.heap.size _ _ xt wn1 Ho1.out HBb1.out.size (by have e1 := strB_len [] xn; simp only [List.length_nil] at *; omega) (by omega)).mono ?_; rintro e wn2 ⟨u2, rfl, ho, hb⟩; have Ho2 := Lib.hid ho; have hB2 : Below w2.heap.size w2 wn2 := HBb1.out.trans hb; have HE2 := Lib.hid (H2.out.step2 (hB2.mono hg2)); have HBb2 := Lib.hid hB2; clear ho hb hB2)
      | (go_at_call 54; refine (rstr_any w2.heap.size (.slice none 0 0) [] xn (w2.drewN 1) (OwnBR.empty _ _ _) (Nat.le_refl _) (by simp) (by omega)).mono ?_; rintro e wn1 ⟨u1, rfl, ho, hb⟩; have Ho1 := Lib.hid ho; have hB1 : Below w2.heap.size w2 wn1 := (bel_drewN1 w2).trans hb; have HE1 := Lib.hid (H2.out.step2 (hB1.mono hg2)); have HBb1 := Lib.hid hB1; clear ho hb hB1))
  clear hc2 hm2 hf2
  obtain ⟨hc9, hm9, hf9⟩ := HC.out wn3 HE3.out
  obtain ⟨ne, pe, ce, hve⟩ : ∃ n p c, u3 = .slice p n c := (by obtain ⟨p, c, h, _⟩ := OwnBR.slice Ho3.out; exact ⟨_, p, c, h⟩)
  subst hve
  go_upto_region 17 with fail
  have hM2 := HE3.out
  go_wp2_with fail
  have hT9 : Touch (fun k => k = w.heap.size + 1) wn3 ((wn3.setCell ⟨w.heap.size + 1, 0, none⟩ (.int .u8 80)).setCell ⟨w.heap.size + 1, 1, none⟩ (.slice pe ne ce)) := ((Touch.refl (fun k => k = w.heap.size + 1) _).setCell (x := ⟨w.heap.size + 1, 0, none⟩) (fun _ => rfl) _).setCell (x := ⟨w.heap.size + 1, 1, none⟩) (fun _ => rfl) _
  have h9 := ((hM2.m.set_ 0 (.int .u8 80)).set_ 1 (.slice pe ne ce))
  simp only [List.setIfInBounds_toArray, List.set_cons_succ, List.set_cons_zero] at h9
  have HO := Lib.hid (OwnR.base (Ho3.out.touch hT9 (fun k hk e => by have := (Ho3.out.row k hk).1; omega)) (show w.heap.size ≤ w2.heap.size by omega))
  have HB := Lib.hid (hM2.bel.trans (hT9.below hM2.bel.size (fun k hk => by omega)))
  have hcf := h9.cell
  clear hT9 h9 hM2 hc9 hm9 hf9
  refine bodyPost_ret (v := .tuple #[.agg #[.int .u8 80, .slice pe ne ce], .int .i64 0]) (by simp [results, Try.results27, go_sem, hcf]) rfl ?_
  exact ⟨_, rfl, HO.out, HB.out⟩

set_option maxRecDepth 100000 in
set_option maxHeartbeats 4000000 in
theorem renc_B (S : Nat → Prop) (x : FoV) (a : FoP) (w : World) (h : FoL S w x a) (hfb : FoB x) (hsm : SmallF x) (hck : checkF x = 0) (hk : x.kind = 66) : Calls Try.prog 27 #[foArg x a] w (EncR x w) := by
  have H0 := Lib.hid (EnI.start h)
  have HK := Lib.hid (fun (w0 : World) (H : EnI w w0 x a) => rcheck_any _ x a w0 H.l hfb (by have := hsm.n; unfold maxLen; omega) (by have := hsm.p; unfold maxLen; omega) (by have := hsm.t; unfold maxLen; omega))
  have Hev : Hid (encF x = (66, listB (rowB (listB (strB (strB [] x.portal) x.name) x.formats 2) x.params) x.results 2, 0)) := Lib.hid (by unfold encF; rw [if_pos hck]; unfold bodyF; simp_all)
  rw [hck] at HK
  clear hck
  have Hsm := Lib.hid hsm
  obtain ⟨hn, hp, ht, ho, hf, hr, hc, hb⟩ := hsm
  have HC : Hid (∀ w1 : World, EnI w w1 x a → (∀ i, w1.cell? ⟨w.heap.size, i, none⟩ = (foCells x a)[i]?) ∧ (∀ i, w1.cell? ⟨w.heap.size + 1, i, none⟩ = (#[.int .u8 0, .slice none 0 0] : Array Value)[i]?) ∧ (∀ i, w1.frozen? ⟨w.heap.size + 1, i, none⟩ = false)) := Lib.hid (fun w1 H => ⟨H.b.cell, H.m.cell, H.m.frozen⟩)
  have Hhb := Lib.hid hb
  unfold EncR
  rw [Hev.out]
  dsimp only
  obtain ⟨xk, xw, xn, xp, xt, xo, xf, xr, xc, xm⟩ := x
  obtain ⟨apo, aco, apf, acf, apr, acr, app, acp⟩ := a
  clear h hfb hb
  unfold foArg at *
  unfold foCells at *
  dsimp only at *
  subst hk
  go_enter Try.func27, Try.ntmps27
  go_upto_region 1 with (fail)
  generalize (w.alloc (.cells #[.int .u8 66, .int .u8 xw, .string xn, .string xp, .string xt, .slice apo xo.length aco, .slice apf xf.length acf, .slice apr xr.length acr, .slice app xc.length acp, .int .i64 xm] 44)).alloc (.cells #[.int .u8 0, .slice none 0 0] 47) = w1 at *
  obtain ⟨hc1, hm1, hf1⟩ := HC.out w1 H0.out
  go_wp2_with fail
  refine (HK.out w1 H0.out).mono ?_
  rintro e w2 ⟨rfl, hb2⟩
  have H2 := Lib.hid (H0.out.step hb2)
  obtain ⟨hc2, hm2, hf2⟩ := HC.out w2 H2.out
  clear hb2 hc1 hm1 hf1
  have hg2 : w.heap.size + 2 ≤ w2.heap.size := by have := H2.out.m.lt; omega
  go_upto_region 9 with fail
  go_region_held3 (fun w' => ∀ i, w'.cell? ⟨w.heap.size, i, none⟩ = (#[.int .u8 66, .int .u8 xw, .string xn, .string xp, .string xt, .slice apo xo.length aco, .slice apf xf.length acf, .slice apr xr.length acr, .slice app xc.length acp, .int .i64 xm] : Array Value)[i]?)
    (first | exact hc2 | exact (HC.out _ HE1.out).1 | exact (HC.out _ HE2.out).1 | exact (HC.out _ HE3.out).1 | exact (HC.out _ HE4.out).1 | exact (HC.out _ HE5.out).1 | go_keep)
    (first
      | (go_at_call 53; obtain ⟨pz5, cz5, hvz5, -, -, qz5, -⟩ := OwnBR.slice Ho4.out; subst hvz5; refine (rlist_any _ pz5 _ cz5 _ _ _ _ 2 2 rfl wn4 qz5 HE4.out.l.lr (by have e1 := strB_len [] xp; have e2 := strB_len (strB [] xp) xn; have e3 := listB_len (strB (strB [] xp) xn) xf 2; have e4 := rowB_len (listB (strB (strB [] xp) xn) xf 2) xc 2000 Hhb.out; simp only [List.length_nil] at *; omega) (show xr.length ≤ 1000000 by omega)).mono ?_; rintro e wn5 ⟨u5, rfl, ho, hb⟩; have Ho5 : Hid (OwnBR w2.heap.size wn5 u5 _) := Lib.hid (OwnR.base ho HBb4.out.size); have hB5 : Below w2.heap.size w2 wn5 := HBb4.out.trans (hb.mono HBb4.out.size); have HE5 := Lib.hid (H2.out.step2 (hB5.mono hg2)); have HBb5 := Lib.hid hB5; clear ho hb hB5 qz5)
      | (go_at_call 55; obtain ⟨pz4, cz4, hvz4, -, -, qz4, -⟩ := OwnBR.slice Ho3.out; subst hvz4; refine (rrow_any _ pz4 _ cz4 _ _ _ _ wn3 qz4 HE3.out.l.lp (by have e1 := strB_len [] xp; have e2 := strB_len (strB [] xp) xn; have e3 := listB_len (strB (strB [] xp) xn) xf 2; simp only [List.length_nil] at *; omega) (show xc.length ≤ 10000 by omega) (fun c hc => by have := Hhb.out c hc; omega)).mono ?_; rintro e wn4 ⟨u4, rfl, ho, hb⟩; have Ho4 : Hid (OwnBR w2.heap.size wn4 u4 _) := Lib.hid (OwnR.base ho HBb3.out.size); have hB4 : Below w2.heap.size w2 wn4 := HBb3.out.trans (hb.mono HBb3.out.size); have HE4 := Lib.hid (H2.out.step2 (hB4.mono hg2)); have HBb4 := Lib.hid hB4; clear ho hb hB4 qz4)
      | (go_at_call 53; obtain ⟨pz3, cz3, hvz3, -, -, qz3, -⟩ := OwnBR.slice Ho2.out; subst hvz3; refine (rlist_any _ pz3 _ cz3 _ _ _ _ 2 2 rfl wn2 qz3 HE2.out.l.lf (by have e1 := strB_len [] xp; have e2 := strB_len (strB [] xp) xn; simp only [List.length_nil] at *; omega) (show xf.length ≤ 1000000 by omega)).mono ?_; rintro e wn3 ⟨u3, rfl, ho, hb⟩; have Ho3 : Hid (OwnBR w2.heap.size wn3 u3 _) := Lib.hid (OwnR.base ho HBb2.out.size); have hB3 : Below w2.heap.size w2 wn3 := HBb2.out.trans (hb.mono HBb2.out.size); have HE3 := Lib.hid (H2.out.step2 (hB3.mono hg2)); have HBb3 := Lib.hid hB3; clear ho hb hB3 qz3)
      | (go_at_call 54; refine (rstr_any w2.heap.size _ _ xn wn1 Ho1.out HBb1.out.size (by have e1 := strB_len [] xp; simp only [List.length_nil] at *; omega) (by omega)).mono ?_; rintro e wn2 ⟨u2, rfl, ho, hb⟩; have Ho2 := Lib.hid ho; have hB2 : Below w2.heap.size w2 wn2 := HBb1.out.trans hb; have HE2 := Lib.hid (H2.out.step2 (hB2.mono hg2)); have HBb2 := Lib.hid hB2; clear ho hb hB2)
      | (go_at_call 54; refine (rstr_any w2.heap.size (.slice none 0 0) [] xp (w2.drewN 1) (OwnBR.empty _ _ _) (Nat.le_refl _) (by simp) (by omega)).mono ?_; rintro e wn1 ⟨u1, rfl, ho, hb⟩; have Ho1 := Lib.hid ho; have hB1 : Below w2.heap.size w2 wn1 := (bel_drewN1 w2).trans hb; have HE1 := Lib.hid (H2.out.step2 (hB1.mono hg2)); have HBb1 := Lib.hid hB1; clear ho hb hB1))
  clear hc2 hm2 hf2
  obtain ⟨hc9, hm9, hf9⟩ := HC.out wn5 HE5.out
  obtain ⟨ne, pe, ce, hve⟩ : ∃ n p c, u5 = .slice p n c := (by obtain ⟨p, c, h, _⟩ := OwnBR.slice Ho5.out; exact ⟨_, p, c, h⟩)
  subst hve
  go_upto_region 17 with fail
  have hM2 := HE5.out
  go_wp2_with fail
  have hT9 : Touch (fun k => k = w.heap.size + 1) wn5 ((wn5.setCell ⟨w.heap.size + 1, 0, none⟩ (.int .u8 66)).setCell ⟨w.heap.size + 1, 1, none⟩ (.slice pe ne ce)) := ((Touch.refl (fun k => k = w.heap.size + 1) _).setCell (x := ⟨w.heap.size + 1, 0, none⟩) (fun _ => rfl) _).setCell (x := ⟨w.heap.size + 1, 1, none⟩) (fun _ => rfl) _
  have h9 := ((hM2.m.set_ 0 (.int .u8 66)).set_ 1 (.slice pe ne ce))
  simp only [List.setIfInBounds_toArray, List.set_cons_succ, List.set_cons_zero] at h9
  have HO := Lib.hid (OwnR.base (Ho5.out.touch hT9 (fun k hk e => by have := (Ho5.out.row k hk).1; omega)) (show w.heap.size ≤ w2.heap.size by omega))
  have HB := Lib.hid (hM2.bel.trans (hT9.below hM2.bel.size (fun k hk => by omega)))
  have hcf := h9.cell
  clear hT9 h9 hM2 hc9 hm9 hf9
  refine bodyPost_ret (v := .tuple #[.agg #[.int .u8 66, .slice pe ne ce], .int .i64 0]) (by simp [results, Try.results27, go_sem, hcf]) rfl ?_
  exact ⟨_, rfl, HO.out, HB.out⟩

set_option maxRecDepth 100000 in
set_option maxHeartbeats 4000000 in
theorem renc_E (S : Nat → Prop) (x : FoV) (a : FoP) (w : World) (h : FoL S w x a) (hfb : FoB x) (hsm : SmallF x) (hck : checkF x = 0) (hk : x.kind = 69) : Calls Try.prog 27 #[foArg x a] w (EncR x w) := by
  have H0 := Lib.hid (EnI.start h)
  have HK := Lib.hid (fun (w0 : World) (H : EnI w w0 x a) => rcheck_any _ x a w0 H.l hfb (by have := hsm.n; unfold maxLen; omega) (by have := hsm.p; unfold maxLen; omega) (by have := hsm.t; unfold maxLen; omega))
  have Hev : Hid (encF x = (69, putV (strB [] x.portal) x.max 4, 0)) := Lib.hid (by unfold encF; rw [if_pos hck]; unfold bodyF; simp_all)
  rw [hck] at HK
  clear hck
  have Hsm := Lib.hid hsm
  obtain ⟨hn, hp, ht, ho, hf, hr, hc, hb⟩ := hsm
  have HC : Hid (∀ w1 : World, EnI w w1 x a → (∀ i, w1.cell? ⟨w.heap.size, i, none⟩ = (foCells x a)[i]?) ∧ (∀ i, w1.cell? ⟨w.heap.size + 1, i, none⟩ = (#[.int .u8 0, .slice none 0 0] : Array Value)[i]?) ∧ (∀ i, w1.frozen? ⟨w.heap.size + 1, i, none⟩ = false)) := Lib.hid (fun w1 H => ⟨H.b.cell, H.m.cell, H.m.frozen⟩)
  have Hhb := Lib.hid hb
  unfold EncR
  rw [Hev.out]
  dsimp only
  obtain ⟨xk, xw, xn, xp, xt, xo, xf, xr, xc, xm⟩ := x
  obtain ⟨apo, aco, apf, acf, apr, acr, app, acp⟩ := a
  clear h hfb hb
  unfold foArg at *
  unfold foCells at *
  dsimp only at *
  subst hk
  go_enter Try.func27, Try.ntmps27
  go_upto_region 1 with (fail)
  generalize (w.alloc (.cells #[.int .u8 69, .int .u8 xw, .string xn, .string xp, .string xt, .slice apo xo.length aco, .slice apf xf.length acf, .slice apr xr.length acr, .slice app xc.length acp, .int .i64 xm] 44)).alloc (.cells #[.int .u8 0, .slice none 0 0] 47) = w1 at *
  obtain ⟨hc1, hm1, hf1⟩ := HC.out w1 H0.out
  go_wp2_with fail
  refine (HK.out w1 H0.out).mono ?_
  rintro e w2 ⟨rfl, hb2⟩
  have H2 := Lib.hid (H0.out.step hb2)
  obtain ⟨hc2, hm2, hf2⟩ := HC.out w2 H2.out
  clear hb2 hc1 hm1 hf1
  have hg2 : w.heap.size + 2 ≤ w2.heap.size := by have := H2.out.m.lt; omega
  go_upto_region 14 with fail
  go_region_held3 (fun w' => ∀ i, w'.cell? ⟨w.heap.size, i, none⟩ = (#[.int .u8 69, .int .u8 xw, .string xn, .string xp, .string xt, .slice apo xo.length aco, .slice apf xf.length acf, .slice apr xr.length acr, .slice app xc.length acp, .int .i64 xm] : Array Value)[i]?)
    (first | exact hc2 | exact (HC.out _ HE1.out).1 | exact (HC.out _ HE2.out).1 | go_keep)
    (first
      | (go_at_call 42; obtain ⟨pz2, cz2, hvz2, -, -, qz2, -⟩ := OwnBR.slice Ho1.out; subst hvz2; refine (putR_any pz2 _ cz2 xm 4 wn1 (by have e1 := strB_len [] xp; simp only [List.length_nil] at *; omega) qz2).mono ?_; rintro e wn2 ⟨u2, rfl, ho, hb⟩; have Ho2 : Hid (OwnBR w2.heap.size wn2 u2 _) := Lib.hid (OwnR.base (OwnBR.of ho) HBb1.out.size); have hB2 : Below w2.heap.size w2 wn2 := HBb1.out.trans (hb.mono HBb1.out.size); have HE2 := Lib.hid (H2.out.step2 (hB2.mono hg2)); have HBb2 := Lib.hid hB2; clear ho hb hB2 qz2)
      | (go_at_call 54; refine (rstr_any w2.heap.size (.slice none 0 0) [] xp (w2.drewN 1) (OwnBR.empty _ _ _) (Nat.le_refl _) (by simp) (by omega)).mono ?_; rintro e wn1 ⟨u1, rfl, ho, hb⟩; have Ho1 := Lib.hid ho; have hB1 : Below w2.heap.size w2 wn1 := (bel_drewN1 w2).trans hb; have HE1 := Lib.hid (H2.out.step2 (hB1.mono hg2)); have HBb1 := Lib.hid hB1; clear ho hb hB1))
  clear hc2 hm2 hf2
  obtain ⟨hc9, hm9, hf9⟩ := HC.out wn2 HE2.out
  obtain ⟨ne, pe, ce, hve⟩ : ∃ n p c, u2 = .slice p n c := (by obtain ⟨p, c, h, _⟩ := OwnBR.slice Ho2.out; exact ⟨_, p, c, h⟩)
  subst hve
  go_upto_region 17 with fail
  have hM2 := HE2.out
  go_wp2_with fail
  have hT9 : Touch (fun k => k = w.heap.size + 1) wn2 ((wn2.setCell ⟨w.heap.size + 1, 0, none⟩ (.int .u8 69)).setCell ⟨w.heap.size + 1, 1, none⟩ (.slice pe ne ce)) := ((Touch.refl (fun k => k = w.heap.size + 1) _).setCell (x := ⟨w.heap.size + 1, 0, none⟩) (fun _ => rfl) _).setCell (x := ⟨w.heap.size + 1, 1, none⟩) (fun _ => rfl) _
  have h9 := ((hM2.m.set_ 0 (.int .u8 69)).set_ 1 (.slice pe ne ce))
  simp only [List.setIfInBounds_toArray, List.set_cons_succ, List.set_cons_zero] at h9
  have HO := Lib.hid (OwnR.base (Ho2.out.touch hT9 (fun k hk e => by have := (Ho2.out.row k hk).1; omega)) (show w.heap.size ≤ w2.heap.size by omega))
  have HB := Lib.hid (hM2.bel.trans (hT9.below hM2.bel.size (fun k hk => by omega)))
  have hcf := h9.cell
  clear hT9 h9 hM2 hc9 hm9 hf9
  refine bodyPost_ret (v := .tuple #[.agg #[.int .u8 69, .slice pe ne ce], .int .i64 0]) (by simp [results, Try.results27, go_sem, hcf]) rfl ?_
  exact ⟨_, rfl, HO.out, HB.out⟩

set_option maxRecDepth 100000 in
set_option maxHeartbeats 4000000 in
theorem renc_Q (S : Nat → Prop) (x : FoV) (a : FoP) (w : World) (h : FoL S w x a) (hfb : FoB x) (hsm : SmallF x) (hck : checkF x = 0) (hk : x.kind = 81) : Calls Try.prog 27 #[foArg x a] w (EncR x w) := by
  have H0 := Lib.hid (EnI.start h)
  have HK := Lib.hid (fun (w0 : World) (H : EnI w w0 x a) => rcheck_any _ x a w0 H.l hfb (by have := hsm.n; unfold maxLen; omega) (by have := hsm.p; unfold maxLen; omega) (by have := hsm.t; unfold maxLen; omega))
  have Hev : Hid (encF x = (81, strB [] x.text, 0)) := Lib.hid (by unfold encF; rw [if_pos hck]; unfold bodyF; simp_all)
  rw [hck] at HK
  clear hck
  have Hsm := Lib.hid hsm
  obtain ⟨hn, hp, ht, ho, hf, hr, hc, hb⟩ := hsm
  have HC : Hid (∀ w1 : World, EnI w w1 x a → (∀ i, w1.cell? ⟨w.heap.size, i, none⟩ = (foCells x a)[i]?) ∧ (∀ i, w1.cell? ⟨w.heap.size + 1, i, none⟩ = (#[.int .u8 0, .slice none 0 0] : Array Value)[i]?) ∧ (∀ i, w1.frozen? ⟨w.heap.size + 1, i, none⟩ = false)) := Lib.hid (fun w1 H => ⟨H.b.cell, H.m.cell, H.m.frozen⟩)
  have Hhb := Lib.hid hb
  unfold EncR
  rw [Hev.out]
  dsimp only
  obtain ⟨xk, xw, xn, xp, xt, xo, xf, xr, xc, xm⟩ := x
  obtain ⟨apo, aco, apf, acf, apr, acr, app, acp⟩ := a
  clear h hfb hb
  unfold foArg at *
  unfold foCells at *
  dsimp only at *
  subst hk
  go_enter Try.func27, Try.ntmps27
  go_upto_region 1 with (fail)
  generalize (w.alloc (.cells #[.int .u8 81, .int .u8 xw, .string xn, .string xp, .string xt, .slice apo xo.length aco, .slice apf xf.length acf, .slice apr xr.length acr, .slice app xc.length acp, .int .i64 xm] 44)).alloc (.cells #[.int .u8 0, .slice none 0 0] 47) = w1 at *
  obtain ⟨hc1, hm1, hf1⟩ := HC.out w1 H0.out
  go_wp2_with fail
  refine (HK.out w1 H0.out).mono ?_
  rintro e w2 ⟨rfl, hb2⟩
  have H2 := Lib.hid (H0.out.step hb2)
  obtain ⟨hc2, hm2, hf2⟩ := HC.out w2 H2.out
  clear hb2 hc1 hm1 hf1
  have hg2 : w.heap.size + 2 ≤ w2.heap.size := by have := H2.out.m.lt; omega
  go_wp2_with fail
  refine (rstr_any w2.heap.size (.slice none 0 0) [] xt w2 (OwnBR.empty _ _ _) (Nat.le_refl _) (by simp) (by omega)).mono ?_
  rintro e wn1 ⟨u1, rfl, ho1, hb1⟩
  have Ho1 := Lib.hid ho1
  have HE1 := Lib.hid (H2.out.step2 (hb1.mono hg2))
  clear ho1 hb1
  clear hc2 hm2 hf2
  obtain ⟨hc9, hm9, hf9⟩ := HC.out wn1 HE1.out
  obtain ⟨ne, pe, ce, hve⟩ : ∃ n p c, u1 = .slice p n c := (by obtain ⟨p, c, h, _⟩ := OwnBR.slice Ho1.out; exact ⟨_, p, c, h⟩)
  subst hve
  go_upto_region 17 with fail
  have hM2 := HE1.out
  go_wp2_with fail
  have hT9 : Touch (fun k => k = w.heap.size + 1) wn1 ((wn1.setCell ⟨w.heap.size + 1, 0, none⟩ (.int .u8 81)).setCell ⟨w.heap.size + 1, 1, none⟩ (.slice pe ne ce)) := ((Touch.refl (fun k => k = w.heap.size + 1) _).setCell (x := ⟨w.heap.size + 1, 0, none⟩) (fun _ => rfl) _).setCell (x := ⟨w.heap.size + 1, 1, none⟩) (fun _ => rfl) _
  have h9 := ((hM2.m.set_ 0 (.int .u8 81)).set_ 1 (.slice pe ne ce))
  simp only [List.setIfInBounds_toArray, List.set_cons_succ, List.set_cons_zero] at h9
  have HO := Lib.hid (OwnR.base (Ho1.out.touch hT9 (fun k hk e => by have := (Ho1.out.row k hk).1; omega)) (show w.heap.size ≤ w2.heap.size by omega))
  have HB := Lib.hid (hM2.bel.trans (hT9.below hM2.bel.size (fun k hk => by omega)))
  have hcf := h9.cell
  clear hT9 h9 hM2 hc9 hm9 hf9
  refine bodyPost_ret (v := .tuple #[.agg #[.int .u8 81, .slice pe ne ce], .int .i64 0]) (by simp [results, Try.results27, go_sem, hcf]) rfl ?_
  exact ⟨_, rfl, HO.out, HB.out⟩

set_option maxRecDepth 100000 in
set_option maxHeartbeats 4000000 in
theorem renc_S67 (S : Nat → Prop) (x : FoV) (a : FoP) (w : World) (h : FoL S w x a) (hfb : FoB x) (hsm : SmallF x) (hck : checkF x = 0) (hk : x.kind = 67) (hw : x.what = 83) : Calls Try.prog 27 #[foArg x a] w (EncR x w) := by
  have H0 := Lib.hid (EnI.start h)
  have HK := Lib.hid (fun (w0 : World) (H : EnI w w0 x a) => rcheck_any _ x a w0 H.l hfb (by have := hsm.n; unfold maxLen; omega) (by have := hsm.p; unfold maxLen; omega) (by have := hsm.t; unfold maxLen; omega))
  have hkp := ok_kept hck
  have hempty : x.portal = ⟨#[]⟩ := by
    unfold foEq headEq at hkp
    have hkk : (keptV x).portal = ⟨#[]⟩ := by unfold keptV; rw [hk, hw]; simp
    rw [hkk] at hkp
    simp only [Bool.and_eq_true, beq_iff_eq] at hkp
    exact eq_empty hkp.1.2.2.2.1
  clear hkp
  have Hev : Hid (encF x = (67, strB [UInt8.ofNat (83 : Int).toNat] x.name, 0)) := Lib.hid (by unfold encF; rw [if_pos hck]; unfold bodyF; simp_all)
  rw [hck] at HK
  clear hck
  have Hsm := Lib.hid hsm
  obtain ⟨hn, hp, ht, ho, hf, hr, hc, hb⟩ := hsm
  have HC : Hid (∀ w1 : World, EnI w w1 x a → (∀ i, w1.cell? ⟨w.heap.size, i, none⟩ = (foCells x a)[i]?) ∧ (∀ i, w1.cell? ⟨w.heap.size + 1, i, none⟩ = (#[.int .u8 0, .slice none 0 0] : Array Value)[i]?) ∧ (∀ i, w1.frozen? ⟨w.heap.size + 1, i, none⟩ = false)) := Lib.hid (fun w1 H => ⟨H.b.cell, H.m.cell, H.m.frozen⟩)
  have Hhb := Lib.hid hb
  unfold EncR
  rw [Hev.out]
  dsimp only
  obtain ⟨xk, xw, xn, xp, xt, xo, xf, xr, xc, xm⟩ := x
  obtain ⟨apo, aco, apf, acf, apr, acr, app, acp⟩ := a
  clear h hfb hb
  unfold foArg at *
  unfold foCells at *
  dsimp only at *
  subst hk
  subst hw
  subst hempty
  go_enter Try.func27, Try.ntmps27
  go_upto_region 1 with (fail)
  generalize (w.alloc (.cells #[.int .u8 67, .int .u8 83, .string xn, .string ⟨#[]⟩, .string xt, .slice apo xo.length aco, .slice apf xf.length acf, .slice apr xr.length acr, .slice app xc.length acp, .int .i64 xm] 44)).alloc (.cells #[.int .u8 0, .slice none 0 0] 47) = w1 at *
  obtain ⟨hc1, hm1, hf1⟩ := HC.out w1 H0.out
  go_wp2_with fail
  refine (HK.out w1 H0.out).mono ?_
  rintro e w2 ⟨rfl, hb2⟩
  have H2 := Lib.hid (H0.out.step hb2)
  obtain ⟨hc2, hm2, hf2⟩ := HC.out w2 H2.out
  clear hb2 hc1 hm1 hf1
  have hg2 : w.heap.size + 2 ≤ w2.heap.size := by have := H2.out.m.lt; omega
  have hal : Below w2.heap.size w2 (w2.alloc (.cells #[.int .u8 83] 5)) := (Below.refl _ _).alloc (Nat.le_refl _) _
  have Hs := Lib.hid (rstr_any w2.heap.size (.slice (some ⟨w2.heap.size, 0, none⟩) 1 1) [UInt8.ofNat (83 : Int).toNat] xn _ (own_byte w2 w2.heap.size 83 (Nat.le_refl _) (by omega) (by omega)) hal.size (by simp) (by omega))
  have Hal := Lib.hid hal
  have Hax := Lib.hid (H2.out.step hal)
  obtain ⟨hca, -, -⟩ := HC.out _ Hax.out
  clear hal
  go_wp2_with fail
  rw [app_empty]
  refine Hs.out.mono ?_
  rintro e wn1 ⟨u1, rfl, ho1, hb1⟩
  have Ho1 := Lib.hid ho1
  have HE1 := Lib.hid (H2.out.step2 ((Hal.out.trans hb1).mono hg2))
  clear ho1 hb1 hca
  clear hc2 hm2 hf2
  obtain ⟨hc9, hm9, hf9⟩ := HC.out wn1 HE1.out
  obtain ⟨ne, pe, ce, hve⟩ : ∃ n p c, u1 = .slice p n c := (by obtain ⟨p, c, h, _⟩ := OwnBR.slice Ho1.out; exact ⟨_, p, c, h⟩)
  subst hve
  go_upto_region 17 with fail
  have hM2 := HE1.out
  go_wp2_with fail
  have hT9 : Touch (fun k => k = w.heap.size + 1) wn1 ((wn1.setCell ⟨w.heap.size + 1, 0, none⟩ (.int .u8 67)).setCell ⟨w.heap.size + 1, 1, none⟩ (.slice pe ne ce)) := ((Touch.refl (fun k => k = w.heap.size + 1) _).setCell (x := ⟨w.heap.size + 1, 0, none⟩) (fun _ => rfl) _).setCell (x := ⟨w.heap.size + 1, 1, none⟩) (fun _ => rfl) _
  have h9 := ((hM2.m.set_ 0 (.int .u8 67)).set_ 1 (.slice pe ne ce))
  simp only [List.setIfInBounds_toArray, List.set_cons_succ, List.set_cons_zero] at h9
  have HO := Lib.hid (OwnR.base (Ho1.out.touch hT9 (fun k hk e => by have := (Ho1.out.row k hk).1; omega)) (show w.heap.size ≤ w2.heap.size by omega))
  have HB := Lib.hid (hM2.bel.trans (hT9.below hM2.bel.size (fun k hk => by omega)))
  have hcf := h9.cell
  clear hT9 h9 hM2 hc9 hm9 hf9
  refine bodyPost_ret (v := .tuple #[.agg #[.int .u8 67, .slice pe ne ce], .int .i64 0]) (by simp [results, Try.results27, go_sem, hcf]) rfl ?_
  exact ⟨_, rfl, HO.out, HB.out⟩

set_option maxRecDepth 100000 in
set_option maxHeartbeats 4000000 in
theorem renc_N67 (S : Nat → Prop) (x : FoV) (a : FoP) (w : World) (h : FoL S w x a) (hfb : FoB x) (hsm : SmallF x) (hck : checkF x = 0) (hk : x.kind = 67) (hw : x.what = 80) : Calls Try.prog 27 #[foArg x a] w (EncR x w) := by
  have H0 := Lib.hid (EnI.start h)
  have HK := Lib.hid (fun (w0 : World) (H : EnI w w0 x a) => rcheck_any _ x a w0 H.l hfb (by have := hsm.n; unfold maxLen; omega) (by have := hsm.p; unfold maxLen; omega) (by have := hsm.t; unfold maxLen; omega))
  have hkp := ok_kept hck
  have hempty : x.name = ⟨#[]⟩ := by
    unfold foEq headEq at hkp
    have hkk : (keptV x).name = ⟨#[]⟩ := by unfold keptV; rw [hk, hw]; simp
    rw [hkk] at hkp
    simp only [Bool.and_eq_true, beq_iff_eq] at hkp
    exact eq_empty hkp.1.2.2.1
  clear hkp
  have Hev : Hid (encF x = (67, strB [UInt8.ofNat (80 : Int).toNat] x.portal, 0)) := Lib.hid (by unfold encF; rw [if_pos hck]; unfold bodyF; simp_all)
  rw [hck] at HK
  clear hck
  have Hsm := Lib.hid hsm
  obtain ⟨hn, hp, ht, ho, hf, hr, hc, hb⟩ := hsm
  have HC : Hid (∀ w1 : World, EnI w w1 x a → (∀ i, w1.cell? ⟨w.heap.size, i, none⟩ = (foCells x a)[i]?) ∧ (∀ i, w1.cell? ⟨w.heap.size + 1, i, none⟩ = (#[.int .u8 0, .slice none 0 0] : Array Value)[i]?) ∧ (∀ i, w1.frozen? ⟨w.heap.size + 1, i, none⟩ = false)) := Lib.hid (fun w1 H => ⟨H.b.cell, H.m.cell, H.m.frozen⟩)
  have Hhb := Lib.hid hb
  unfold EncR
  rw [Hev.out]
  dsimp only
  obtain ⟨xk, xw, xn, xp, xt, xo, xf, xr, xc, xm⟩ := x
  obtain ⟨apo, aco, apf, acf, apr, acr, app, acp⟩ := a
  clear h hfb hb
  unfold foArg at *
  unfold foCells at *
  dsimp only at *
  subst hk
  subst hw
  subst hempty
  go_enter Try.func27, Try.ntmps27
  go_upto_region 1 with (fail)
  generalize (w.alloc (.cells #[.int .u8 67, .int .u8 80, .string ⟨#[]⟩, .string xp, .string xt, .slice apo xo.length aco, .slice apf xf.length acf, .slice apr xr.length acr, .slice app xc.length acp, .int .i64 xm] 44)).alloc (.cells #[.int .u8 0, .slice none 0 0] 47) = w1 at *
  obtain ⟨hc1, hm1, hf1⟩ := HC.out w1 H0.out
  go_wp2_with fail
  refine (HK.out w1 H0.out).mono ?_
  rintro e w2 ⟨rfl, hb2⟩
  have H2 := Lib.hid (H0.out.step hb2)
  obtain ⟨hc2, hm2, hf2⟩ := HC.out w2 H2.out
  clear hb2 hc1 hm1 hf1
  have hg2 : w.heap.size + 2 ≤ w2.heap.size := by have := H2.out.m.lt; omega
  have hal : Below w2.heap.size w2 (w2.alloc (.cells #[.int .u8 80] 5)) := (Below.refl _ _).alloc (Nat.le_refl _) _
  have Hs := Lib.hid (rstr_any w2.heap.size (.slice (some ⟨w2.heap.size, 0, none⟩) 1 1) [UInt8.ofNat (80 : Int).toNat] xp _ (own_byte w2 w2.heap.size 80 (Nat.le_refl _) (by omega) (by omega)) hal.size (by simp) (by omega))
  have Hal := Lib.hid hal
  have Hax := Lib.hid (H2.out.step hal)
  obtain ⟨hca, -, -⟩ := HC.out _ Hax.out
  clear hal
  go_wp2_with fail
  rw [empty_app]
  refine Hs.out.mono ?_
  rintro e wn1 ⟨u1, rfl, ho1, hb1⟩
  have Ho1 := Lib.hid ho1
  have HE1 := Lib.hid (H2.out.step2 ((Hal.out.trans hb1).mono hg2))
  clear ho1 hb1 hca
  clear hc2 hm2 hf2
  obtain ⟨hc9, hm9, hf9⟩ := HC.out wn1 HE1.out
  obtain ⟨ne, pe, ce, hve⟩ : ∃ n p c, u1 = .slice p n c := (by obtain ⟨p, c, h, _⟩ := OwnBR.slice Ho1.out; exact ⟨_, p, c, h⟩)
  subst hve
  go_upto_region 17 with fail
  have hM2 := HE1.out
  go_wp2_with fail
  have hT9 : Touch (fun k => k = w.heap.size + 1) wn1 ((wn1.setCell ⟨w.heap.size + 1, 0, none⟩ (.int .u8 67)).setCell ⟨w.heap.size + 1, 1, none⟩ (.slice pe ne ce)) := ((Touch.refl (fun k => k = w.heap.size + 1) _).setCell (x := ⟨w.heap.size + 1, 0, none⟩) (fun _ => rfl) _).setCell (x := ⟨w.heap.size + 1, 1, none⟩) (fun _ => rfl) _
  have h9 := ((hM2.m.set_ 0 (.int .u8 67)).set_ 1 (.slice pe ne ce))
  simp only [List.setIfInBounds_toArray, List.set_cons_succ, List.set_cons_zero] at h9
  have HO := Lib.hid (OwnR.base (Ho1.out.touch hT9 (fun k hk e => by have := (Ho1.out.row k hk).1; omega)) (show w.heap.size ≤ w2.heap.size by omega))
  have HB := Lib.hid (hM2.bel.trans (hT9.below hM2.bel.size (fun k hk => by omega)))
  have hcf := h9.cell
  clear hT9 h9 hM2 hc9 hm9 hf9
  refine bodyPost_ret (v := .tuple #[.agg #[.int .u8 67, .slice pe ne ce], .int .i64 0]) (by simp [results, Try.results27, go_sem, hcf]) rfl ?_
  exact ⟨_, rfl, HO.out, HB.out⟩

set_option maxRecDepth 100000 in
set_option maxHeartbeats 4000000 in
theorem renc_S68 (S : Nat → Prop) (x : FoV) (a : FoP) (w : World) (h : FoL S w x a) (hfb : FoB x) (hsm : SmallF x) (hck : checkF x = 0) (hk : x.kind = 68) (hw : x.what = 83) : Calls Try.prog 27 #[foArg x a] w (EncR x w) := by
  have H0 := Lib.hid (EnI.start h)
  have HK := Lib.hid (fun (w0 : World) (H : EnI w w0 x a) => rcheck_any _ x a w0 H.l hfb (by have := hsm.n; unfold maxLen; omega) (by have := hsm.p; unfold maxLen; omega) (by have := hsm.t; unfold maxLen; omega))
  have hkp := ok_kept hck
  have hempty : x.portal = ⟨#[]⟩ := by
    unfold foEq headEq at hkp
    have hkk : (keptV x).portal = ⟨#[]⟩ := by unfold keptV; rw [hk, hw]; simp
    rw [hkk] at hkp
    simp only [Bool.and_eq_true, beq_iff_eq] at hkp
    exact eq_empty hkp.1.2.2.2.1
  clear hkp
  have Hev : Hid (encF x = (68, strB [UInt8.ofNat (83 : Int).toNat] x.name, 0)) := Lib.hid (by unfold encF; rw [if_pos hck]; unfold bodyF; simp_all)
  rw [hck] at HK
  clear hck
  have Hsm := Lib.hid hsm
  obtain ⟨hn, hp, ht, ho, hf, hr, hc, hb⟩ := hsm
  have HC : Hid (∀ w1 : World, EnI w w1 x a → (∀ i, w1.cell? ⟨w.heap.size, i, none⟩ = (foCells x a)[i]?) ∧ (∀ i, w1.cell? ⟨w.heap.size + 1, i, none⟩ = (#[.int .u8 0, .slice none 0 0] : Array Value)[i]?) ∧ (∀ i, w1.frozen? ⟨w.heap.size + 1, i, none⟩ = false)) := Lib.hid (fun w1 H => ⟨H.b.cell, H.m.cell, H.m.frozen⟩)
  have Hhb := Lib.hid hb
  unfold EncR
  rw [Hev.out]
  dsimp only
  obtain ⟨xk, xw, xn, xp, xt, xo, xf, xr, xc, xm⟩ := x
  obtain ⟨apo, aco, apf, acf, apr, acr, app, acp⟩ := a
  clear h hfb hb
  unfold foArg at *
  unfold foCells at *
  dsimp only at *
  subst hk
  subst hw
  subst hempty
  go_enter Try.func27, Try.ntmps27
  go_upto_region 1 with (fail)
  generalize (w.alloc (.cells #[.int .u8 68, .int .u8 83, .string xn, .string ⟨#[]⟩, .string xt, .slice apo xo.length aco, .slice apf xf.length acf, .slice apr xr.length acr, .slice app xc.length acp, .int .i64 xm] 44)).alloc (.cells #[.int .u8 0, .slice none 0 0] 47) = w1 at *
  obtain ⟨hc1, hm1, hf1⟩ := HC.out w1 H0.out
  go_wp2_with fail
  refine (HK.out w1 H0.out).mono ?_
  rintro e w2 ⟨rfl, hb2⟩
  have H2 := Lib.hid (H0.out.step hb2)
  obtain ⟨hc2, hm2, hf2⟩ := HC.out w2 H2.out
  clear hb2 hc1 hm1 hf1
  have hg2 : w.heap.size + 2 ≤ w2.heap.size := by have := H2.out.m.lt; omega
  have hal : Below w2.heap.size w2 (w2.alloc (.cells #[.int .u8 83] 5)) := (Below.refl _ _).alloc (Nat.le_refl _) _
  have Hs := Lib.hid (rstr_any w2.heap.size (.slice (some ⟨w2.heap.size, 0, none⟩) 1 1) [UInt8.ofNat (83 : Int).toNat] xn _ (own_byte w2 w2.heap.size 83 (Nat.le_refl _) (by omega) (by omega)) hal.size (by simp) (by omega))
  have Hal := Lib.hid hal
  have Hax := Lib.hid (H2.out.step hal)
  obtain ⟨hca, -, -⟩ := HC.out _ Hax.out
  clear hal
  go_wp2_with fail
  rw [app_empty]
  refine Hs.out.mono ?_
  rintro e wn1 ⟨u1, rfl, ho1, hb1⟩
  have Ho1 := Lib.hid ho1
  have HE1 := Lib.hid (H2.out.step2 ((Hal.out.trans hb1).mono hg2))
  clear ho1 hb1 hca
  clear hc2 hm2 hf2
  obtain ⟨hc9, hm9, hf9⟩ := HC.out wn1 HE1.out
  obtain ⟨ne, pe, ce, hve⟩ : ∃ n p c, u1 = .slice p n c := (by obtain ⟨p, c, h, _⟩ := OwnBR.slice Ho1.out; exact ⟨_, p, c, h⟩)
  subst hve
  go_upto_region 17 with fail
  have hM2 := HE1.out
  go_wp2_with fail
  have hT9 : Touch (fun k => k = w.heap.size + 1) wn1 ((wn1.setCell ⟨w.heap.size + 1, 0, none⟩ (.int .u8 68)).setCell ⟨w.heap.size + 1, 1, none⟩ (.slice pe ne ce)) := ((Touch.refl (fun k => k = w.heap.size + 1) _).setCell (x := ⟨w.heap.size + 1, 0, none⟩) (fun _ => rfl) _).setCell (x := ⟨w.heap.size + 1, 1, none⟩) (fun _ => rfl) _
  have h9 := ((hM2.m.set_ 0 (.int .u8 68)).set_ 1 (.slice pe ne ce))
  simp only [List.setIfInBounds_toArray, List.set_cons_succ, List.set_cons_zero] at h9
  have HO := Lib.hid (OwnR.base (Ho1.out.touch hT9 (fun k hk e => by have := (Ho1.out.row k hk).1; omega)) (show w.heap.size ≤ w2.heap.size by omega))
  have HB := Lib.hid (hM2.bel.trans (hT9.below hM2.bel.size (fun k hk => by omega)))
  have hcf := h9.cell
  clear hT9 h9 hM2 hc9 hm9 hf9
  refine bodyPost_ret (v := .tuple #[.agg #[.int .u8 68, .slice pe ne ce], .int .i64 0]) (by simp [results, Try.results27, go_sem, hcf]) rfl ?_
  exact ⟨_, rfl, HO.out, HB.out⟩

set_option maxRecDepth 100000 in
set_option maxHeartbeats 4000000 in
theorem renc_N68 (S : Nat → Prop) (x : FoV) (a : FoP) (w : World) (h : FoL S w x a) (hfb : FoB x) (hsm : SmallF x) (hck : checkF x = 0) (hk : x.kind = 68) (hw : x.what = 80) : Calls Try.prog 27 #[foArg x a] w (EncR x w) := by
  have H0 := Lib.hid (EnI.start h)
  have HK := Lib.hid (fun (w0 : World) (H : EnI w w0 x a) => rcheck_any _ x a w0 H.l hfb (by have := hsm.n; unfold maxLen; omega) (by have := hsm.p; unfold maxLen; omega) (by have := hsm.t; unfold maxLen; omega))
  have hkp := ok_kept hck
  have hempty : x.name = ⟨#[]⟩ := by
    unfold foEq headEq at hkp
    have hkk : (keptV x).name = ⟨#[]⟩ := by unfold keptV; rw [hk, hw]; simp
    rw [hkk] at hkp
    simp only [Bool.and_eq_true, beq_iff_eq] at hkp
    exact eq_empty hkp.1.2.2.1
  clear hkp
  have Hev : Hid (encF x = (68, strB [UInt8.ofNat (80 : Int).toNat] x.portal, 0)) := Lib.hid (by unfold encF; rw [if_pos hck]; unfold bodyF; simp_all)
  rw [hck] at HK
  clear hck
  have Hsm := Lib.hid hsm
  obtain ⟨hn, hp, ht, ho, hf, hr, hc, hb⟩ := hsm
  have HC : Hid (∀ w1 : World, EnI w w1 x a → (∀ i, w1.cell? ⟨w.heap.size, i, none⟩ = (foCells x a)[i]?) ∧ (∀ i, w1.cell? ⟨w.heap.size + 1, i, none⟩ = (#[.int .u8 0, .slice none 0 0] : Array Value)[i]?) ∧ (∀ i, w1.frozen? ⟨w.heap.size + 1, i, none⟩ = false)) := Lib.hid (fun w1 H => ⟨H.b.cell, H.m.cell, H.m.frozen⟩)
  have Hhb := Lib.hid hb
  unfold EncR
  rw [Hev.out]
  dsimp only
  obtain ⟨xk, xw, xn, xp, xt, xo, xf, xr, xc, xm⟩ := x
  obtain ⟨apo, aco, apf, acf, apr, acr, app, acp⟩ := a
  clear h hfb hb
  unfold foArg at *
  unfold foCells at *
  dsimp only at *
  subst hk
  subst hw
  subst hempty
  go_enter Try.func27, Try.ntmps27
  go_upto_region 1 with (fail)
  generalize (w.alloc (.cells #[.int .u8 68, .int .u8 80, .string ⟨#[]⟩, .string xp, .string xt, .slice apo xo.length aco, .slice apf xf.length acf, .slice apr xr.length acr, .slice app xc.length acp, .int .i64 xm] 44)).alloc (.cells #[.int .u8 0, .slice none 0 0] 47) = w1 at *
  obtain ⟨hc1, hm1, hf1⟩ := HC.out w1 H0.out
  go_wp2_with fail
  refine (HK.out w1 H0.out).mono ?_
  rintro e w2 ⟨rfl, hb2⟩
  have H2 := Lib.hid (H0.out.step hb2)
  obtain ⟨hc2, hm2, hf2⟩ := HC.out w2 H2.out
  clear hb2 hc1 hm1 hf1
  have hg2 : w.heap.size + 2 ≤ w2.heap.size := by have := H2.out.m.lt; omega
  have hal : Below w2.heap.size w2 (w2.alloc (.cells #[.int .u8 80] 5)) := (Below.refl _ _).alloc (Nat.le_refl _) _
  have Hs := Lib.hid (rstr_any w2.heap.size (.slice (some ⟨w2.heap.size, 0, none⟩) 1 1) [UInt8.ofNat (80 : Int).toNat] xp _ (own_byte w2 w2.heap.size 80 (Nat.le_refl _) (by omega) (by omega)) hal.size (by simp) (by omega))
  have Hal := Lib.hid hal
  have Hax := Lib.hid (H2.out.step hal)
  obtain ⟨hca, -, -⟩ := HC.out _ Hax.out
  clear hal
  go_wp2_with fail
  rw [empty_app]
  refine Hs.out.mono ?_
  rintro e wn1 ⟨u1, rfl, ho1, hb1⟩
  have Ho1 := Lib.hid ho1
  have HE1 := Lib.hid (H2.out.step2 ((Hal.out.trans hb1).mono hg2))
  clear ho1 hb1 hca
  clear hc2 hm2 hf2
  obtain ⟨hc9, hm9, hf9⟩ := HC.out wn1 HE1.out
  obtain ⟨ne, pe, ce, hve⟩ : ∃ n p c, u1 = .slice p n c := (by obtain ⟨p, c, h, _⟩ := OwnBR.slice Ho1.out; exact ⟨_, p, c, h⟩)
  subst hve
  go_upto_region 17 with fail
  have hM2 := HE1.out
  go_wp2_with fail
  have hT9 : Touch (fun k => k = w.heap.size + 1) wn1 ((wn1.setCell ⟨w.heap.size + 1, 0, none⟩ (.int .u8 68)).setCell ⟨w.heap.size + 1, 1, none⟩ (.slice pe ne ce)) := ((Touch.refl (fun k => k = w.heap.size + 1) _).setCell (x := ⟨w.heap.size + 1, 0, none⟩) (fun _ => rfl) _).setCell (x := ⟨w.heap.size + 1, 1, none⟩) (fun _ => rfl) _
  have h9 := ((hM2.m.set_ 0 (.int .u8 68)).set_ 1 (.slice pe ne ce))
  simp only [List.setIfInBounds_toArray, List.set_cons_succ, List.set_cons_zero] at h9
  have HO := Lib.hid (OwnR.base (Ho1.out.touch hT9 (fun k hk e => by have := (Ho1.out.row k hk).1; omega)) (show w.heap.size ≤ w2.heap.size by omega))
  have HB := Lib.hid (hM2.bel.trans (hT9.below hM2.bel.size (fun k hk => by omega)))
  have hcf := h9.cell
  clear hT9 h9 hM2 hc9 hm9 hf9
  refine bodyPost_ret (v := .tuple #[.agg #[.int .u8 68, .slice pe ne ce], .int .i64 0]) (by simp [results, Try.results27, go_sem, hcf]) rfl ?_
  exact ⟨_, rfl, HO.out, HB.out⟩

set_option maxRecDepth 100000 in
set_option maxHeartbeats 4000000 in
theorem renc_O (S : Nat → Prop) (x : FoV) (a : FoP) (w : World) (h : FoL S w x a) (hfb : FoB x) (hsm : SmallF x) (hck : checkF x = 0) (hk : ∀ n ∈ [80, 66, 67, 68, 69, 81], (x.kind == n) = false) : Calls Try.prog 27 #[foArg x a] w (EncR x w) := by
  have H0 := Lib.hid (EnI.start h)
  have HK := Lib.hid (fun (w0 : World) (H : EnI w w0 x a) => rcheck_any _ x a w0 H.l hfb (by have := hsm.n; unfold maxLen; omega) (by have := hsm.p; unfold maxLen; omega) (by have := hsm.t; unfold maxLen; omega))
  have g1 := hk 80 (by simp)
  have g2 := hk 66 (by simp)
  have g3 := hk 67 (by simp)
  have g4 := hk 68 (by simp)
  have g5 := hk 69 (by simp)
  have g6 := hk 81 (by simp)
  clear hk
  have Hev : Hid (encF x = (x.kind, [], 0)) := Lib.hid (by unfold encF; rw [if_pos hck]; unfold bodyF; simp_all)
  rw [hck] at HK
  clear hck
  have Hsm := Lib.hid hsm
  obtain ⟨hn, hp, ht, ho, hf, hr, hc, hb⟩ := hsm
  have HC : Hid (∀ w1 : World, EnI w w1 x a → (∀ i, w1.cell? ⟨w.heap.size, i, none⟩ = (foCells x a)[i]?) ∧ (∀ i, w1.cell? ⟨w.heap.size + 1, i, none⟩ = (#[.int .u8 0, .slice none 0 0] : Array Value)[i]?) ∧ (∀ i, w1.frozen? ⟨w.heap.size + 1, i, none⟩ = false)) := Lib.hid (fun w1 H => ⟨H.b.cell, H.m.cell, H.m.frozen⟩)
  have Hhb := Lib.hid hb
  unfold EncR
  rw [Hev.out]
  dsimp only
  obtain ⟨xk, xw, xn, xp, xt, xo, xf, xr, xc, xm⟩ := x
  obtain ⟨apo, aco, apf, acf, apr, acr, app, acp⟩ := a
  clear h hfb hb
  unfold foArg at *
  unfold foCells at *
  dsimp only at *
  go_enter Try.func27, Try.ntmps27
  go_upto_region 1 with (fail)
  generalize (w.alloc (.cells #[.int .u8 xk, .int .u8 xw, .string xn, .string xp, .string xt, .slice apo xo.length aco, .slice apf xf.length acf, .slice apr xr.length acr, .slice app xc.length acp, .int .i64 xm] 44)).alloc (.cells #[.int .u8 0, .slice none 0 0] 47) = w1 at *
  obtain ⟨hc1, hm1, hf1⟩ := HC.out w1 H0.out
  go_wp2_with fail
  refine (HK.out w1 H0.out).mono ?_
  rintro e w2 ⟨rfl, hb2⟩
  have H2 := Lib.hid (H0.out.step hb2)
  obtain ⟨hc2, hm2, hf2⟩ := HC.out w2 H2.out
  clear hb2 hc1 hm1 hf1
  have hg2 : w.heap.size + 2 ≤ w2.heap.size := by have := H2.out.m.lt; omega
  have Ho1 : Hid (OwnBR w2.heap.size w2 (.slice none 0 0) []) := Lib.hid (OwnBR.empty _ _ _)
  go_upto_region 17 with fail
  have hM2 := H2.out
  go_wp2_with fail
  have hT9 : Touch (fun k => k = w.heap.size + 1) w2 ((w2.setCell ⟨w.heap.size + 1, 0, none⟩ (.int .u8 xk)).setCell ⟨w.heap.size + 1, 1, none⟩ (.slice none 0 0)) := ((Touch.refl (fun k => k = w.heap.size + 1) _).setCell (x := ⟨w.heap.size + 1, 0, none⟩) (fun _ => rfl) _).setCell (x := ⟨w.heap.size + 1, 1, none⟩) (fun _ => rfl) _
  have h9 := ((hM2.m.set_ 0 (.int .u8 xk)).set_ 1 (.slice none 0 0))
  simp only [List.setIfInBounds_toArray, List.set_cons_succ, List.set_cons_zero] at h9
  have HO := Lib.hid (OwnR.base (Ho1.out.touch hT9 (fun k hk e => by have := (Ho1.out.row k hk).1; omega)) (show w.heap.size ≤ w2.heap.size by omega))
  have HB := Lib.hid (hM2.bel.trans (hT9.below hM2.bel.size (fun k hk => by omega)))
  have hcf := h9.cell
  clear hT9 h9 hM2 hc2 hm2 hf2
  refine bodyPost_ret (v := .tuple #[.agg #[.int .u8 xk, .slice none 0 0], .int .i64 0]) (by simp [results, Try.results27, go_sem, hcf]) rfl ?_
  exact ⟨_, rfl, HO.out, HB.out⟩

theorem renc_any (S : Nat → Prop) (x : FoV) (a : FoP) (w : World) (h : FoL S w x a) (hfb : FoB x) (hsm : SmallF x) : Calls Try.prog 27 #[foArg x a] w (EncR x w) := by
  by_cases hck : checkF x = 0
  · have hw := ok_what hck
    rcases kind_cases x.kind with hk | hk | hk | hk | hk | hk | hk
    · exact renc_P S x a w h hfb hsm hck hk
    · exact renc_B S x a w h hfb hsm hck hk
    · have hw' : x.what = 83 ∨ x.what = 80 := by unfold whatV at hw; rw [if_pos (.inl hk)] at hw; simpa using hw
      rcases hw' with e | e
      · exact renc_S67 S x a w h hfb hsm hck hk e
      · exact renc_N67 S x a w h hfb hsm hck hk e
    · have hw' : x.what = 83 ∨ x.what = 80 := by unfold whatV at hw; rw [if_pos (.inr hk)] at hw; simpa using hw
      rcases hw' with e | e
      · exact renc_S68 S x a w h hfb hsm hck hk e
      · exact renc_N68 S x a w h hfb hsm hck hk e
    · exact renc_E S x a w h hfb hsm hck hk
    · exact renc_Q S x a w h hfb hsm hck hk
    · exact renc_O S x a w h hfb hsm hck hk
  · exact renc_no S x a w h hfb hsm hck

end Go.Proofs.Ytldjfmddjbdciaa
