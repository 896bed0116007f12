/-
  Messages of servers (layer 7): remudaref07.Encode.
-/
import Derived.Test.YthhebfknikfleaaGreatPbDXBaQ
import Derived.Test.YthhebfknikfleaaGreatPbDXBaK
namespace Go.Proofs.YthhebfknikfleaaGreat
open Go.RowKit
set_option linter.unusedVariables false
set_option linter.unusedSimpArgs false

set_option maxRecDepth 100000 in
set_option maxHeartbeats 4000000 in
theorem rbenc_no (S : Nat → Prop) (x : BaV) (a : BaP) (w : World) (h : BaL S w x a) (hfb : BaB x) (hsm : SmallB x) (hck : checkB x ≠ 0) : Calls Tryz.prog 18 #[baArg x a] w (EncB x w) := by
  have H0 := Lib.hid (EbI.start h)
  have HK := Lib.hid (fun (w0 : World) (H : EbI w w0 x a) => rbcheck_any _ x a w0 H.l hfb (by have := hsm.t; unfold maxLen; omega) (by have := hsm.n; unfold maxLen; omega) (by have := hsm.v; unfold maxLen; omega))
  have Hev : Hid (encB x = (0, [], checkB x)) := Lib.hid (by unfold encB; rw [if_neg hck])
  generalize checkB x = cv at *
  have Hsm := Lib.hid hsm
  have Hfb := Lib.hid hfb
  have HC : Hid (∀ w1 : World, EbI w w1 x a → (∀ i, w1.cell? ⟨w.heap.size, i, none⟩ = (baCells x a)[i]?) ∧ (∀ i, w1.cell? ⟨w.heap.size + 1, i, none⟩ = (#[.int .u8 0, .slice none 0 0] : Array Value)[i]?) ∧ (∀ i, w1.frozen? ⟨w.heap.size + 1, i, none⟩ = false)) := Lib.hid (fun w1 H => ⟨H.b.cell, H.m.cell, H.m.frozen⟩)
  unfold EncB
  rw [Hev.out]
  dsimp only
  obtain ⟨xk, xs, xt, xn, xv, xa, xb, xo, xc, xr, xf⟩ := x
  obtain ⟨apo, aco, apc, acc, apr, acr, apf, acf⟩ := a
  clear h hfb hsm
  unfold baArg at *
  unfold baCells at *
  dsimp only at *
  go_enter Tryz.func18, Tryz.ntmps18
  go_upto_region 1 with (fail)
  generalize (w.alloc (.cells #[.int .u8 xk, .int .u8 xs, .string xt, .string xn, .string xv, .int .i64 xa, .int .i64 xb, .slice apo xo.length aco, .slice apc xc.length acc, .slice apr xr.length acr, .slice apf xf.length acf] 39)).alloc (.cells #[.int .u8 0, .slice none 0 0] 42) = w1 at *
  obtain ⟨hc1, hm1, hf1⟩ := HC.out w1 H0.out
  go_wp2_with fail
  refine (HK.out w1 H0.out).mono ?_
  rintro e w2 ⟨rfl, hb2⟩
  have H2 := Lib.hid (H0.out.step hb2)
  obtain ⟨hc2, hm2, hf2⟩ := HC.out w2 H2.out
  clear hb2 hc1 hm1 hf1
  have hcb : (cv == 0) = false := by simpa using hck
  clear hck
  go_wp2_with fail
  have hM2 := H2.out
  have hT9 : Touch (fun k => k = w.heap.size + 1) w2 ((w2.setCell ⟨w.heap.size + 1, 0, none⟩ (.int .u8 0)).setCell ⟨w.heap.size + 1, 1, none⟩ (.slice none 0 0)) := ((Touch.refl (fun k => k = w.heap.size + 1) _).setCell (x := ⟨w.heap.size + 1, 0, none⟩) (fun _ => rfl) _).setCell (x := ⟨w.heap.size + 1, 1, none⟩) (fun _ => rfl) _
  have h9 := ((hM2.m.set_ 0 (.int .u8 0)).set_ 1 (.slice none 0 0))
  simp only [List.setIfInBounds_toArray, List.set_cons_succ, List.set_cons_zero] at h9
  have hcf := h9.cell
  have HB := Lib.hid (hM2.bel.trans (hT9.below hM2.bel.size (fun k hk => by omega)))
  clear hT9 h9 hM2 hc2 hm2 hf2
  refine bodyPost_ret (v := .tuple #[.agg #[.int .u8 0, .slice none 0 0], .int .i64 cv]) (by simp [results, Tryz.results18, go_sem, hcf]) rfl ?_
  exact ⟨_, rfl, OwnBR.empty _ _ _, HB.out⟩

set_option maxRecDepth 100000 in
set_option maxHeartbeats 4000000 in
theorem rbenc_R (S : Nat → Prop) (x : BaV) (a : BaP) (w : World) (h : BaL S w x a) (hfb : BaB x) (hsm : SmallB x) (hck : checkB x = 0) (hk : x.kind = 82) : Calls Tryz.prog 18 #[baArg x a] w (EncB x w) := by
  have H0 := Lib.hid (EbI.start h)
  have HK := Lib.hid (fun (w0 : World) (H : EbI w w0 x a) => rbcheck_any _ x a w0 H.l hfb (by have := hsm.t; unfold maxLen; omega) (by have := hsm.n; unfold maxLen; omega) (by have := hsm.v; unfold maxLen; omega))
  have Hev : Hid (encB x = (82, putV [] 0 4, 0)) := Lib.hid (by unfold encB; rw [if_pos hck]; unfold bodyB; simp_all)
  rw [hck] at HK
  clear hck
  have Hsm := Lib.hid hsm
  have Hfb := Lib.hid hfb
  have HC : Hid (∀ w1 : World, EbI w w1 x a → (∀ i, w1.cell? ⟨w.heap.size, i, none⟩ = (baCells x a)[i]?) ∧ (∀ i, w1.cell? ⟨w.heap.size + 1, i, none⟩ = (#[.int .u8 0, .slice none 0 0] : Array Value)[i]?) ∧ (∀ i, w1.frozen? ⟨w.heap.size + 1, i, none⟩ = false)) := Lib.hid (fun w1 H => ⟨H.b.cell, H.m.cell, H.m.frozen⟩)
  unfold EncB
  rw [Hev.out]
  dsimp only
  obtain ⟨xk, xs, xt, xn, xv, xa, xb, xo, xc, xr, xf⟩ := x
  obtain ⟨apo, aco, apc, acc, apr, acr, apf, acf⟩ := a
  clear h hfb hsm
  unfold baArg at *
  unfold baCells at *
  dsimp only at *
  subst hk
  go_enter Tryz.func18, Tryz.ntmps18
  go_upto_region 1 with (fail)
  generalize (w.alloc (.cells #[.int .u8 82, .int .u8 xs, .string xt, .string xn, .string xv, .int .i64 xa, .int .i64 xb, .slice apo xo.length aco, .slice apc xc.length acc, .slice apr xr.length acr, .slice apf xf.length acf] 39)).alloc (.cells #[.int .u8 0, .slice none 0 0] 42) = w1 at *
  obtain ⟨hc1, hm1, hf1⟩ := HC.out w1 H0.out
  go_wp2_with fail
  refine (HK.out w1 H0.out).mono ?_
  rintro e w2 ⟨rfl, hb2⟩
  have H2 := Lib.hid (H0.out.step hb2)
  obtain ⟨hc2, hm2, hf2⟩ := HC.out w2 H2.out
  clear hb2 hc1 hm1 hf1
  have hg2 : w.heap.size + 2 ≤ w2.heap.size := by have := H2.out.m.lt; omega
  have Ht := Lib.hid (putR2_any none [] 0 0 4 w2 (by simp) (BytesIn.nil _ _))
  go_wp2_with fail
  refine Ht.out.mono ?_
  rintro e w4 ⟨p4, c4, rfl, ho, -, hb⟩
  have H4 := Lib.hid (H2.out.step hb)
  have HO4 : Hid (OwnBR w2.heap.size w4 _ _) := Lib.hid ho
  clear hb hc2 hm2 hf2 Ht
  obtain ⟨hc4, hm4, hf4⟩ := HC.out w4 H4.out
  clear ho
  obtain ⟨n4, hn4⟩ : ∃ n, (putV [] 0 4).length = n := ⟨_, rfl⟩
  have HO4' : Hid (OwnBR w2.heap.size w4 (.slice p4 n4 c4) (putV [] 0 4)) := Lib.hid (by rw [← hn4]; exact HO4.out)
  rw [hn4]
  clear HO4 hn4
  have HO4 := HO4'
  clear HO4'
  go_wp2_with fail
  have hM2 := H4.out
  have hT9 : Touch (fun k => k = w.heap.size + 1) w4 ((w4.setCell ⟨w.heap.size + 1, 0, none⟩ (.int .u8 82)).setCell ⟨w.heap.size + 1, 1, none⟩ (.slice p4 n4 c4)) := ((Touch.refl (fun k => k = w.heap.size + 1) _).setCell (x := ⟨w.heap.size + 1, 0, none⟩) (fun _ => rfl) _).setCell (x := ⟨w.heap.size + 1, 1, none⟩) (fun _ => rfl) _
  have h9 := ((hM2.m.set_ 0 (.int .u8 82)).set_ 1 (.slice p4 n4 c4))
  simp only [List.setIfInBounds_toArray, List.set_cons_succ, List.set_cons_zero] at h9
  have hcf := h9.cell
  have HB := Lib.hid (hM2.bel.trans (hT9.below hM2.bel.size (fun k hk => by omega)))
  have HO9 := Lib.hid (OwnR.base (HO4.out.touch hT9 (fun k hk e => by have := (HO4.out.row k hk).1; omega)) (show w.heap.size ≤ w2.heap.size by omega))
  clear hT9 h9 hM2 hc4 hm4 hf4
  refine bodyPost_ret (v := .tuple #[.agg #[.int .u8 82, .slice p4 n4 c4], .int .i64 0]) (by simp [results, Tryz.results18, go_sem, hcf]) rfl ?_
  exact ⟨_, rfl, HO9.out, HB.out⟩

set_option maxRecDepth 100000 in
set_option maxHeartbeats 4000000 in
theorem rbenc_S (S : Nat → Prop) (x : BaV) (a : BaP) (w : World) (h : BaL S w x a) (hfb : BaB x) (hsm : SmallB x) (hck : checkB x = 0) (hk : x.kind = 83) : Calls Tryz.prog 18 #[baArg x a] w (EncB x w) := by
  have H0 := Lib.hid (EbI.start h)
  have HK := Lib.hid (fun (w0 : World) (H : EbI w w0 x a) => rbcheck_any _ x a w0 H.l hfb (by have := hsm.t; unfold maxLen; omega) (by have := hsm.n; unfold maxLen; omega) (by have := hsm.v; unfold maxLen; omega))
  have Hev : Hid (encB x = (83, strB (strB [] x.name) x.value, 0)) := Lib.hid (by unfold encB; rw [if_pos hck]; unfold bodyB; simp_all)
  rw [hck] at HK
  clear hck
  have Hsm := Lib.hid hsm
  have Hfb := Lib.hid hfb
  have HC : Hid (∀ w1 : World, EbI w w1 x a → (∀ i, w1.cell? ⟨w.heap.size, i, none⟩ = (baCells x a)[i]?) ∧ (∀ i, w1.cell? ⟨w.heap.size + 1, i, none⟩ = (#[.int .u8 0, .slice none 0 0] : Array Value)[i]?) ∧ (∀ i, w1.frozen? ⟨w.heap.size + 1, i, none⟩ = false)) := Lib.hid (fun w1 H => ⟨H.b.cell, H.m.cell, H.m.frozen⟩)
  unfold EncB
  rw [Hev.out]
  dsimp only
  obtain ⟨xk, xs, xt, xn, xv, xa, xb, xo, xc, xr, xf⟩ := x
  obtain ⟨apo, aco, apc, acc, apr, acr, apf, acf⟩ := a
  clear h hfb hsm
  unfold baArg at *
  unfold baCells at *
  dsimp only at *
  subst hk
  go_enter Tryz.func18, Tryz.ntmps18
  go_upto_region 1 with (fail)
  generalize (w.alloc (.cells #[.int .u8 83, .int .u8 xs, .string xt, .string xn, .string xv, .int .i64 xa, .int .i64 xb, .slice apo xo.length aco, .slice apc xc.length acc, .slice apr xr.length acr, .slice apf xf.length acf] 39)).alloc (.cells #[.int .u8 0, .slice none 0 0] 42) = w1 at *
  obtain ⟨hc1, hm1, hf1⟩ := HC.out w1 H0.out
  go_wp2_with fail
  refine (HK.out w1 H0.out).mono ?_
  rintro e w2 ⟨rfl, hb2⟩
  have H2 := Lib.hid (H0.out.step hb2)
  obtain ⟨hc2, hm2, hf2⟩ := HC.out w2 H2.out
  clear hb2 hc1 hm1 hf1
  have hg2 : w.heap.size + 2 ≤ w2.heap.size := by have := H2.out.m.lt; omega
  go_upto_region 9 with fail
  go_region_held3 (fun w' => ∀ i, w'.cell? ⟨w.heap.size, i, none⟩ = (#[.int .u8 83, .int .u8 xs, .string xt, .string xn, .string xv, .int .i64 xa, .int .i64 xb, .slice apo xo.length aco, .slice apc xc.length acc, .slice apr xr.length acr, .slice apf xf.length acf] : Array Value)[i]?)
    (first | exact hc2 | exact (HC.out _ H5.out).1 | exact (HC.out _ H4.out).1 | go_keep)
    (first | (go_at_call 47; refine (rstr2_any w2.heap.size _ (strB [] xn) xv w5 Ho5.out hz5 (by have e1 := strB_len [] xn; have := Hsm.out.n; dsimp only at this; simp only [nilLen] at e1; omega) (by have := Hsm.out.v; dsimp only at this; omega)).mono ?_; rintro e w4 ⟨p4, c4, rfl, ho, -, hT⟩; have HO4 := Lib.hid ho; have H4 := Lib.hid (H5.out.step2 (hT.below (by omega) (fun k e => by have := (Ho5.out.row k e).1; omega))); clear ho hT) | (go_at_call 47; refine (rstr2_any w2.heap.size _ [] xn w2.drew (OwnBR.empty _ _ none) (Nat.le_refl _) (by simp) (by have := Hsm.out.n; dsimp only at this; omega)).mono ?_; rintro e w5 ⟨p5, c5, rfl, ho, -, hT⟩; have Ho5 := Lib.hid ho; have hT' := ((Touch.refl (fun k => rowOf (.slice none 0 0) = some k) w2).drew).trans hT; have H5 := Lib.hid (H2.out.step2 (hT'.below (by omega) (fun k e => by simp [rowOf] at e))); have hz5 : w2.heap.size ≤ w5.heap.size := hT'.size; clear ho hT hT'))
  obtain ⟨hc4, hm4, hf4⟩ := HC.out w4 H4.out
  clear hc2 hm2 hf2
  obtain ⟨n4, hn4⟩ : ∃ n, (strB (strB [] xn) xv).length = n := ⟨_, rfl⟩
  have HO4' : Hid (OwnBR w2.heap.size w4 (.slice p4 n4 c4) (strB (strB [] xn) xv)) := Lib.hid (by rw [← hn4]; exact HO4.out)
  clear HO4
  have HO4 := HO4'
  rw [hn4]
  clear HO4' hn4
  go_wp2_with fail
  have hM2 := H4.out
  have hT9 : Touch (fun k => k = w.heap.size + 1) w4 ((w4.setCell ⟨w.heap.size + 1, 0, none⟩ (.int .u8 83)).setCell ⟨w.heap.size + 1, 1, none⟩ (.slice p4 n4 c4)) := ((Touch.refl (fun k => k = w.heap.size + 1) _).setCell (x := ⟨w.heap.size + 1, 0, none⟩) (fun _ => rfl) _).setCell (x := ⟨w.heap.size + 1, 1, none⟩) (fun _ => rfl) _
  have h9 := ((hM2.m.set_ 0 (.int .u8 83)).set_ 1 (.slice p4 n4 c4))
  simp only [List.setIfInBounds_toArray, List.set_cons_succ, List.set_cons_zero] at h9
  have hcf := h9.cell
  have HB := Lib.hid (hM2.bel.trans (hT9.below hM2.bel.size (fun k hk => by omega)))
  have HO9 := Lib.hid (OwnR.base (HO4.out.touch hT9 (fun k hk e => by have := (HO4.out.row k hk).1; omega)) (show w.heap.size ≤ w2.heap.size by omega))
  clear hT9 h9 hM2 hc4 hm4 hf4
  refine bodyPost_ret (v := .tuple #[.agg #[.int .u8 83, .slice p4 n4 c4], .int .i64 0]) (by simp [results, Tryz.results18, go_sem, hcf]) rfl ?_
  exact ⟨_, rfl, HO9.out, HB.out⟩

set_option maxRecDepth 100000 in
set_option maxHeartbeats 4000000 in
theorem rbenc_K (S : Nat → Prop) (x : BaV) (a : BaP) (w : World) (h : BaL S w x a) (hfb : BaB x) (hsm : SmallB x) (hck : checkB x = 0) (hk : x.kind = 75) : Calls Tryz.prog 18 #[baArg x a] w (EncB x w) := by
  have H0 := Lib.hid (EbI.start h)
  have HK := Lib.hid (fun (w0 : World) (H : EbI w w0 x a) => rbcheck_any _ x a w0 H.l hfb (by have := hsm.t; unfold maxLen; omega) (by have := hsm.n; unfold maxLen; omega) (by have := hsm.v; unfold maxLen; omega))
  have Hev : Hid (encB x = (75, putV (putV [] x.n 4) x.m 4, 0)) := Lib.hid (by unfold encB; rw [if_pos hck]; unfold bodyB; simp_all)
  rw [hck] at HK
  clear hck
  have Hsm := Lib.hid hsm
  have Hfb := Lib.hid hfb
  have HC : Hid (∀ w1 : World, EbI w w1 x a → (∀ i, w1.cell? ⟨w.heap.size, i, none⟩ = (baCells x a)[i]?) ∧ (∀ i, w1.cell? ⟨w.heap.size + 1, i, none⟩ = (#[.int .u8 0, .slice none 0 0] : Array Value)[i]?) ∧ (∀ i, w1.frozen? ⟨w.heap.size + 1, i, none⟩ = false)) := Lib.hid (fun w1 H => ⟨H.b.cell, H.m.cell, H.m.frozen⟩)
  unfold EncB
  rw [Hev.out]
  dsimp only
  obtain ⟨xk, xs, xt, xn, xv, xa, xb, xo, xc, xr, xf⟩ := x
  obtain ⟨apo, aco, apc, acc, apr, acr, apf, acf⟩ := a
  clear h hfb hsm
  unfold baArg at *
  unfold baCells at *
  dsimp only at *
  subst hk
  go_enter Tryz.func18, Tryz.ntmps18
  go_upto_region 1 with (fail)
  generalize (w.alloc (.cells #[.int .u8 75, .int .u8 xs, .string xt, .string xn, .string xv, .int .i64 xa, .int .i64 xb, .slice apo xo.length aco, .slice apc xc.length acc, .slice apr xr.length acr, .slice apf xf.length acf] 39)).alloc (.cells #[.int .u8 0, .slice none 0 0] 42) = w1 at *
  obtain ⟨hc1, hm1, hf1⟩ := HC.out w1 H0.out
  go_wp2_with fail
  refine (HK.out w1 H0.out).mono ?_
  rintro e w2 ⟨rfl, hb2⟩
  have H2 := Lib.hid (H0.out.step hb2)
  obtain ⟨hc2, hm2, hf2⟩ := HC.out w2 H2.out
  clear hb2 hc1 hm1 hf1
  have hg2 : w.heap.size + 2 ≤ w2.heap.size := by have := H2.out.m.lt; omega
  go_upto_region 11 with fail
  go_region_held3 (fun w' => ∀ i, w'.cell? ⟨w.heap.size, i, none⟩ = (#[.int .u8 75, .int .u8 xs, .string xt, .string xn, .string xv, .int .i64 xa, .int .i64 xb, .slice apo xo.length aco, .slice apc xc.length acc, .slice apr xr.length acr, .slice apf xf.length acf] : Array Value)[i]?)
    (first | exact hc2 | exact (HC.out _ H5.out).1 | exact (HC.out _ H4.out).1 | go_keep)
    (first | (go_at_call 46; refine (putR2_any p5 _ c5 xb 4 w5 (by have e1 := putV_len4 [] xa 4; simp only [nilLen] at e1; omega) Hq5.out).mono ?_; rintro e w4 ⟨p4, c4, rfl, ho, -, hb⟩; have HO4 : Hid (OwnBR w2.heap.size w4 _ _) := Lib.hid (OwnR.base ho hz5); have H4 := Lib.hid (H5.out.step hb); clear ho hb) | (go_at_call 46; refine (putR2_any none [] 0 xa 4 w2.drew (by simp) (BytesIn.nil _ _)).mono ?_; rintro e w5 ⟨p5, c5, rfl, ho, hq, hb⟩; have hb' : Below w2.heap.size w2 w5 := (bel_drew w2).trans hb; have Hq5 := Lib.hid hq; have H5 := Lib.hid (H2.out.step hb'); have hz5 : w2.heap.size ≤ w5.heap.size := hb'.size; clear ho hq hb hb'))
  obtain ⟨hc4, hm4, hf4⟩ := HC.out w4 H4.out
  clear hc2 hm2 hf2
  obtain ⟨n4, hn4⟩ : ∃ n, (putV (putV [] xa 4) xb 4).length = n := ⟨_, rfl⟩
  have HO4' : Hid (OwnBR w2.heap.size w4 (.slice p4 n4 c4) (putV (putV [] xa 4) xb 4)) := Lib.hid (by rw [← hn4]; exact HO4.out)
  clear HO4
  have HO4 := HO4'
  rw [hn4]
  clear HO4' hn4
  go_wp2_with fail
  have hM2 := H4.out
  have hT9 : Touch (fun k => k = w.heap.size + 1) w4 ((w4.setCell ⟨w.heap.size + 1, 0, none⟩ (.int .u8 75)).setCell ⟨w.heap.size + 1, 1, none⟩ (.slice p4 n4 c4)) := ((Touch.refl (fun k => k = w.heap.size + 1) _).setCell (x := ⟨w.heap.size + 1, 0, none⟩) (fun _ => rfl) _).setCell (x := ⟨w.heap.size + 1, 1, none⟩) (fun _ => rfl) _
  have h9 := ((hM2.m.set_ 0 (.int .u8 75)).set_ 1 (.slice p4 n4 c4))
  simp only [List.setIfInBounds_toArray, List.set_cons_succ, List.set_cons_zero] at h9
  have hcf := h9.cell
  have HB := Lib.hid (hM2.bel.trans (hT9.below hM2.bel.size (fun k hk => by omega)))
  have HO9 := Lib.hid (OwnR.base (HO4.out.touch hT9 (fun k hk e => by have := (HO4.out.row k hk).1; omega)) (show w.heap.size ≤ w2.heap.size by omega))
  clear hT9 h9 hM2 hc4 hm4 hf4
  refine bodyPost_ret (v := .tuple #[.agg #[.int .u8 75, .slice p4 n4 c4], .int .i64 0]) (by simp [results, Tryz.results18, go_sem, hcf]) rfl ?_
  exact ⟨_, rfl, HO9.out, HB.out⟩

set_option maxRecDepth 100000 in
set_option maxHeartbeats 4000000 in
theorem rbenc_Z (S : Nat → Prop) (x : BaV) (a : BaP) (w : World) (h : BaL S w x a) (hfb : BaB x) (hsm : SmallB x) (hck : checkB x = 0) (hk : x.kind = 90) : Calls Tryz.prog 18 #[baArg x a] w (EncB x w) := by
  have H0 := Lib.hid (EbI.start h)
  have HK := Lib.hid (fun (w0 : World) (H : EbI w w0 x a) => rbcheck_any _ x a w0 H.l hfb (by have := hsm.t; unfold maxLen; omega) (by have := hsm.n; unfold maxLen; omega) (by have := hsm.v; unfold maxLen; omega))
  have Hev : Hid (encB x = (90, [UInt8.ofNat x.status.toNat], 0)) := Lib.hid (by unfold encB; rw [if_pos hck]; unfold bodyB; simp_all)
  rw [hck] at HK
  clear hck
  have Hsm := Lib.hid hsm
  have Hfb := Lib.hid hfb
  have HC : Hid (∀ w1 : World, EbI w w1 x a → (∀ i, w1.cell? ⟨w.heap.size, i, none⟩ = (baCells x a)[i]?) ∧ (∀ i, w1.cell? ⟨w.heap.size + 1, i, none⟩ = (#[.int .u8 0, .slice none 0 0] : Array Value)[i]?) ∧ (∀ i, w1.frozen? ⟨w.heap.size + 1, i, none⟩ = false)) := Lib.hid (fun w1 H => ⟨H.b.cell, H.m.cell, H.m.frozen⟩)
  unfold EncB
  rw [Hev.out]
  dsimp only
  obtain ⟨xk, xs, xt, xn, xv, xa, xb, xo, xc, xr, xf⟩ := x
  obtain ⟨apo, aco, apc, acc, apr, acr, apf, acf⟩ := a
  clear h hfb hsm
  unfold baArg at *
  unfold baCells at *
  dsimp only at *
  subst hk
  go_enter Tryz.func18, Tryz.ntmps18
  go_upto_region 1 with (fail)
  generalize (w.alloc (.cells #[.int .u8 90, .int .u8 xs, .string xt, .string xn, .string xv, .int .i64 xa, .int .i64 xb, .slice apo xo.length aco, .slice apc xc.length acc, .slice apr xr.length acr, .slice apf xf.length acf] 39)).alloc (.cells #[.int .u8 0, .slice none 0 0] 42) = w1 at *
  obtain ⟨hc1, hm1, hf1⟩ := HC.out w1 H0.out
  go_wp2_with fail
  refine (HK.out w1 H0.out).mono ?_
  rintro e w2 ⟨rfl, hb2⟩
  have H2 := Lib.hid (H0.out.step hb2)
  obtain ⟨hc2, hm2, hf2⟩ := HC.out w2 H2.out
  clear hb2 hc1 hm1 hf1
  have hg2 : w.heap.size + 2 ≤ w2.heap.size := by have := H2.out.m.lt; omega
  have hb0 := Hfb.out.2.2.1
  have hb1 := Hfb.out.2.2.2
  dsimp only at hb0 hb1
  have HO4 := Lib.hid (own_byteB w2 w2.heap.size xs (Nat.le_refl _) hb0 hb1)
  have H4 := Lib.hid (H2.out.step ((Below.refl _ _).alloc (Nat.le_refl _) (.cells #[.int .u8 xs] 5)))
  clear hb0 hb1
  go_upto_region 25 with fail
  obtain ⟨p4, n4, c4, hpn⟩ : ∃ (p : Option Addr) (n c : Nat), Value.slice (some ⟨w2.heap.size, 0, none⟩) 1 1 = .slice p n c := ⟨_, _, _, rfl⟩
  rw [hpn] at HO4 ⊢
  clear hpn
  generalize w2.alloc (.cells #[.int .u8 xs] 5) = w4 at *
  obtain ⟨hc4, hm4, hf4⟩ := HC.out w4 H4.out
  clear hc2 hm2 hf2
  go_wp2_with fail
  have hM2 := H4.out
  have hT9 : Touch (fun k => k = w.heap.size + 1) w4 ((w4.setCell ⟨w.heap.size + 1, 0, none⟩ (.int .u8 90)).setCell ⟨w.heap.size + 1, 1, none⟩ (.slice p4 n4 c4)) := ((Touch.refl (fun k => k = w.heap.size + 1) _).setCell (x := ⟨w.heap.size + 1, 0, none⟩) (fun _ => rfl) _).setCell (x := ⟨w.heap.size + 1, 1, none⟩) (fun _ => rfl) _
  have h9 := ((hM2.m.set_ 0 (.int .u8 90)).set_ 1 (.slice p4 n4 c4))
  simp only [List.setIfInBounds_toArray, List.set_cons_succ, List.set_cons_zero] at h9
  have hcf := h9.cell
  have HB := Lib.hid (hM2.bel.trans (hT9.below hM2.bel.size (fun k hk => by omega)))
  have HO9 := Lib.hid (OwnR.base (HO4.out.touch hT9 (fun k hk e => by have := (HO4.out.row k hk).1; omega)) (show w.heap.size ≤ w2.heap.size by omega))
  clear hT9 h9 hM2 hc4 hm4 hf4
  refine bodyPost_ret (v := .tuple #[.agg #[.int .u8 90, .slice p4 n4 c4], .int .i64 0]) (by simp [results, Tryz.results18, go_sem, hcf]) rfl ?_
  exact ⟨_, rfl, HO9.out, HB.out⟩

set_option maxRecDepth 100000 in
set_option maxHeartbeats 4000000 in
theorem rbenc_C (S : Nat → Prop) (x : BaV) (a : BaP) (w : World) (h : BaL S w x a) (hfb : BaB x) (hsm : SmallB x) (hck : checkB x = 0) (hk : x.kind = 67) : Calls Tryz.prog 18 #[baArg x a] w (EncB x w) := by
  have H0 := Lib.hid (EbI.start h)
  have HK := Lib.hid (fun (w0 : World) (H : EbI w w0 x a) => rbcheck_any _ x a w0 H.l hfb (by have := hsm.t; unfold maxLen; omega) (by have := hsm.n; unfold maxLen; omega) (by have := hsm.v; unfold maxLen; omega))
  have Hev : Hid (encB x = (67, strB [] x.tag, 0)) := Lib.hid (by unfold encB; rw [if_pos hck]; unfold bodyB; simp_all)
  rw [hck] at HK
  clear hck
  have Hsm := Lib.hid hsm
  have Hfb := Lib.hid hfb
  have HC : Hid (∀ w1 : World, EbI w w1 x a → (∀ i, w1.cell? ⟨w.heap.size, i, none⟩ = (baCells x a)[i]?) ∧ (∀ i, w1.cell? ⟨w.heap.size + 1, i, none⟩ = (#[.int .u8 0, .slice none 0 0] : Array Value)[i]?) ∧ (∀ i, w1.frozen? ⟨w.heap.size + 1, i, none⟩ = false)) := Lib.hid (fun w1 H => ⟨H.b.cell, H.m.cell, H.m.frozen⟩)
  unfold EncB
  rw [Hev.out]
  dsimp only
  obtain ⟨xk, xs, xt, xn, xv, xa, xb, xo, xc, xr, xf⟩ := x
  obtain ⟨apo, aco, apc, acc, apr, acr, apf, acf⟩ := a
  clear h hfb hsm
  unfold baArg at *
  unfold baCells at *
  dsimp only at *
  subst hk
  go_enter Tryz.func18, Tryz.ntmps18
  go_upto_region 1 with (fail)
  generalize (w.alloc (.cells #[.int .u8 67, .int .u8 xs, .string xt, .string xn, .string xv, .int .i64 xa, .int .i64 xb, .slice apo xo.length aco, .slice apc xc.length acc, .slice apr xr.length acr, .slice apf xf.length acf] 39)).alloc (.cells #[.int .u8 0, .slice none 0 0] 42) = w1 at *
  obtain ⟨hc1, hm1, hf1⟩ := HC.out w1 H0.out
  go_wp2_with fail
  refine (HK.out w1 H0.out).mono ?_
  rintro e w2 ⟨rfl, hb2⟩
  have H2 := Lib.hid (H0.out.step hb2)
  obtain ⟨hc2, hm2, hf2⟩ := HC.out w2 H2.out
  clear hb2 hc1 hm1 hf1
  have hg2 : w.heap.size + 2 ≤ w2.heap.size := by have := H2.out.m.lt; omega
  have Ht := Lib.hid (rstr2_any w2.heap.size (.slice none 0 0) [] xt w2 (OwnBR.empty _ _ none) (Nat.le_refl _) (by simp) (by have := Hsm.out.t; dsimp only at this; omega))
  go_wp2_with fail
  refine Ht.out.mono ?_
  rintro e w4 ⟨p4, c4, rfl, ho, -, hT⟩
  have H4 := Lib.hid (H2.out.step2 (hT.below (by omega) (fun k e => by simp [rowOf] at e)))
  have HO4 := Lib.hid ho
  clear ho hT hc2 hm2 hf2 Ht
  obtain ⟨hc4, hm4, hf4⟩ := HC.out w4 H4.out
  obtain ⟨n4, hn4⟩ : ∃ n, (strB [] xt).length = n := ⟨_, rfl⟩
  have HO4' : Hid (OwnBR w2.heap.size w4 (.slice p4 n4 c4) (strB [] xt)) := Lib.hid (by rw [← hn4]; exact HO4.out)
  rw [hn4]
  clear HO4 hn4
  have HO4 := HO4'
  clear HO4'
  go_wp2_with fail
  have hM2 := H4.out
  have hT9 : Touch (fun k => k = w.heap.size + 1) w4 ((w4.setCell ⟨w.heap.size + 1, 0, none⟩ (.int .u8 67)).setCell ⟨w.heap.size + 1, 1, none⟩ (.slice p4 n4 c4)) := ((Touch.refl (fun k => k = w.heap.size + 1) _).setCell (x := ⟨w.heap.size + 1, 0, none⟩) (fun _ => rfl) _).setCell (x := ⟨w.heap.size + 1, 1, none⟩) (fun _ => rfl) _
  have h9 := ((hM2.m.set_ 0 (.int .u8 67)).set_ 1 (.slice p4 n4 c4))
  simp only [List.setIfInBounds_toArray, List.set_cons_succ, List.set_cons_zero] at h9
  have hcf := h9.cell
  have HB := Lib.hid (hM2.bel.trans (hT9.below hM2.bel.size (fun k hk => by omega)))
  have HO9 := Lib.hid (OwnR.base (HO4.out.touch hT9 (fun k hk e => by have := (HO4.out.row k hk).1; omega)) (show w.heap.size ≤ w2.heap.size by omega))
  clear hT9 h9 hM2 hc4 hm4 hf4
  refine bodyPost_ret (v := .tuple #[.agg #[.int .u8 67, .slice p4 n4 c4], .int .i64 0]) (by simp [results, Tryz.results18, go_sem, hcf]) rfl ?_
  exact ⟨_, rfl, HO9.out, HB.out⟩

set_option maxRecDepth 100000 in
set_option maxHeartbeats 4000000 in
theorem rbenc_D (S : Nat → Prop) (x : BaV) (a : BaP) (w : World) (h : BaL S w x a) (hfb : BaB x) (hsm : SmallB x) (hck : checkB x = 0) (hk : x.kind = 68) : Calls Tryz.prog 18 #[baArg x a] w (EncB x w) := by
  have H0 := Lib.hid (EbI.start h)
  have HK := Lib.hid (fun (w0 : World) (H : EbI w w0 x a) => rbcheck_any _ x a w0 H.l hfb (by have := hsm.t; unfold maxLen; omega) (by have := hsm.n; unfold maxLen; omega) (by have := hsm.v; unfold maxLen; omega))
  have Hev : Hid (encB x = (68, rowB [] x.row, 0)) := Lib.hid (by unfold encB; rw [if_pos hck]; unfold bodyB; simp_all)
  rw [hck] at HK
  clear hck
  have Hsm := Lib.hid hsm
  have Hfb := Lib.hid hfb
  have HC : Hid (∀ w1 : World, EbI w w1 x a → (∀ i, w1.cell? ⟨w.heap.size, i, none⟩ = (baCells x a)[i]?) ∧ (∀ i, w1.cell? ⟨w.heap.size + 1, i, none⟩ = (#[.int .u8 0, .slice none 0 0] : Array Value)[i]?) ∧ (∀ i, w1.frozen? ⟨w.heap.size + 1, i, none⟩ = false)) := Lib.hid (fun w1 H => ⟨H.b.cell, H.m.cell, H.m.frozen⟩)
  unfold EncB
  rw [Hev.out]
  dsimp only
  obtain ⟨xk, xs, xt, xn, xv, xa, xb, xo, xc, xr, xf⟩ := x
  obtain ⟨apo, aco, apc, acc, apr, acr, apf, acf⟩ := a
  clear h hfb hsm
  unfold baArg at *
  unfold baCells at *
  dsimp only at *
  subst hk
  go_enter Tryz.func18, Tryz.ntmps18
  go_upto_region 1 with (fail)
  generalize (w.alloc (.cells #[.int .u8 68, .int .u8 xs, .string xt, .string xn, .string xv, .int .i64 xa, .int .i64 xb, .slice apo xo.length aco, .slice apc xc.length acc, .slice apr xr.length acr, .slice apf xf.length acf] 39)).alloc (.cells #[.int .u8 0, .slice none 0 0] 42) = w1 at *
  obtain ⟨hc1, hm1, hf1⟩ := HC.out w1 H0.out
  go_wp2_with fail
  refine (HK.out w1 H0.out).mono ?_
  rintro e w2 ⟨rfl, hb2⟩
  have H2 := Lib.hid (H0.out.step hb2)
  obtain ⟨hc2, hm2, hf2⟩ := HC.out w2 H2.out
  clear hb2 hc1 hm1 hf1
  have hg2 : w.heap.size + 2 ≤ w2.heap.size := by have := H2.out.m.lt; omega
  have Ht := Lib.hid (rrow_any _ none [] 0 _ _ _ _ w2 (BytesIn.nil _ _) H2.out.l.lr (by simp) (by have := Hsm.out.r; dsimp only at this ⊢; omega) (fun c hc => by have := Hsm.out.rb c hc; omega))
  go_wp2_with fail
  refine Ht.out.mono ?_
  rintro e w4 ⟨v4, rfl, ho, hb⟩
  have H4 := Lib.hid (H2.out.step hb)
  have HO4 : Hid (OwnBR w2.heap.size w4 _ _) := Lib.hid ho
  clear hb hc2 hm2 hf2 Ht
  obtain ⟨hc4, hm4, hf4⟩ := HC.out w4 H4.out
  obtain ⟨n4, p4, c4, hv4⟩ : ∃ n p c, v4 = Value.slice p n c := by
    obtain ⟨p, c, h, _⟩ := HO4.out.slice
    exact ⟨_, p, c, h⟩
  subst hv4
  clear ho
  go_wp2_with fail
  have hM2 := H4.out
  have hT9 : Touch (fun k => k = w.heap.size + 1) w4 ((w4.setCell ⟨w.heap.size + 1, 0, none⟩ (.int .u8 68)).setCell ⟨w.heap.size + 1, 1, none⟩ (.slice p4 n4 c4)) := ((Touch.refl (fun k => k = w.heap.size + 1) _).setCell (x := ⟨w.heap.size + 1, 0, none⟩) (fun _ => rfl) _).setCell (x := ⟨w.heap.size + 1, 1, none⟩) (fun _ => rfl) _
  have h9 := ((hM2.m.set_ 0 (.int .u8 68)).set_ 1 (.slice p4 n4 c4))
  simp only [List.setIfInBounds_toArray, List.set_cons_succ, List.set_cons_zero] at h9
  have hcf := h9.cell
  have HB := Lib.hid (hM2.bel.trans (hT9.below hM2.bel.size (fun k hk => by omega)))
  have HO9 := Lib.hid (OwnR.base (HO4.out.touch hT9 (fun k hk e => by have := (HO4.out.row k hk).1; omega)) (show w.heap.size ≤ w2.heap.size by omega))
  clear hT9 h9 hM2 hc4 hm4 hf4
  refine bodyPost_ret (v := .tuple #[.agg #[.int .u8 68, .slice p4 n4 c4], .int .i64 0]) (by simp [results, Tryz.results18, go_sem, hcf]) rfl ?_
  exact ⟨_, rfl, HO9.out, HB.out⟩

set_option maxRecDepth 100000 in
set_option maxHeartbeats 4000000 in
theorem rbenc_T (S : Nat → Prop) (x : BaV) (a : BaP) (w : World) (h : BaL S w x a) (hfb : BaB x) (hsm : SmallB x) (hck : checkB x = 0) (hk : x.kind = 84) : Calls Tryz.prog 18 #[baArg x a] w (EncB x w) := by
  have H0 := Lib.hid (EbI.start h)
  have HK := Lib.hid (fun (w0 : World) (H : EbI w w0 x a) => rbcheck_any _ x a w0 H.l hfb (by have := hsm.t; unfold maxLen; omega) (by have := hsm.n; unfold maxLen; omega) (by have := hsm.v; unfold maxLen; omega))
  have Hev : Hid (encB x = (84, x.cols.foldl colW (putV [] x.cols.length 2), 0)) := Lib.hid (by unfold encB; rw [if_pos hck]; unfold bodyB; simp_all)
  rw [hck] at HK
  clear hck
  have Hsm := Lib.hid hsm
  have Hfb := Lib.hid hfb
  have HC : Hid (∀ w1 : World, EbI w w1 x a → (∀ i, w1.cell? ⟨w.heap.size, i, none⟩ = (baCells x a)[i]?) ∧ (∀ i, w1.cell? ⟨w.heap.size + 1, i, none⟩ = (#[.int .u8 0, .slice none 0 0] : Array Value)[i]?) ∧ (∀ i, w1.frozen? ⟨w.heap.size + 1, i, none⟩ = false)) := Lib.hid (fun w1 H => ⟨H.b.cell, H.m.cell, H.m.frozen⟩)
  unfold EncB
  rw [Hev.out]
  dsimp only
  obtain ⟨xk, xs, xt, xn, xv, xa, xb, xo, xc, xr, xf⟩ := x
  obtain ⟨apo, aco, apc, acc, apr, acr, apf, acf⟩ := a
  clear h hfb hsm
  unfold baArg at *
  unfold baCells at *
  dsimp only at *
  subst hk
  go_enter Tryz.func18, Tryz.ntmps18
  go_upto_region 1 with (fail)
  generalize (w.alloc (.cells #[.int .u8 84, .int .u8 xs, .string xt, .string xn, .string xv, .int .i64 xa, .int .i64 xb, .slice apo xo.length aco, .slice apc xc.length acc, .slice apr xr.length acr, .slice apf xf.length acf] 39)).alloc (.cells #[.int .u8 0, .slice none 0 0] 42) = w1 at *
  obtain ⟨hc1, hm1, hf1⟩ := HC.out w1 H0.out
  go_wp2_with fail
  refine (HK.out w1 H0.out).mono ?_
  rintro e w2 ⟨rfl, hb2⟩
  have H2 := Lib.hid (H0.out.step hb2)
  obtain ⟨hc2, hm2, hf2⟩ := HC.out w2 H2.out
  clear hb2 hc1 hm1 hf1
  have hg2 : w.heap.size + 2 ≤ w2.heap.size := by have := H2.out.m.lt; omega
  have Ht := Lib.hid (described_any _ _ _ _ _ w2 H2.out.l.lc (by have := Hsm.out.c; dsimp only at this ⊢; omega) (fun c hc => by have := Hsm.out.cn c hc; omega))
  go_wp2_with fail
  refine Ht.out.mono ?_
  rintro e w4 ⟨v4, rfl, ho, hb⟩
  have H4 := Lib.hid (H2.out.step hb)
  have HO4 : Hid (OwnBR w2.heap.size w4 _ _) := Lib.hid ho
  clear hb hc2 hm2 hf2 Ht
  obtain ⟨hc4, hm4, hf4⟩ := HC.out w4 H4.out
  obtain ⟨n4, p4, c4, hv4⟩ : ∃ n p c, v4 = Value.slice p n c := by
    obtain ⟨p, c, h, _⟩ := HO4.out.slice
    exact ⟨_, p, c, h⟩
  subst hv4
  clear ho
  go_wp2_with fail
  have hM2 := H4.out
  have hT9 : Touch (fun k => k = w.heap.size + 1) w4 ((w4.setCell ⟨w.heap.size + 1, 0, none⟩ (.int .u8 84)).setCell ⟨w.heap.size + 1, 1, none⟩ (.slice p4 n4 c4)) := ((Touch.refl (fun k => k = w.heap.size + 1) _).setCell (x := ⟨w.heap.size + 1, 0, none⟩) (fun _ => rfl) _).setCell (x := ⟨w.heap.size + 1, 1, none⟩) (fun _ => rfl) _
  have h9 := ((hM2.m.set_ 0 (.int .u8 84)).set_ 1 (.slice p4 n4 c4))
  simp only [List.setIfInBounds_toArray, List.set_cons_succ, List.set_cons_zero] at h9
  have hcf := h9.cell
  have HB := Lib.hid (hM2.bel.trans (hT9.below hM2.bel.size (fun k hk => by omega)))
  have HO9 := Lib.hid (OwnR.base (HO4.out.touch hT9 (fun k hk e => by have := (HO4.out.row k hk).1; omega)) (show w.heap.size ≤ w2.heap.size by omega))
  clear hT9 h9 hM2 hc4 hm4 hf4
  refine bodyPost_ret (v := .tuple #[.agg #[.int .u8 84, .slice p4 n4 c4], .int .i64 0]) (by simp [results, Tryz.results18, go_sem, hcf]) rfl ?_
  exact ⟨_, rfl, HO9.out, HB.out⟩

set_option maxRecDepth 100000 in
set_option maxHeartbeats 4000000 in
theorem rbenc_t (S : Nat → Prop) (x : BaV) (a : BaP) (w : World) (h : BaL S w x a) (hfb : BaB x) (hsm : SmallB x) (hck : checkB x = 0) (hk : x.kind = 116) : Calls Tryz.prog 18 #[baArg x a] w (EncB x w) := by
  have H0 := Lib.hid (EbI.start h)
  have HK := Lib.hid (fun (w0 : World) (H : EbI w w0 x a) => rbcheck_any _ x a w0 H.l hfb (by have := hsm.t; unfold maxLen; omega) (by have := hsm.n; unfold maxLen; omega) (by have := hsm.v; unfold maxLen; omega))
  have Hev : Hid (encB x = (116, listB [] x.oids 4, 0)) := Lib.hid (by unfold encB; rw [if_pos hck]; unfold bodyB; simp_all)
  rw [hck] at HK
  clear hck
  have Hsm := Lib.hid hsm
  have Hfb := Lib.hid hfb
  have HC : Hid (∀ w1 : World, EbI w w1 x a → (∀ i, w1.cell? ⟨w.heap.size, i, none⟩ = (baCells x a)[i]?) ∧ (∀ i, w1.cell? ⟨w.heap.size + 1, i, none⟩ = (#[.int .u8 0, .slice none 0 0] : Array Value)[i]?) ∧ (∀ i, w1.frozen? ⟨w.heap.size + 1, i, none⟩ = false)) := Lib.hid (fun w1 H => ⟨H.b.cell, H.m.cell, H.m.frozen⟩)
  unfold EncB
  rw [Hev.out]
  dsimp only
  obtain ⟨xk, xs, xt, xn, xv, xa, xb, xo, xc, xr, xf⟩ := x
  obtain ⟨apo, aco, apc, acc, apr, acr, apf, acf⟩ := a
  clear h hfb hsm
  unfold baArg at *
  unfold baCells at *
  dsimp only at *
  subst hk
  go_enter Tryz.func18, Tryz.ntmps18
  go_upto_region 1 with (fail)
  generalize (w.alloc (.cells #[.int .u8 116, .int .u8 xs, .string xt, .string xn, .string xv, .int .i64 xa, .int .i64 xb, .slice apo xo.length aco, .slice apc xc.length acc, .slice apr xr.length acr, .slice apf xf.length acf] 39)).alloc (.cells #[.int .u8 0, .slice none 0 0] 42) = w1 at *
  obtain ⟨hc1, hm1, hf1⟩ := HC.out w1 H0.out
  go_wp2_with fail
  refine (HK.out w1 H0.out).mono ?_
  rintro e w2 ⟨rfl, hb2⟩
  have H2 := Lib.hid (H0.out.step hb2)
  obtain ⟨hc2, hm2, hf2⟩ := HC.out w2 H2.out
  clear hb2 hc1 hm1 hf1
  have hg2 : w.heap.size + 2 ≤ w2.heap.size := by have := H2.out.m.lt; omega
  have Ht := Lib.hid (rlist_any _ none [] 0 _ _ _ _ 4 4 rfl w2 (BytesIn.nil _ _) H2.out.l.lo (by simp) (by have := Hsm.out.o; dsimp only at this ⊢; omega))
  go_wp2_with fail
  refine Ht.out.mono ?_
  rintro e w4 ⟨v4, rfl, ho, hb⟩
  have H4 := Lib.hid (H2.out.step hb)
  have HO4 : Hid (OwnBR w2.heap.size w4 _ _) := Lib.hid ho
  clear hb hc2 hm2 hf2 Ht
  obtain ⟨hc4, hm4, hf4⟩ := HC.out w4 H4.out
  obtain ⟨n4, p4, c4, hv4⟩ : ∃ n p c, v4 = Value.slice p n c := by
    obtain ⟨p, c, h, _⟩ := HO4.out.slice
    exact ⟨_, p, c, h⟩
  subst hv4
  clear ho
  go_wp2_with fail
  have hM2 := H4.out
  have hT9 : Touch (fun k => k = w.heap.size + 1) w4 ((w4.setCell ⟨w.heap.size + 1, 0, none⟩ (.int .u8 116)).setCell ⟨w.heap.size + 1, 1, none⟩ (.slice p4 n4 c4)) := ((Touch.refl (fun k => k = w.heap.size + 1) _).setCell (x := ⟨w.heap.size + 1, 0, none⟩) (fun _ => rfl) _).setCell (x := ⟨w.heap.size + 1, 1, none⟩) (fun _ => rfl) _
  have h9 := ((hM2.m.set_ 0 (.int .u8 116)).set_ 1 (.slice p4 n4 c4))
  simp only [List.setIfInBounds_toArray, List.set_cons_succ, List.set_cons_zero] at h9
  have hcf := h9.cell
  have HB := Lib.hid (hM2.bel.trans (hT9.below hM2.bel.size (fun k hk => by omega)))
  have HO9 := Lib.hid (OwnR.base (HO4.out.touch hT9 (fun k hk e => by have := (HO4.out.row k hk).1; omega)) (show w.heap.size ≤ w2.heap.size by omega))
  clear hT9 h9 hM2 hc4 hm4 hf4
  refine bodyPost_ret (v := .tuple #[.agg #[.int .u8 116, .slice p4 n4 c4], .int .i64 0]) (by simp [results, Tryz.results18, go_sem, hcf]) rfl ?_
  exact ⟨_, rfl, HO9.out, HB.out⟩

set_option maxRecDepth 100000 in
set_option maxHeartbeats 4000000 in
theorem rbenc_E (S : Nat → Prop) (x : BaV) (a : BaP) (w : World) (h : BaL S w x a) (hfb : BaB x) (hsm : SmallB x) (hck : checkB x = 0) (hk : x.kind = 69) : Calls Tryz.prog 18 #[baArg x a] w (EncB x w) := by
  have H0 := Lib.hid (EbI.start h)
  have HK := Lib.hid (fun (w0 : World) (H : EbI w w0 x a) => rbcheck_any _ x a w0 H.l hfb (by have := hsm.t; unfold maxLen; omega) (by have := hsm.n; unfold maxLen; omega) (by have := hsm.v; unfold maxLen; omega))
  have Hev : Hid (encB x = (69, x.fields.foldl fieldW [] ++ [0], 0)) := Lib.hid (by unfold encB; rw [if_pos hck]; unfold bodyB; simp_all)
  rw [hck] at HK
  clear hck
  have Hsm := Lib.hid hsm
  have Hfb := Lib.hid hfb
  have HC : Hid (∀ w1 : World, EbI w w1 x a → (∀ i, w1.cell? ⟨w.heap.size, i, none⟩ = (baCells x a)[i]?) ∧ (∀ i, w1.cell? ⟨w.heap.size + 1, i, none⟩ = (#[.int .u8 0, .slice none 0 0] : Array Value)[i]?) ∧ (∀ i, w1.frozen? ⟨w.heap.size + 1, i, none⟩ = false)) := Lib.hid (fun w1 H => ⟨H.b.cell, H.m.cell, H.m.frozen⟩)
  unfold EncB
  rw [Hev.out]
  dsimp only
  obtain ⟨xk, xs, xt, xn, xv, xa, xb, xo, xc, xr, xf⟩ := x
  obtain ⟨apo, aco, apc, acc, apr, acr, apf, acf⟩ := a
  clear h hfb hsm
  unfold baArg at *
  unfold baCells at *
  dsimp only at *
  subst hk
  go_enter Tryz.func18, Tryz.ntmps18
  go_upto_region 1 with (fail)
  generalize (w.alloc (.cells #[.int .u8 69, .int .u8 xs, .string xt, .string xn, .string xv, .int .i64 xa, .int .i64 xb, .slice apo xo.length aco, .slice apc xc.length acc, .slice apr xr.length acr, .slice apf xf.length acf] 39)).alloc (.cells #[.int .u8 0, .slice none 0 0] 42) = w1 at *
  obtain ⟨hc1, hm1, hf1⟩ := HC.out w1 H0.out
  go_wp2_with fail
  refine (HK.out w1 H0.out).mono ?_
  rintro e w2 ⟨rfl, hb2⟩
  have H2 := Lib.hid (H0.out.step hb2)
  obtain ⟨hc2, hm2, hf2⟩ := HC.out w2 H2.out
  clear hb2 hc1 hm1 hf1
  have hg2 : w.heap.size + 2 ≤ w2.heap.size := by have := H2.out.m.lt; omega
  have Ht := Lib.hid (told_any _ _ _ _ _ w2 H2.out.l.lf (by have := Hsm.out.f; dsimp only at this ⊢; omega) (fun c hc => by have := Hsm.out.ft c hc; omega))
  go_wp2_with fail
  refine Ht.out.mono ?_
  rintro e w4 ⟨v4, rfl, ho, hb⟩
  have H4 := Lib.hid (H2.out.step hb)
  have HO4 : Hid (OwnBR w2.heap.size w4 _ _) := Lib.hid ho
  clear hb hc2 hm2 hf2 Ht
  obtain ⟨hc4, hm4, hf4⟩ := HC.out w4 H4.out
  obtain ⟨n4, p4, c4, hv4⟩ : ∃ n p c, v4 = Value.slice p n c := by
    obtain ⟨p, c, h, _⟩ := HO4.out.slice
    exact ⟨_, p, c, h⟩
  subst hv4
  clear ho
  go_wp2_with fail
  have hM2 := H4.out
  have hT9 : Touch (fun k => k = w.heap.size + 1) w4 ((w4.setCell ⟨w.heap.size + 1, 0, none⟩ (.int .u8 69)).setCell ⟨w.heap.size + 1, 1, none⟩ (.slice p4 n4 c4)) := ((Touch.refl (fun k => k = w.heap.size + 1) _).setCell (x := ⟨w.heap.size + 1, 0, none⟩) (fun _ => rfl) _).setCell (x := ⟨w.heap.size + 1, 1, none⟩) (fun _ => rfl) _
  have h9 := ((hM2.m.set_ 0 (.int .u8 69)).set_ 1 (.slice p4 n4 c4))
  simp only [List.setIfInBounds_toArray, List.set_cons_succ, List.set_cons_zero] at h9
  have hcf := h9.cell
  have HB := Lib.hid (hM2.bel.trans (hT9.below hM2.bel.size (fun k hk => by omega)))
  have HO9 := Lib.hid (OwnR.base (HO4.out.touch hT9 (fun k hk e => by have := (HO4.out.row k hk).1; omega)) (show w.heap.size ≤ w2.heap.size by omega))
  clear hT9 h9 hM2 hc4 hm4 hf4
  refine bodyPost_ret (v := .tuple #[.agg #[.int .u8 69, .slice p4 n4 c4], .int .i64 0]) (by simp [results, Tryz.results18, go_sem, hcf]) rfl ?_
  exact ⟨_, rfl, HO9.out, HB.out⟩

set_option maxRecDepth 100000 in
set_option maxHeartbeats 4000000 in
theorem rbenc_N (S : Nat → Prop) (x : BaV) (a : BaP) (w : World) (h : BaL S w x a) (hfb : BaB x) (hsm : SmallB x) (hck : checkB x = 0) (hk : x.kind = 78) : Calls Tryz.prog 18 #[baArg x a] w (EncB x w) := by
  have H0 := Lib.hid (EbI.start h)
  have HK := Lib.hid (fun (w0 : World) (H : EbI w w0 x a) => rbcheck_any _ x a w0 H.l hfb (by have := hsm.t; unfold maxLen; omega) (by have := hsm.n; unfold maxLen; omega) (by have := hsm.v; unfold maxLen; omega))
  have Hev : Hid (encB x = (78, x.fields.foldl fieldW [] ++ [0], 0)) := Lib.hid (by unfold encB; rw [if_pos hck]; unfold bodyB; simp_all)
  rw [hck] at HK
  clear hck
  have Hsm := Lib.hid hsm
  have Hfb := Lib.hid hfb
  have HC : Hid (∀ w1 : World, EbI w w1 x a → (∀ i, w1.cell? ⟨w.heap.size, i, none⟩ = (baCells x a)[i]?) ∧ (∀ i, w1.cell? ⟨w.heap.size + 1, i, none⟩ = (#[.int .u8 0, .slice none 0 0] : Array Value)[i]?) ∧ (∀ i, w1.frozen? ⟨w.heap.size + 1, i, none⟩ = false)) := Lib.hid (fun w1 H => ⟨H.b.cell, H.m.cell, H.m.frozen⟩)
  unfold EncB
  rw [Hev.out]
  dsimp only
  obtain ⟨xk, xs, xt, xn, xv, xa, xb, xo, xc, xr, xf⟩ := x
  obtain ⟨apo, aco, apc, acc, apr, acr, apf, acf⟩ := a
  clear h hfb hsm
  unfold baArg at *
  unfold baCells at *
  dsimp only at *
  subst hk
  go_enter Tryz.func18, Tryz.ntmps18
  go_upto_region 1 with (fail)
  generalize (w.alloc (.cells #[.int .u8 78, .int .u8 xs, .string xt, .string xn, .string xv, .int .i64 xa, .int .i64 xb, .slice apo xo.length aco, .slice apc xc.length acc, .slice apr xr.length acr, .slice apf xf.length acf] 39)).alloc (.cells #[.int .u8 0, .slice none 0 0] 42) = w1 at *
  obtain ⟨hc1, hm1, hf1⟩ := HC.out w1 H0.out
  go_wp2_with fail
  refine (HK.out w1 H0.out).mono ?_
  rintro e w2 ⟨rfl, hb2⟩
  have H2 := Lib.hid (H0.out.step hb2)
  obtain ⟨hc2, hm2, hf2⟩ := HC.out w2 H2.out
  clear hb2 hc1 hm1 hf1
  have hg2 : w.heap.size + 2 ≤ w2.heap.size := by have := H2.out.m.lt; omega
  have Ht := Lib.hid (told_any _ _ _ _ _ w2 H2.out.l.lf (by have := Hsm.out.f; dsimp only at this ⊢; omega) (fun c hc => by have := Hsm.out.ft c hc; omega))
  go_wp2_with fail
  refine Ht.out.mono ?_
  rintro e w4 ⟨v4, rfl, ho, hb⟩
  have H4 := Lib.hid (H2.out.step hb)
  have HO4 : Hid (OwnBR w2.heap.size w4 _ _) := Lib.hid ho
  clear hb hc2 hm2 hf2 Ht
  obtain ⟨hc4, hm4, hf4⟩ := HC.out w4 H4.out
  obtain ⟨n4, p4, c4, hv4⟩ : ∃ n p c, v4 = Value.slice p n c := by
    obtain ⟨p, c, h, _⟩ := HO4.out.slice
    exact ⟨_, p, c, h⟩
  subst hv4
  clear ho
  go_wp2_with fail
  have hM2 := H4.out
  have hT9 : Touch (fun k => k = w.heap.size + 1) w4 ((w4.setCell ⟨w.heap.size + 1, 0, none⟩ (.int .u8 78)).setCell ⟨w.heap.size + 1, 1, none⟩ (.slice p4 n4 c4)) := ((Touch.refl (fun k => k = w.heap.size + 1) _).setCell (x := ⟨w.heap.size + 1, 0, none⟩) (fun _ => rfl) _).setCell (x := ⟨w.heap.size + 1, 1, none⟩) (fun _ => rfl) _
  have h9 := ((hM2.m.set_ 0 (.int .u8 78)).set_ 1 (.slice p4 n4 c4))
  simp only [List.setIfInBounds_toArray, List.set_cons_succ, List.set_cons_zero] at h9
  have hcf := h9.cell
  have HB := Lib.hid (hM2.bel.trans (hT9.below hM2.bel.size (fun k hk => by omega)))
  have HO9 := Lib.hid (OwnR.base (HO4.out.touch hT9 (fun k hk e => by have := (HO4.out.row k hk).1; omega)) (show w.heap.size ≤ w2.heap.size by omega))
  clear hT9 h9 hM2 hc4 hm4 hf4
  refine bodyPost_ret (v := .tuple #[.agg #[.int .u8 78, .slice p4 n4 c4], .int .i64 0]) (by simp [results, Tryz.results18, go_sem, hcf]) rfl ?_
  exact ⟨_, rfl, HO9.out, HB.out⟩

set_option maxRecDepth 100000 in
set_option maxHeartbeats 4000000 in
theorem rbenc_O (S : Nat → Prop) (x : BaV) (a : BaP) (w : World) (h : BaL S w x a) (hfb : BaB x) (hsm : SmallB x) (hck : checkB x = 0) (hk : ∀ n ∈ [83, 75, 90, 67, 68, 84, 116, 69, 78, 82], (x.kind == n) = false) : Calls Tryz.prog 18 #[baArg x a] w (EncB x w) := by
  have H0 := Lib.hid (EbI.start h)
  have HK := Lib.hid (fun (w0 : World) (H : EbI w w0 x a) => rbcheck_any _ x a w0 H.l hfb (by have := hsm.t; unfold maxLen; omega) (by have := hsm.n; unfold maxLen; omega) (by have := hsm.v; unfold maxLen; omega))
  have g0 := hk 83 (by simp)
  have g1 := hk 75 (by simp)
  have g2 := hk 90 (by simp)
  have g3 := hk 67 (by simp)
  have g4 := hk 68 (by simp)
  have g5 := hk 84 (by simp)
  have g6 := hk 116 (by simp)
  have g7 := hk 69 (by simp)
  have g8 := hk 78 (by simp)
  have g9 := hk 82 (by simp)
  clear hk
  have Hev : Hid (encB x = (x.kind, [], 0)) := Lib.hid (by unfold encB; rw [if_pos hck]; unfold bodyB; simp_all)
  rw [hck] at HK
  clear hck
  have Hsm := Lib.hid hsm
  have Hfb := Lib.hid hfb
  have HC : Hid (∀ w1 : World, EbI w w1 x a → (∀ i, w1.cell? ⟨w.heap.size, i, none⟩ = (baCells x a)[i]?) ∧ (∀ i, w1.cell? ⟨w.heap.size + 1, i, none⟩ = (#[.int .u8 0, .slice none 0 0] : Array Value)[i]?) ∧ (∀ i, w1.frozen? ⟨w.heap.size + 1, i, none⟩ = false)) := Lib.hid (fun w1 H => ⟨H.b.cell, H.m.cell, H.m.frozen⟩)
  unfold EncB
  rw [Hev.out]
  dsimp only
  obtain ⟨xk, xs, xt, xn, xv, xa, xb, xo, xc, xr, xf⟩ := x
  obtain ⟨apo, aco, apc, acc, apr, acr, apf, acf⟩ := a
  clear h hfb hsm
  unfold baArg at *
  unfold baCells at *
  dsimp only at *
  go_enter Tryz.func18, Tryz.ntmps18
  go_upto_region 1 with (fail)
  generalize (w.alloc (.cells #[.int .u8 xk, .int .u8 xs, .string xt, .string xn, .string xv, .int .i64 xa, .int .i64 xb, .slice apo xo.length aco, .slice apc xc.length acc, .slice apr xr.length acr, .slice apf xf.length acf] 39)).alloc (.cells #[.int .u8 0, .slice none 0 0] 42) = w1 at *
  obtain ⟨hc1, hm1, hf1⟩ := HC.out w1 H0.out
  go_wp2_with fail
  refine (HK.out w1 H0.out).mono ?_
  rintro e w2 ⟨rfl, hb2⟩
  have H2 := Lib.hid (H0.out.step hb2)
  obtain ⟨hc2, hm2, hf2⟩ := HC.out w2 H2.out
  clear hb2 hc1 hm1 hf1
  have hg2 : w.heap.size + 2 ≤ w2.heap.size := by have := H2.out.m.lt; omega
  have HO4 : Hid (OwnBR w2.heap.size w2 (.slice none 0 0) []) := Lib.hid (OwnBR.empty _ _ _)
  obtain ⟨w4, hw4⟩ : ∃ w4, w4 = w2 := ⟨_, rfl⟩
  clear hw4
  go_wp2_with fail
  have hM2 := H2.out
  have hT9 : Touch (fun k => k = w.heap.size + 1) w2 ((w2.setCell ⟨w.heap.size + 1, 0, none⟩ (.int .u8 xk)).setCell ⟨w.heap.size + 1, 1, none⟩ (.slice none 0 0)) := ((Touch.refl (fun k => k = w.heap.size + 1) _).setCell (x := ⟨w.heap.size + 1, 0, none⟩) (fun _ => rfl) _).setCell (x := ⟨w.heap.size + 1, 1, none⟩) (fun _ => rfl) _
  have h9 := ((hM2.m.set_ 0 (.int .u8 xk)).set_ 1 (.slice none 0 0))
  simp only [List.setIfInBounds_toArray, List.set_cons_succ, List.set_cons_zero] at h9
  have hcf := h9.cell
  have HB := Lib.hid (hM2.bel.trans (hT9.below hM2.bel.size (fun k hk => by omega)))
  have HO9 := Lib.hid (OwnR.base (HO4.out.touch hT9 (fun k hk e => by have := (HO4.out.row k hk).1; omega)) (show w.heap.size ≤ w2.heap.size by omega))
  clear hT9 h9 hM2 hc2 hm2 hf2
  refine bodyPost_ret (v := .tuple #[.agg #[.int .u8 xk, .slice none 0 0], .int .i64 0]) (by simp [results, Tryz.results18, go_sem, hcf]) rfl ?_
  exact ⟨_, rfl, HO9.out, HB.out⟩

theorem rbenc_any (S : Nat → Prop) (x : BaV) (a : BaP) (w : World) (h : BaL S w x a) (hfb : BaB x) (hsm : SmallB x) : Calls Tryz.prog 18 #[baArg x a] w (EncB x w) := by
  by_cases hck : checkB x = 0
  · rcases encK_cases x.kind with hk | hk | hk | hk | hk | hk | hk | hk | hk | hk | hk
    · exact rbenc_R S x a w h hfb hsm hck hk
    · exact rbenc_S S x a w h hfb hsm hck hk
    · exact rbenc_K S x a w h hfb hsm hck hk
    · exact rbenc_Z S x a w h hfb hsm hck hk
    · exact rbenc_C S x a w h hfb hsm hck hk
    · exact rbenc_D S x a w h hfb hsm hck hk
    · exact rbenc_T S x a w h hfb hsm hck hk
    · exact rbenc_t S x a w h hfb hsm hck hk
    · exact rbenc_E S x a w h hfb hsm hck hk
    · exact rbenc_N S x a w h hfb hsm hck hk
    · exact rbenc_O S x a w h hfb hsm hck hk
  · exact rbenc_no S x a w h hfb hsm hck

end Go.Proofs.YthhebfknikfleaaGreat
