/-
  Messages of servers (layer 7): back.Encode by kinds: columns, types, fields.
-/
import Derived.Test.YthhebfknikfleaaGreatPbDXBaO
namespace Go.Proofs.YthhebfknikfleaaGreat
open Go.RowKit
set_option linter.unusedVariables false
set_option linter.unusedSimpArgs false

set_option maxRecDepth 100000 in
set_option maxHeartbeats 4000000 in
theorem benc_D (S : Nat → Prop) (x : BaV) (a : BaP) (w : World) (h : BaL S w x a) (hfb : BaB x) (hsm : SmallB x) (hck : checkB x = 0) (hk : x.kind = 68) : Calls Tryz.prog 17 #[baArg x a] w (EncB x w) := by
  have H0 := Lib.hid (EbI.start h)
  have HK := Lib.hid (fun (w0 : World) (H : EbI w w0 x a) => bcheck_any _ x a w0 H.l hfb)
  have Hev : Hid (encB x = (68, rowB [] x.row, 0)) := Lib.hid (by unfold encB; rw [if_pos hck]; unfold bodyB; simp_all)
  rw [hck] at HK
  clear hck
  have Hsm := Lib.hid hsm
  have Hfb := Lib.hid hfb
  have HC : Hid (∀ w1 : World, EbI w w1 x a → (∀ i, w1.cell? ⟨w.heap.size, i, none⟩ = (baCells x a)[i]?) ∧ (∀ i, w1.cell? ⟨w.heap.size + 1, i, none⟩ = (#[.int .u8 0, .slice none 0 0] : Array Value)[i]?) ∧ (∀ i, w1.frozen? ⟨w.heap.size + 1, i, none⟩ = false)) := Lib.hid (fun w1 H => ⟨H.b.cell, H.m.cell, H.m.frozen⟩)
  unfold EncB
  rw [Hev.out]
  dsimp only
  obtain ⟨xk, xs, xt, xn, xv, xa, xb, xo, xc, xr, xf⟩ := x
  obtain ⟨apo, aco, apc, acc, apr, acr, apf, acf⟩ := a
  clear h hfb hsm
  unfold baArg at *
  unfold baCells at *
  dsimp only at *
  subst hk
  go_enter Tryz.func17, Tryz.ntmps17
  go_upto_region 1 with (fail)
  generalize (w.alloc (.cells #[.int .u8 68, .int .u8 xs, .string xt, .string xn, .string xv, .int .i64 xa, .int .i64 xb, .slice apo xo.length aco, .slice apc xc.length acc, .slice apr xr.length acr, .slice apf xf.length acf] 39)).alloc (.cells #[.int .u8 0, .slice none 0 0] 42) = w1 at *
  obtain ⟨hc1, hm1, hf1⟩ := HC.out w1 H0.out
  go_wp2_with fail
  refine (HK.out w1 H0.out).mono ?_
  rintro e w2 ⟨rfl, hb2⟩
  have H2 := Lib.hid (H0.out.step hb2)
  obtain ⟨hc2, hm2, hf2⟩ := HC.out w2 H2.out
  clear hb2 hc1 hm1 hf1
  have HW3 : Hid (WbO w2.heap.size (fun k => k < w2.heap.size) (w2.alloc (.cells #[.slice none 0 0] 91)) w2.heap.size []) := Lib.hid (WbO.new w2.heap.size w2 (Nat.le_refl _))
  have H3 := Lib.hid (H2.out.step ((Below.refl _ _).alloc (Nat.le_refl _) (.cells #[.slice none 0 0] 91)))
  have hz3 : w2.heap.size ≤ (w2.alloc (.cells #[.slice none 0 0] 91)).heap.size := by simp
  have hg2 : w.heap.size + 2 ≤ w2.heap.size := by have := H2.out.m.lt; omega
  go_upto_region 5 with fail
  generalize w2.alloc (.cells #[.slice none 0 0] 91) = w3 at *
  generalize w2.heap.size = wb at *
  clear hc2 hm2 hf2 H2
  obtain ⟨hc3, hm3, hf3⟩ := HC.out w3 H3.out
  have Ht := Lib.hid (bwrow_any wb _ wb _ _ _ _ _ _ w3 HW3.out hz3 H3.out.l.lr (fun k _ hk => by have hk' : k < w.heap.size := hk; exact fun e => by have := e.1; omega) (by simp only [nilLen]; omega) (by have := Hsm.out.r; dsimp only at this ⊢; omega) (fun c hc => by have := Hsm.out.rb c hc; omega))
  unfold WbR at Ht
  go_wp2_with fail
  refine Ht.out.mono ?_
  rintro e w4 ⟨rfl, ho, hT⟩
  have HW4 := Lib.hid ho
  have H4 := Lib.hid (H3.out.step2 (wbD_below hT (by omega) (by omega)))
  have hz4 : wb ≤ w4.heap.size := by have := hT.size; omega
  obtain ⟨hc4, hm4, hf4⟩ := HC.out w4 H4.out
  clear ho hT hc3 hm3 hf3 Ht
  obtain ⟨ve, hve⟩ := HW4.out
  have HV := Lib.hid hve
  obtain ⟨pe, ce, hpe, -⟩ := hve.own.slice
  obtain ⟨ne, hne⟩ : ∃ n, ve = .slice pe n ce := ⟨_, hpe⟩
  subst hne
  have hcw := HV.out.b.cell
  clear hpe hve
  go_upto_region 37 with fail
  go_region
  all_goals
    have hM2 := H4.out
    have hT9 : Touch (fun k => k = w.heap.size + 1) w4 ((w4.setCell ⟨w.heap.size + 1, 0, none⟩ (.int .u8 68)).setCell ⟨w.heap.size + 1, 1, none⟩ (.slice pe ne ce)).drew := (((Touch.refl (fun k => k = w.heap.size + 1) _).setCell (x := ⟨w.heap.size + 1, 0, none⟩) (fun _ => rfl) _).setCell (x := ⟨w.heap.size + 1, 1, none⟩) (fun _ => rfl) _).drew
    have h9 := ((hM2.m.set_ 0 (.int .u8 68)).set_ 1 (.slice pe ne ce)).drew
    simp only [List.setIfInBounds_toArray, List.set_cons_succ, List.set_cons_zero] at h9
    have HO := Lib.hid (OwnR.base (HV.out.own.touch hT9 (fun k hk e => by have := (HV.out.own.row k hk).1; omega)) (show w.heap.size ≤ wb by omega))
    have HB := Lib.hid (hM2.bel.trans (hT9.below hM2.bel.size (fun k hk => by omega)))
    have hcf := h9.cell
    clear hT9 h9 hM2 hc4 hm4 hf4 hcw
    go_wp2_with fail
    refine bodyPost_ret (v := .tuple #[.agg #[.int .u8 68, .slice pe ne ce], .int .i64 0]) (by simp [results, Tryz.results17, go_sem, hcf]) rfl ?_
    exact ⟨_, rfl, HO.out, HB.out⟩

set_option maxRecDepth 100000 in
set_option maxHeartbeats 4000000 in
theorem benc_T (S : Nat → Prop) (x : BaV) (a : BaP) (w : World) (h : BaL S w x a) (hfb : BaB x) (hsm : SmallB x) (hck : checkB x = 0) (hk : x.kind = 84) : Calls Tryz.prog 17 #[baArg x a] w (EncB x w) := by
  have H0 := Lib.hid (EbI.start h)
  have HK := Lib.hid (fun (w0 : World) (H : EbI w w0 x a) => bcheck_any _ x a w0 H.l hfb)
  have Hev : Hid (encB x = (84, x.cols.foldl colW (putV [] x.cols.length 2), 0)) := Lib.hid (by unfold encB; rw [if_pos hck]; unfold bodyB; simp_all)
  rw [hck] at HK
  clear hck
  have Hsm := Lib.hid hsm
  have Hfb := Lib.hid hfb
  have HC : Hid (∀ w1 : World, EbI w w1 x a → (∀ i, w1.cell? ⟨w.heap.size, i, none⟩ = (baCells x a)[i]?) ∧ (∀ i, w1.cell? ⟨w.heap.size + 1, i, none⟩ = (#[.int .u8 0, .slice none 0 0] : Array Value)[i]?) ∧ (∀ i, w1.frozen? ⟨w.heap.size + 1, i, none⟩ = false)) := Lib.hid (fun w1 H => ⟨H.b.cell, H.m.cell, H.m.frozen⟩)
  unfold EncB
  rw [Hev.out]
  dsimp only
  obtain ⟨xk, xs, xt, xn, xv, xa, xb, xo, xc, xr, xf⟩ := x
  obtain ⟨apo, aco, apc, acc, apr, acr, apf, acf⟩ := a
  clear h hfb hsm
  unfold baArg at *
  unfold baCells at *
  dsimp only at *
  subst hk
  go_enter Tryz.func17, Tryz.ntmps17
  go_upto_region 1 with (fail)
  generalize (w.alloc (.cells #[.int .u8 84, .int .u8 xs, .string xt, .string xn, .string xv, .int .i64 xa, .int .i64 xb, .slice apo xo.length aco, .slice apc xc.length acc, .slice apr xr.length acr, .slice apf xf.length acf] 39)).alloc (.cells #[.int .u8 0, .slice none 0 0] 42) = w1 at *
  obtain ⟨hc1, hm1, hf1⟩ := HC.out w1 H0.out
  go_wp2_with fail
  refine (HK.out w1 H0.out).mono ?_
  rintro e w2 ⟨rfl, hb2⟩
  have H2 := Lib.hid (H0.out.step hb2)
  obtain ⟨hc2, hm2, hf2⟩ := HC.out w2 H2.out
  clear hb2 hc1 hm1 hf1
  have HW3 : Hid (WbO w2.heap.size (fun k => k < w2.heap.size) (w2.alloc (.cells #[.slice none 0 0] 91)) w2.heap.size []) := Lib.hid (WbO.new w2.heap.size w2 (Nat.le_refl _))
  have H3 := Lib.hid (H2.out.step ((Below.refl _ _).alloc (Nat.le_refl _) (.cells #[.slice none 0 0] 91)))
  have hz3 : w2.heap.size ≤ (w2.alloc (.cells #[.slice none 0 0] 91)).heap.size := by simp
  have hg2 : w.heap.size + 2 ≤ w2.heap.size := by have := H2.out.m.lt; omega
  go_upto_region 5 with fail
  generalize w2.alloc (.cells #[.slice none 0 0] 91) = w3 at *
  generalize w2.heap.size = wb at *
  clear hc2 hm2 hf2 H2
  obtain ⟨hc3, hm3, hf3⟩ := HC.out w3 H3.out
  have Ht := Lib.hid (bnum_any wb _ wb _ (xc.length : Int) 2 w3 HW3.out hz3 (by simp only [nilLen] at *; omega))
  unfold WbR at Ht
  go_wp2_with fail
  refine Ht.out.mono ?_
  rintro e w4 ⟨rfl, ho, hT⟩
  have HW4 := Lib.hid ho
  have H4 := Lib.hid (H3.out.step2 (wbD_below hT (by omega) (by omega)))
  have hz4 : wb ≤ w4.heap.size := by have := hT.size; omega
  obtain ⟨hc4, hm4, hf4⟩ := HC.out w4 H4.out
  clear ho hT hc3 hm3 hf3 Ht
  have Hall := Lib.hid (colP_all [] xc)
  have hcl := Hsm.out.c
  dsimp only at hcl
  have Hlen := Lib.hid (fun k hk => colP_len [] xc 10000 Hsm.out.cn k hk)
  have Hcn : Hid (∀ c ∈ xc, c.name.size ≤ 10000) := Lib.hid Hsm.out.cn
  have hxl2 := H4.out.l.lc.len
  dsimp only at hxl2
  have hcm := hxl2.2.2
  have hlc := hxl2.2.1
  unfold maxLen at hcm
  clear hxl2
  go_wp2_with fail
  go_loopw [74] (fun i wr => ∃ k : Nat, k ≤ xc.length ∧ i = .int .i64 k ∧ WbO wb (fun k => k < wb) wr wb (colP [] xc k) ∧ EbI w wr ⟨84, xs, xt, xn, xv, xa, xb, xo, xc, xr, xf⟩ ⟨apo, aco, apc, acc, apr, acr, apf, acf⟩ ∧ wb ≤ wr.heap.size) (fun i _ => xc.length - (intOf i).toNat)
  case atStart => exact ⟨0, Nat.zero_le _, rfl, HW4.out, H4.out, hz4⟩
  case round =>
    obtain ⟨k, hk, rfl, hw, hI, hzr⟩ := hrel
    have HW := Lib.hid hw
    have HI := Lib.hid hI
    clear hw hI hc4 hm4 hf4
    by_cases hlt : k < xc.length
    · obtain ⟨b, o, hpp, _, hbl, c0, c1, c2, c3, c4, c5, c6, hq⟩ := co_at HI.out.l.lc hlt
      dsimp only at hpp
      subst hpp
      have hlk := Hlen.out k hk
      have hl9 : (colP [] xc k).length ≤ 20000000 := by
        have : 10025 * k ≤ 10025 * 1000 := Nat.mul_le_mul (Nat.le_refl _) (by omega)
        simp only [nilLen] at hlk
        omega
      have hbk := Hcn.out xc[k] (List.getElem_mem hlt)
      have Hstep := Lib.hid (colP_succ (b := []) hlt)
      dsimp only at c0 c1 c2 c3 c4 c5 c6 hq
      clear hlk hq
      generalize xc[k] = x at *
      obtain ⟨cn, ct, ca, co, cz, cm, cf⟩ := x
      dsimp only at *
      have hlti : (k : Int) < (xc.length : Int) := by omega
      have hal : Below wr.heap.size wr (wr.alloc (.cells #[.string cn, .int .i64 ct, .int .i64 ca, .int .i64 co, .int .i64 cz, .int .i64 cm, .int .i64 cf] 79)) := (Below.refl _ _).alloc (Nat.le_refl _) _
      have HWa := Lib.hid (HW.out.below hal)
      have HIa := Lib.hid (HI.out.step hal)
      have hza : wb ≤ (wr.alloc (.cells #[.string cn, .int .i64 ct, .int .i64 ca, .int .i64 co, .int .i64 cz, .int .i64 cm, .int .i64 cf] 79)).heap.size := by rw [World.size_alloc]; omega
      have Hka := Lib.hid (Blk.new wr 79 #[.string cn, .int .i64 ct, .int .i64 ca, .int .i64 co, .int .i64 cz, .int .i64 cm, .int .i64 cf])
      clear hal
      go_upto_region 25 with fail
      clear c0 c1 c2 c3 c4 c5 c6 hbl
      generalize wr.alloc (.cells #[.string cn, .int .i64 ct, .int .i64 ca, .int .i64 co, .int .i64 cz, .int .i64 cm, .int .i64 cf] 79) = wa at *
      generalize hgx : wr.heap.size = gx at *
      have hcx := Hka.out.cell
      have Ht := Lib.hid (bcolumn_any wb _ wb _ ⟨cn, ct, ca, co, cz, cm, cf⟩ wa HWa.out hza (by omega) (by dsimp only; omega))
      rw [← Hstep.out] at Ht
      unfold WbR at Ht
      dsimp only at Ht
      go_wp2_with fail
      refine Ht.out.mono ?_
      rintro e w7 ⟨rfl, ho, hT⟩
      have HW7 := Lib.hid ho
      have H7 := Lib.hid (HIa.out.step2 (wbD_below hT (by omega) (by omega)))
      have hz7 : wb ≤ w7.heap.size := by have := hT.size; omega
      clear ho hT Ht hcx
      go_wp2_with fail
      go_roundw
      case rel => exact ⟨k + 1, by omega, by go_num, HW7.out, H7.out, hz7⟩
      case measure => simp [intOf]; omega
    · obtain rfl : k = xc.length := by omega
      rw [Hall.out] at HW
      obtain ⟨hcr, hmr, hfr⟩ := HC.out wr HI.out
      obtain ⟨ve, hve⟩ := HW.out
      have HV := Lib.hid hve
      obtain ⟨pe, ce, hpe, -⟩ := hve.own.slice
      obtain ⟨ne, hne⟩ : ∃ n, ve = .slice pe n ce := ⟨_, hpe⟩
      subst hne
      have hcw := HV.out.b.cell
      clear hpe hve
      go_upto_region 37 with fail
      go_region
      all_goals
        have hM2 := HI.out
        have hT9 : Touch (fun k => k = w.heap.size + 1) wr ((wr.setCell ⟨w.heap.size + 1, 0, none⟩ (.int .u8 84)).setCell ⟨w.heap.size + 1, 1, none⟩ (.slice pe ne ce)).drew := (((Touch.refl (fun k => k = w.heap.size + 1) _).setCell (x := ⟨w.heap.size + 1, 0, none⟩) (fun _ => rfl) _).setCell (x := ⟨w.heap.size + 1, 1, none⟩) (fun _ => rfl) _).drew
        have h9 := ((hM2.m.set_ 0 (.int .u8 84)).set_ 1 (.slice pe ne ce)).drew
        simp only [List.setIfInBounds_toArray, List.set_cons_succ, List.set_cons_zero] at h9
        have HO := Lib.hid (OwnR.base (HV.out.own.touch hT9 (fun k hk e => by have := (HV.out.own.row k hk).1; omega)) (show w.heap.size ≤ wb by omega))
        have HB := Lib.hid (hM2.bel.trans (hT9.below hM2.bel.size (fun k hk => by omega)))
        have hcf := h9.cell
        clear hT9 h9 hM2 hcr hmr hfr hcw
        go_wp2_with fail
        refine bodyPost_ret (v := .tuple #[.agg #[.int .u8 84, .slice pe ne ce], .int .i64 0]) (by simp [results, Tryz.results17, go_sem, hcf]) rfl ?_
        exact ⟨_, rfl, HO.out, HB.out⟩

set_option maxRecDepth 100000 in
set_option maxHeartbeats 4000000 in
theorem benc_t (S : Nat → Prop) (x : BaV) (a : BaP) (w : World) (h : BaL S w x a) (hfb : BaB x) (hsm : SmallB x) (hck : checkB x = 0) (hk : x.kind = 116) : Calls Tryz.prog 17 #[baArg x a] w (EncB x w) := by
  have H0 := Lib.hid (EbI.start h)
  have HK := Lib.hid (fun (w0 : World) (H : EbI w w0 x a) => bcheck_any _ x a w0 H.l hfb)
  have Hev : Hid (encB x = (116, listB [] x.oids 4, 0)) := Lib.hid (by unfold encB; rw [if_pos hck]; unfold bodyB; simp_all)
  rw [hck] at HK
  clear hck
  have Hsm := Lib.hid hsm
  have Hfb := Lib.hid hfb
  have HC : Hid (∀ w1 : World, EbI w w1 x a → (∀ i, w1.cell? ⟨w.heap.size, i, none⟩ = (baCells x a)[i]?) ∧ (∀ i, w1.cell? ⟨w.heap.size + 1, i, none⟩ = (#[.int .u8 0, .slice none 0 0] : Array Value)[i]?) ∧ (∀ i, w1.frozen? ⟨w.heap.size + 1, i, none⟩ = false)) := Lib.hid (fun w1 H => ⟨H.b.cell, H.m.cell, H.m.frozen⟩)
  unfold EncB
  rw [Hev.out]
  dsimp only
  obtain ⟨xk, xs, xt, xn, xv, xa, xb, xo, xc, xr, xf⟩ := x
  obtain ⟨apo, aco, apc, acc, apr, acr, apf, acf⟩ := a
  clear h hfb hsm
  unfold baArg at *
  unfold baCells at *
  dsimp only at *
  subst hk
  go_enter Tryz.func17, Tryz.ntmps17
  go_upto_region 1 with (fail)
  generalize (w.alloc (.cells #[.int .u8 116, .int .u8 xs, .string xt, .string xn, .string xv, .int .i64 xa, .int .i64 xb, .slice apo xo.length aco, .slice apc xc.length acc, .slice apr xr.length acr, .slice apf xf.length acf] 39)).alloc (.cells #[.int .u8 0, .slice none 0 0] 42) = w1 at *
  obtain ⟨hc1, hm1, hf1⟩ := HC.out w1 H0.out
  go_wp2_with fail
  refine (HK.out w1 H0.out).mono ?_
  rintro e w2 ⟨rfl, hb2⟩
  have H2 := Lib.hid (H0.out.step hb2)
  obtain ⟨hc2, hm2, hf2⟩ := HC.out w2 H2.out
  clear hb2 hc1 hm1 hf1
  have HW3 : Hid (WbO w2.heap.size (fun k => k < w2.heap.size) (w2.alloc (.cells #[.slice none 0 0] 91)) w2.heap.size []) := Lib.hid (WbO.new w2.heap.size w2 (Nat.le_refl _))
  have H3 := Lib.hid (H2.out.step ((Below.refl _ _).alloc (Nat.le_refl _) (.cells #[.slice none 0 0] 91)))
  have hz3 : w2.heap.size ≤ (w2.alloc (.cells #[.slice none 0 0] 91)).heap.size := by simp
  have hg2 : w.heap.size + 2 ≤ w2.heap.size := by have := H2.out.m.lt; omega
  go_upto_region 5 with fail
  generalize w2.alloc (.cells #[.slice none 0 0] 91) = w3 at *
  generalize w2.heap.size = wb at *
  clear hc2 hm2 hf2 H2
  obtain ⟨hc3, hm3, hf3⟩ := HC.out w3 H3.out
  have Ht := Lib.hid (bnum_any wb _ wb _ (xo.length : Int) 2 w3 HW3.out hz3 (by simp only [nilLen] at *; omega))
  unfold WbR at Ht
  go_wp2_with fail
  refine Ht.out.mono ?_
  rintro e w4 ⟨rfl, ho, hT⟩
  have HW4 := Lib.hid ho
  have H4 := Lib.hid (H3.out.step2 (wbD_below hT (by omega) (by omega)))
  have hz4 : wb ≤ w4.heap.size := by have := hT.size; omega
  obtain ⟨hc4, hm4, hf4⟩ := HC.out w4 H4.out
  clear ho hT hc3 hm3 hf3 Ht
  have Hall := Lib.hid (listP_all [] xo 4)
  have hcl := Hsm.out.o
  dsimp only at hcl
  have Hlen := Lib.hid (fun k hk => listP_len [] xo 4 k hk)
  have hxl2 := H4.out.l.lo.len
  dsimp only at hxl2
  have hcm := hxl2.2.2
  have hlc := hxl2.2.1
  unfold maxLen at hcm
  clear hxl2
  go_wp2_with fail
  go_loopw [92] (fun i wr => ∃ k : Nat, k ≤ xo.length ∧ i = .int .i64 k ∧ WbO wb (fun k => k < wb) wr wb (listP [] xo 4 k) ∧ EbI w wr ⟨116, xs, xt, xn, xv, xa, xb, xo, xc, xr, xf⟩ ⟨apo, aco, apc, acc, apr, acr, apf, acf⟩ ∧ wb ≤ wr.heap.size) (fun i _ => xo.length - (intOf i).toNat)
  case atStart => exact ⟨0, Nat.zero_le _, rfl, HW4.out, H4.out, hz4⟩
  case round =>
    obtain ⟨k, hk, rfl, hw, hI, hzr⟩ := hrel
    have HW := Lib.hid hw
    have HI := Lib.hid hI
    clear hw hI hc4 hm4 hf4
    by_cases hlt : k < xo.length
    · obtain ⟨b, o, hpp, _, hbl, c0⟩ := int_at HI.out.l.lo hlt
      dsimp only at hpp
      subst hpp
      have hlk := Hlen.out k hk
      simp only [nilLen] at hlk
      have Hstep : Hid (listP [] xo 4 (k + 1) = putV (listP [] xo 4 k) xo[k] 4) := Lib.hid (listP_succ (b := []) (size := 4) hlt)
      dsimp only at c0
      generalize xo[k] = x at *
      have hlti : (k : Int) < (xo.length : Int) := by omega
      have Ht := Lib.hid (bnum_any wb _ wb _ x 4 wr HW.out hzr (by omega))
      rw [← Hstep.out] at Ht
      unfold WbR at Ht
      go_wp2_with fail
      refine Ht.out.mono ?_
      rintro e w7 ⟨rfl, ho, hT⟩
      have HW7 := Lib.hid ho
      have H7 := Lib.hid (HI.out.step2 (wbD_below hT (by omega) (by omega)))
      have hz7 : wb ≤ w7.heap.size := by have := hT.size; omega
      clear ho hT Ht c0 hbl
      go_wp2_with fail
      go_roundw
      case rel => exact ⟨k + 1, by omega, by go_num, HW7.out, H7.out, hz7⟩
      case measure => simp [intOf]; omega
    · obtain rfl : k = xo.length := by omega
      rw [Hall.out] at HW
      obtain ⟨hcr, hmr, hfr⟩ := HC.out wr HI.out
      obtain ⟨ve, hve⟩ := HW.out
      have HV := Lib.hid hve
      obtain ⟨pe, ce, hpe, -⟩ := hve.own.slice
      obtain ⟨ne, hne⟩ : ∃ n, ve = .slice pe n ce := ⟨_, hpe⟩
      subst hne
      have hcw := HV.out.b.cell
      clear hpe hve
      go_upto_region 37 with fail
      go_region
      all_goals
        have hM2 := HI.out
        have hT9 : Touch (fun k => k = w.heap.size + 1) wr ((wr.setCell ⟨w.heap.size + 1, 0, none⟩ (.int .u8 116)).setCell ⟨w.heap.size + 1, 1, none⟩ (.slice pe ne ce)).drew := (((Touch.refl (fun k => k = w.heap.size + 1) _).setCell (x := ⟨w.heap.size + 1, 0, none⟩) (fun _ => rfl) _).setCell (x := ⟨w.heap.size + 1, 1, none⟩) (fun _ => rfl) _).drew
        have h9 := ((hM2.m.set_ 0 (.int .u8 116)).set_ 1 (.slice pe ne ce)).drew
        simp only [List.setIfInBounds_toArray, List.set_cons_succ, List.set_cons_zero] at h9
        have HO := Lib.hid (OwnR.base (HV.out.own.touch hT9 (fun k hk e => by have := (HV.out.own.row k hk).1; omega)) (show w.heap.size ≤ wb by omega))
        have HB := Lib.hid (hM2.bel.trans (hT9.below hM2.bel.size (fun k hk => by omega)))
        have hcf := h9.cell
        clear hT9 h9 hM2 hcr hmr hfr hcw
        go_wp2_with fail
        refine bodyPost_ret (v := .tuple #[.agg #[.int .u8 116, .slice pe ne ce], .int .i64 0]) (by simp [results, Tryz.results17, go_sem, hcf]) rfl ?_
        exact ⟨_, rfl, HO.out, HB.out⟩

set_option maxRecDepth 100000 in
set_option maxHeartbeats 4000000 in
theorem benc_E (S : Nat → Prop) (x : BaV) (a : BaP) (w : World) (h : BaL S w x a) (hfb : BaB x) (hsm : SmallB x) (hck : checkB x = 0) (hk : x.kind = 69) : Calls Tryz.prog 17 #[baArg x a] w (EncB x w) := by
  have H0 := Lib.hid (EbI.start h)
  have HK := Lib.hid (fun (w0 : World) (H : EbI w w0 x a) => bcheck_any _ x a w0 H.l hfb)
  have Hev : Hid (encB x = (69, x.fields.foldl fieldW [] ++ [0], 0)) := Lib.hid (by unfold encB; rw [if_pos hck]; unfold bodyB; simp_all)
  rw [hck] at HK
  clear hck
  have Hsm := Lib.hid hsm
  have Hfb := Lib.hid hfb
  have HC : Hid (∀ w1 : World, EbI w w1 x a → (∀ i, w1.cell? ⟨w.heap.size, i, none⟩ = (baCells x a)[i]?) ∧ (∀ i, w1.cell? ⟨w.heap.size + 1, i, none⟩ = (#[.int .u8 0, .slice none 0 0] : Array Value)[i]?) ∧ (∀ i, w1.frozen? ⟨w.heap.size + 1, i, none⟩ = false)) := Lib.hid (fun w1 H => ⟨H.b.cell, H.m.cell, H.m.frozen⟩)
  unfold EncB
  rw [Hev.out]
  dsimp only
  obtain ⟨xk, xs, xt, xn, xv, xa, xb, xo, xc, xr, xf⟩ := x
  obtain ⟨apo, aco, apc, acc, apr, acr, apf, acf⟩ := a
  clear h hfb hsm
  unfold baArg at *
  unfold baCells at *
  dsimp only at *
  subst hk
  go_enter Tryz.func17, Tryz.ntmps17
  go_upto_region 1 with (fail)
  generalize (w.alloc (.cells #[.int .u8 69, .int .u8 xs, .string xt, .string xn, .string xv, .int .i64 xa, .int .i64 xb, .slice apo xo.length aco, .slice apc xc.length acc, .slice apr xr.length acr, .slice apf xf.length acf] 39)).alloc (.cells #[.int .u8 0, .slice none 0 0] 42) = w1 at *
  obtain ⟨hc1, hm1, hf1⟩ := HC.out w1 H0.out
  go_wp2_with fail
  refine (HK.out w1 H0.out).mono ?_
  rintro e w2 ⟨rfl, hb2⟩
  have H2 := Lib.hid (H0.out.step hb2)
  obtain ⟨hc2, hm2, hf2⟩ := HC.out w2 H2.out
  clear hb2 hc1 hm1 hf1
  have HW3 : Hid (WbO w2.heap.size (fun k => k < w2.heap.size) (w2.alloc (.cells #[.slice none 0 0] 91)) w2.heap.size []) := Lib.hid (WbO.new w2.heap.size w2 (Nat.le_refl _))
  have H3 := Lib.hid (H2.out.step ((Below.refl _ _).alloc (Nat.le_refl _) (.cells #[.slice none 0 0] 91)))
  have hz3 : w2.heap.size ≤ (w2.alloc (.cells #[.slice none 0 0] 91)).heap.size := by simp
  have hg2 : w.heap.size + 2 ≤ w2.heap.size := by have := H2.out.m.lt; omega
  go_upto_region 5 with fail
  generalize w2.alloc (.cells #[.slice none 0 0] 91) = w3 at *
  generalize w2.heap.size = wb at *
  clear hc2 hm2 hf2 H2
  obtain ⟨hc3, hm3, hf3⟩ := HC.out w3 H3.out
  have Ht := Lib.hid (bwfields_any wb _ wb _ _ _ _ _ _ w3 HW3.out hz3 H3.out.l.lf (fun k _ hk => by have hk' : k < w.heap.size := hk; exact fun e => by have := e.1; omega) (by simp only [nilLen]; omega) (by have := Hsm.out.f; dsimp only at this ⊢; omega) (fun c hc => by have := Hsm.out.ft c hc; omega))
  unfold WbR at Ht
  go_wp2_with fail
  refine Ht.out.mono ?_
  rintro e w4 ⟨rfl, ho, hT⟩
  have HW4 := Lib.hid ho
  have H4 := Lib.hid (H3.out.step2 (wbD_below hT (by omega) (by omega)))
  have hz4 : wb ≤ w4.heap.size := by have := hT.size; omega
  obtain ⟨hc4, hm4, hf4⟩ := HC.out w4 H4.out
  clear ho hT hc3 hm3 hf3 Ht
  obtain ⟨ve, hve⟩ := HW4.out
  have HV := Lib.hid hve
  obtain ⟨pe, ce, hpe, -⟩ := hve.own.slice
  obtain ⟨ne, hne⟩ : ∃ n, ve = .slice pe n ce := ⟨_, hpe⟩
  subst hne
  have hcw := HV.out.b.cell
  clear hpe hve
  go_upto_region 37 with fail
  go_region
  all_goals
    have hM2 := H4.out
    have hT9 : Touch (fun k => k = w.heap.size + 1) w4 ((w4.setCell ⟨w.heap.size + 1, 0, none⟩ (.int .u8 69)).setCell ⟨w.heap.size + 1, 1, none⟩ (.slice pe ne ce)).drew := (((Touch.refl (fun k => k = w.heap.size + 1) _).setCell (x := ⟨w.heap.size + 1, 0, none⟩) (fun _ => rfl) _).setCell (x := ⟨w.heap.size + 1, 1, none⟩) (fun _ => rfl) _).drew
    have h9 := ((hM2.m.set_ 0 (.int .u8 69)).set_ 1 (.slice pe ne ce)).drew
    simp only [List.setIfInBounds_toArray, List.set_cons_succ, List.set_cons_zero] at h9
    have HO := Lib.hid (OwnR.base (HV.out.own.touch hT9 (fun k hk e => by have := (HV.out.own.row k hk).1; omega)) (show w.heap.size ≤ wb by omega))
    have HB := Lib.hid (hM2.bel.trans (hT9.below hM2.bel.size (fun k hk => by omega)))
    have hcf := h9.cell
    clear hT9 h9 hM2 hc4 hm4 hf4 hcw
    go_wp2_with fail
    refine bodyPost_ret (v := .tuple #[.agg #[.int .u8 69, .slice pe ne ce], .int .i64 0]) (by simp [results, Tryz.results17, go_sem, hcf]) rfl ?_
    exact ⟨_, rfl, HO.out, HB.out⟩

set_option maxRecDepth 100000 in
set_option maxHeartbeats 4000000 in
theorem benc_N (S : Nat → Prop) (x : BaV) (a : BaP) (w : World) (h : BaL S w x a) (hfb : BaB x) (hsm : SmallB x) (hck : checkB x = 0) (hk : x.kind = 78) : Calls Tryz.prog 17 #[baArg x a] w (EncB x w) := by
  have H0 := Lib.hid (EbI.start h)
  have HK := Lib.hid (fun (w0 : World) (H : EbI w w0 x a) => bcheck_any _ x a w0 H.l hfb)
  have Hev : Hid (encB x = (78, x.fields.foldl fieldW [] ++ [0], 0)) := Lib.hid (by unfold encB; rw [if_pos hck]; unfold bodyB; simp_all)
  rw [hck] at HK
  clear hck
  have Hsm := Lib.hid hsm
  have Hfb := Lib.hid hfb
  have HC : Hid (∀ w1 : World, EbI w w1 x a → (∀ i, w1.cell? ⟨w.heap.size, i, none⟩ = (baCells x a)[i]?) ∧ (∀ i, w1.cell? ⟨w.heap.size + 1, i, none⟩ = (#[.int .u8 0, .slice none 0 0] : Array Value)[i]?) ∧ (∀ i, w1.frozen? ⟨w.heap.size + 1, i, none⟩ = false)) := Lib.hid (fun w1 H => ⟨H.b.cell, H.m.cell, H.m.frozen⟩)
  unfold EncB
  rw [Hev.out]
  dsimp only
  obtain ⟨xk, xs, xt, xn, xv, xa, xb, xo, xc, xr, xf⟩ := x
  obtain ⟨apo, aco, apc, acc, apr, acr, apf, acf⟩ := a
  clear h hfb hsm
  unfold baArg at *
  unfold baCells at *
  dsimp only at *
  subst hk
  go_enter Tryz.func17, Tryz.ntmps17
  go_upto_region 1 with (fail)
  generalize (w.alloc (.cells #[.int .u8 78, .int .u8 xs, .string xt, .string xn, .string xv, .int .i64 xa, .int .i64 xb, .slice apo xo.length aco, .slice apc xc.length acc, .slice apr xr.length acr, .slice apf xf.length acf] 39)).alloc (.cells #[.int .u8 0, .slice none 0 0] 42) = w1 at *
  obtain ⟨hc1, hm1, hf1⟩ := HC.out w1 H0.out
  go_wp2_with fail
  refine (HK.out w1 H0.out).mono ?_
  rintro e w2 ⟨rfl, hb2⟩
  have H2 := Lib.hid (H0.out.step hb2)
  obtain ⟨hc2, hm2, hf2⟩ := HC.out w2 H2.out
  clear hb2 hc1 hm1 hf1
  have HW3 : Hid (WbO w2.heap.size (fun k => k < w2.heap.size) (w2.alloc (.cells #[.slice none 0 0] 91)) w2.heap.size []) := Lib.hid (WbO.new w2.heap.size w2 (Nat.le_refl _))
  have H3 := Lib.hid (H2.out.step ((Below.refl _ _).alloc (Nat.le_refl _) (.cells #[.slice none 0 0] 91)))
  have hz3 : w2.heap.size ≤ (w2.alloc (.cells #[.slice none 0 0] 91)).heap.size := by simp
  have hg2 : w.heap.size + 2 ≤ w2.heap.size := by have := H2.out.m.lt; omega
  go_upto_region 5 with fail
  generalize w2.alloc (.cells #[.slice none 0 0] 91) = w3 at *
  generalize w2.heap.size = wb at *
  clear hc2 hm2 hf2 H2
  obtain ⟨hc3, hm3, hf3⟩ := HC.out w3 H3.out
  have Ht := Lib.hid (bwfields_any wb _ wb _ _ _ _ _ _ w3 HW3.out hz3 H3.out.l.lf (fun k _ hk => by have hk' : k < w.heap.size := hk; exact fun e => by have := e.1; omega) (by simp only [nilLen]; omega) (by have := Hsm.out.f; dsimp only at this ⊢; omega) (fun c hc => by have := Hsm.out.ft c hc; omega))
  unfold WbR at Ht
  go_wp2_with fail
  refine Ht.out.mono ?_
  rintro e w4 ⟨rfl, ho, hT⟩
  have HW4 := Lib.hid ho
  have H4 := Lib.hid (H3.out.step2 (wbD_below hT (by omega) (by omega)))
  have hz4 : wb ≤ w4.heap.size := by have := hT.size; omega
  obtain ⟨hc4, hm4, hf4⟩ := HC.out w4 H4.out
  clear ho hT hc3 hm3 hf3 Ht
  obtain ⟨ve, hve⟩ := HW4.out
  have HV := Lib.hid hve
  obtain ⟨pe, ce, hpe, -⟩ := hve.own.slice
  obtain ⟨ne, hne⟩ : ∃ n, ve = .slice pe n ce := ⟨_, hpe⟩
  subst hne
  have hcw := HV.out.b.cell
  clear hpe hve
  go_upto_region 37 with fail
  go_region
  all_goals
    have hM2 := H4.out
    have hT9 : Touch (fun k => k = w.heap.size + 1) w4 ((w4.setCell ⟨w.heap.size + 1, 0, none⟩ (.int .u8 78)).setCell ⟨w.heap.size + 1, 1, none⟩ (.slice pe ne ce)).drew := (((Touch.refl (fun k => k = w.heap.size + 1) _).setCell (x := ⟨w.heap.size + 1, 0, none⟩) (fun _ => rfl) _).setCell (x := ⟨w.heap.size + 1, 1, none⟩) (fun _ => rfl) _).drew
    have h9 := ((hM2.m.set_ 0 (.int .u8 78)).set_ 1 (.slice pe ne ce)).drew
    simp only [List.setIfInBounds_toArray, List.set_cons_succ, List.set_cons_zero] at h9
    have HO := Lib.hid (OwnR.base (HV.out.own.touch hT9 (fun k hk e => by have := (HV.out.own.row k hk).1; omega)) (show w.heap.size ≤ wb by omega))
    have HB := Lib.hid (hM2.bel.trans (hT9.below hM2.bel.size (fun k hk => by omega)))
    have hcf := h9.cell
    clear hT9 h9 hM2 hc4 hm4 hf4 hcw
    go_wp2_with fail
    refine bodyPost_ret (v := .tuple #[.agg #[.int .u8 78, .slice pe ne ce], .int .i64 0]) (by simp [results, Tryz.results17, go_sem, hcf]) rfl ?_
    exact ⟨_, rfl, HO.out, HB.out⟩

set_option maxRecDepth 100000 in
set_option maxHeartbeats 4000000 in
theorem benc_O (S : Nat → Prop) (x : BaV) (a : BaP) (w : World) (h : BaL S w x a) (hfb : BaB x) (hsm : SmallB x) (hck : checkB x = 0) (hk : ∀ n ∈ [83, 75, 90, 67, 68, 84, 116, 69, 78, 82], (x.kind == n) = false) : Calls Tryz.prog 17 #[baArg x a] w (EncB x w) := by
  have H0 := Lib.hid (EbI.start h)
  have HK := Lib.hid (fun (w0 : World) (H : EbI w w0 x a) => bcheck_any _ x a w0 H.l hfb)
  have g0 := hk 83 (by simp)
  have g1 := hk 75 (by simp)
  have g2 := hk 90 (by simp)
  have g3 := hk 67 (by simp)
  have g4 := hk 68 (by simp)
  have g5 := hk 84 (by simp)
  have g6 := hk 116 (by simp)
  have g7 := hk 69 (by simp)
  have g8 := hk 78 (by simp)
  have g9 := hk 82 (by simp)
  clear hk
  have Hev : Hid (encB x = (x.kind, [], 0)) := Lib.hid (by unfold encB; rw [if_pos hck]; unfold bodyB; simp_all)
  rw [hck] at HK
  clear hck
  have Hsm := Lib.hid hsm
  have Hfb := Lib.hid hfb
  have HC : Hid (∀ w1 : World, EbI w w1 x a → (∀ i, w1.cell? ⟨w.heap.size, i, none⟩ = (baCells x a)[i]?) ∧ (∀ i, w1.cell? ⟨w.heap.size + 1, i, none⟩ = (#[.int .u8 0, .slice none 0 0] : Array Value)[i]?) ∧ (∀ i, w1.frozen? ⟨w.heap.size + 1, i, none⟩ = false)) := Lib.hid (fun w1 H => ⟨H.b.cell, H.m.cell, H.m.frozen⟩)
  unfold EncB
  rw [Hev.out]
  dsimp only
  obtain ⟨xk, xs, xt, xn, xv, xa, xb, xo, xc, xr, xf⟩ := x
  obtain ⟨apo, aco, apc, acc, apr, acr, apf, acf⟩ := a
  clear h hfb hsm
  unfold baArg at *
  unfold baCells at *
  dsimp only at *
  go_enter Tryz.func17, Tryz.ntmps17
  go_upto_region 1 with (fail)
  generalize (w.alloc (.cells #[.int .u8 xk, .int .u8 xs, .string xt, .string xn, .string xv, .int .i64 xa, .int .i64 xb, .slice apo xo.length aco, .slice apc xc.length acc, .slice apr xr.length acr, .slice apf xf.length acf] 39)).alloc (.cells #[.int .u8 0, .slice none 0 0] 42) = w1 at *
  obtain ⟨hc1, hm1, hf1⟩ := HC.out w1 H0.out
  go_wp2_with fail
  refine (HK.out w1 H0.out).mono ?_
  rintro e w2 ⟨rfl, hb2⟩
  have H2 := Lib.hid (H0.out.step hb2)
  obtain ⟨hc2, hm2, hf2⟩ := HC.out w2 H2.out
  clear hb2 hc1 hm1 hf1
  have HW3 : Hid (WbO w2.heap.size (fun k => k < w2.heap.size) (w2.alloc (.cells #[.slice none 0 0] 91)) w2.heap.size []) := Lib.hid (WbO.new w2.heap.size w2 (Nat.le_refl _))
  have H3 := Lib.hid (H2.out.step ((Below.refl _ _).alloc (Nat.le_refl _) (.cells #[.slice none 0 0] 91)))
  have hz3 : w2.heap.size ≤ (w2.alloc (.cells #[.slice none 0 0] 91)).heap.size := by simp
  have hg2 : w.heap.size + 2 ≤ w2.heap.size := by have := H2.out.m.lt; omega
  go_upto_region 5 with fail
  generalize w2.alloc (.cells #[.slice none 0 0] 91) = w3 at *
  generalize w2.heap.size = wb at *
  clear hc2 hm2 hf2 H2
  obtain ⟨hc3, hm3, hf3⟩ := HC.out w3 H3.out
  obtain ⟨ve, hve⟩ := HW3.out
  have HV := Lib.hid hve
  obtain ⟨pe, ce, hpe, -⟩ := hve.own.slice
  obtain ⟨ne, hne⟩ : ∃ n, ve = .slice pe n ce := ⟨_, hpe⟩
  subst hne
  have hcw := HV.out.b.cell
  clear hpe hve
  go_upto_region 37 with fail
  go_region
  all_goals
    have hM2 := H3.out
    have hT9 : Touch (fun k => k = w.heap.size + 1) w3 ((w3.setCell ⟨w.heap.size + 1, 0, none⟩ (.int .u8 xk)).setCell ⟨w.heap.size + 1, 1, none⟩ (.slice pe ne ce)).drew := (((Touch.refl (fun k => k = w.heap.size + 1) _).setCell (x := ⟨w.heap.size + 1, 0, none⟩) (fun _ => rfl) _).setCell (x := ⟨w.heap.size + 1, 1, none⟩) (fun _ => rfl) _).drew
    have h9 := ((hM2.m.set_ 0 (.int .u8 xk)).set_ 1 (.slice pe ne ce)).drew
    simp only [List.setIfInBounds_toArray, List.set_cons_succ, List.set_cons_zero] at h9
    have HO := Lib.hid (OwnR.base (HV.out.own.touch hT9 (fun k hk e => by have := (HV.out.own.row k hk).1; omega)) (show w.heap.size ≤ wb by omega))
    have HB := Lib.hid (hM2.bel.trans (hT9.below hM2.bel.size (fun k hk => by omega)))
    have hcf := h9.cell
    clear hT9 h9 hM2 hc3 hm3 hf3 hcw
    go_wp2_with fail
    refine bodyPost_ret (v := .tuple #[.agg #[.int .u8 xk, .slice pe ne ce], .int .i64 0]) (by simp [results, Tryz.results17, go_sem, hcf]) rfl ?_
    exact ⟨_, rfl, HO.out, HB.out⟩

theorem encK_cases (k : Int) : k = 82 ∨ k = 83 ∨ k = 75 ∨ k = 90 ∨ k = 67 ∨ k = 68 ∨ k = 84 ∨ k = 116 ∨ k = 69 ∨ k = 78 ∨ (∀ n ∈ [83, 75, 90, 67, 68, 84, 116, 69, 78, 82], (k == n) = false) := by
  by_cases h0 : k = 82
  · exact .inl h0
  rcases kindB_cases k with h | h | h | h | h | h | h | h | h | h
  · exact .inr (.inl h)
  · exact .inr (.inr (.inl h))
  · exact .inr (.inr (.inr (.inl h)))
  · exact .inr (.inr (.inr (.inr (.inl h))))
  · exact .inr (.inr (.inr (.inr (.inr (.inl h)))))
  · exact .inr (.inr (.inr (.inr (.inr (.inr (.inl h))))))
  · exact .inr (.inr (.inr (.inr (.inr (.inr (.inr (.inl h)))))))
  · exact .inr (.inr (.inr (.inr (.inr (.inr (.inr (.inr (.inl h))))))))
  · exact .inr (.inr (.inr (.inr (.inr (.inr (.inr (.inr (.inr (.inl h)))))))))
  · refine .inr (.inr (.inr (.inr (.inr (.inr (.inr (.inr (.inr (.inr (?_))))))))))
    intro n hn
    have hb : (k == 82) = false := by simpa using h0
    simp only [List.mem_append, List.mem_cons, List.not_mem_nil, or_false] at hn
    rcases hn with rfl | rfl | rfl | rfl | rfl | rfl | rfl | rfl | rfl | rfl <;> first | exact hb | exact h _ (by simp)

theorem benc_any (S : Nat → Prop) (x : BaV) (a : BaP) (w : World) (h : BaL S w x a) (hfb : BaB x) (hsm : SmallB x) : Calls Tryz.prog 17 #[baArg x a] w (EncB x w) := by
  by_cases hck : checkB x = 0
  · rcases encK_cases x.kind with hk | hk | hk | hk | hk | hk | hk | hk | hk | hk | hk
    · exact benc_R S x a w h hfb hsm hck hk
    · exact benc_S S x a w h hfb hsm hck hk
    · exact benc_K S x a w h hfb hsm hck hk
    · exact benc_Z S x a w h hfb hsm hck hk
    · exact benc_C S x a w h hfb hsm hck hk
    · exact benc_D S x a w h hfb hsm hck hk
    · exact benc_T S x a w h hfb hsm hck hk
    · exact benc_t S x a w h hfb hsm hck hk
    · exact benc_E S x a w h hfb hsm hck hk
    · exact benc_N S x a w h hfb hsm hck hk
    · exact benc_O S x a w h hfb hsm hck hk
  · exact benc_no S x a w h hfb hsm hck

end Go.Proofs.YthhebfknikfleaaGreat
