/-
  The walk of MatchInstead (layer 22).
-/
import Derived.Test.YtjfhpafaopeogaaMaN
import Derived.Deep.RegionHeld3
namespace Go.Proofs.Ytjfhpafaopeogaa
open Go.RowKit
set_option linter.unusedVariables false
set_option linter.unusedSimpArgs false

def enH : EnV := ⟨2, true, ⟨#[]⟩, ⟨#[]⟩, [], [], [], []⟩
theorem enH_small : EnSmall enH := by simp [EnSmall, enH]
theorem enH_l (S : Nat → Prop) (w : World) : EnL S w enH enZeroP :=
  ⟨SliceS.empty _ _ (by simp [maxLen, enZeroP]), SliceS.empty _ _ (by simp [maxLen, enZeroP]), SliceS.empty _ _ (by simp [maxLen, enZeroP]), ⟨none, 0, rfl, Nat.le_refl _, by simp [maxLen], BytesIn.nil _ _, fun h => absurd rfl h⟩⟩
/-- Whether the fault is told in the place of what stands behind. -/
def instB : List EnV → Bool
  | [] => false
  | x :: _ => (x.kind != 8) && (!x.hide && failsB x.kind 69)

theorem gotV_inst (l : List EnV) : (gotV (enH :: l) 69 0).2.1 = 0 ∧ (gotV (enH :: l) 69 0).1.failed = [enH] ∧ (gotV (enH :: l) 69 0).1.shw = instB l ∧ (gotV (enH :: l) 69 0).1.name = (if instB l = true then popX l else enH) := by
  have h1 : takesB enH.kind 69 = true := by decide +kernel
  have h2 : failsB enH.kind 69 = true := by decide +kernel
  have hg : ∀ F, gotV (enH :: l) 69 0 = (insteadV ⟨false, enH, F, [enH], l.take (ahead isSync l), 0⟩ 69, 0, (l.drop (ahead isSync l)).drop (ahead notSyn (l.drop (ahead isSync l)))) ∨ True := fun _ => .inr trivial
  have hg : gotV (enH :: l) 69 0 = (insteadV ⟨false, enH, (l.drop (ahead isSync l)).take (ahead notSyn (l.drop (ahead isSync l))), [enH], l.take (ahead isSync l), 0⟩ 69, 0, (l.drop (ahead isSync l)).drop (ahead notSyn (l.drop (ahead isSync l)))) := by
    simp only [gotV, h1, h2, if_true]
    rfl
  rw [hg]
  refine ⟨rfl, (insteadV_rest _ _).2.1, ?_⟩
  dsimp only
  generalize (l.drop (ahead isSync l)).take (ahead notSyn (l.drop (ahead isSync l))) = F
  clear hg h1 h2
  cases l with
  | nil => simp [insteadV, instB]
  | cons x T =>
    cases hs : (x.kind == 8) with
    | true =>
      have h0 : ahead isSync (x :: T) = 0 := by simp [ahead, List.takeWhile_cons, isSync, hs]
      have h1 : (x.kind != 8) = false := by simp [bne, hs]
      rw [h0]
      simp [insteadV, instB, h1]
    | false =>
      have h0 : ∃ k, ahead isSync (x :: T) = k + 1 := by
        refine ⟨ahead isSync T, ?_⟩
        simp [ahead, List.takeWhile_cons, isSync, hs]
      obtain ⟨k, h0⟩ := h0
      have h1 : (x.kind != 8) = true := by simp [bne, hs]
      rw [h0, List.take_succ_cons]
      have hh : enH.hide = true := rfl
      simp only [insteadV, instB, h1, hh, popX, Bool.true_and]
      split <;> simp_all

set_option maxRecDepth 100000 in
set_option maxHeartbeats 10000000 in
theorem matchInstead_walk (p0 : Option Addr) (n0 c0 : Nat) (l : List EnV) (w : World) (h0 : SliceS 8 EnS (fun k => k < w.heap.size) w [.slice p0 n0 c0] l) :
    Calls Try.prog 7 #[.slice p0 n0 c0] w fun e w' => e = .returned (.bool true) ∧ Below w.heap.size w w' := by
  obtain ⟨rfl, hl0, hm0⟩ := h0.len
  unfold maxLen at hm0
  have H0 := Lib.hid h0
  have HE := Lib.hid (entries_any _ p0 _ c0 l 30 _ h0)
  have Haw := Lib.hid matchAwake
  have HG := Lib.hid (fun (w0 : World) B sb E (L : List EnV) v (h : QO 126 B w0 sb E L 60 v) hB => got_any B sb E L 60 v bkE w0 h hB)
  unfold bkArg bkE at HG
  dsimp only at HG
  clear h0
  go_enter Try.func7, Try.ntmps7
  go_wp2_with fail
  refine HE.out.mono ?_
  rintro e wb ⟨ba, rfl, hfa, hba⟩
  have HBb := Lib.hid hba
  clear hba HE
  cases ba with
  | false =>
    clear hfa
    go_wp2_with (go_at_call 29; refine (Haw.out _).mono ?_; rintro e w4 ⟨rfl, hb⟩)
    go_ret
    exact ⟨rfl, HBb.out.trans (hb.mono HBb.out.size)⟩
  | true =>
    obtain ⟨hl30, hfew⟩ := hfa rfl
    have Hfew := Lib.hid (fun x hx => (hfew x hx).small)
    clear hfa hfew
    have Hn1 := Lib.hid (qNew_ok 60 wb (by omega) (by omega))
    go_wp2_with fail
    refine Hn1.out.mono ?_
    rintro e w1 ⟨rfl, hq1, hb1⟩
    have hz1 := hb1.size
    have hww := HBb.out.size
    have hq1l : wb.heap.size < w1.heap.size := hq1.blk.lt
    have HQ1 := Lib.hid hq1
    have HB1 := Lib.hid (HBb.out.trans (hb1.mono HBb.out.size))
    clear hq1 hb1 Hn1
    go_wp2_with fail
    have hal : Below w1.heap.size w1 (w1.alloc (.cells #[.int .i64 2, .bool true, .string ⟨#[]⟩, .string ⟨#[]⟩, .slice none 0 0, .slice none 0 0, .slice none 0 0, .slice none 0 0] 52)) := (Below.refl _ _).alloc (Nat.le_refl _) _
    have hsl := SliceS.newList (S := fun _ => True) (S' := fun _ => True) EnS.still w1 52 #[.int .i64 2, .bool true, .string ⟨#[]⟩, .string ⟨#[]⟩, .slice none 0 0, .slice none 0 0, .slice none 0 0, .slice none 0 0] [enCells enH enZeroP] [enH] ⟨⟨rfl, enZeroP, rfl, enH_l _ _⟩, trivial⟩ rfl (by simp [maxLen]) (fun _ _ h => h) trivial
    have hz1a : w1.heap.size + 1 = (w1.alloc (.cells #[.int .i64 2, .bool true, .string ⟨#[]⟩, .string ⟨#[]⟩, .slice none 0 0, .slice none 0 0, .slice none 0 0, .slice none 0 0] 52)).heap.size := by simp
    have hq1a := HQ1.out.still hal
    have hB1a := HB1.out.trans (hal.mono HB1.out.size)
    generalize w1.alloc (.cells #[.int .i64 2, .bool true, .string ⟨#[]⟩, .string ⟨#[]⟩, .slice none 0 0, .slice none 0 0, .slice none 0 0, .slice none 0 0] 52) = w2 at *
    refine (qPush_ok wb.heap.size wb.heap.size _ _ [] [enH] 60 _ _ 1 1 w2 hq1a hsl (fun x hx => by rw [List.mem_singleton.1 hx]; exact enH_small) (by simp) (by omega) (by omega)).mono ?_
    rintro e w3 ⟨rfl, v3, hq3, hr3, hT3⟩
    have hz3 := hT3.size
    rw [List.nil_append] at hq3
    have HB3 := Lib.hid (hB1a.trans ((hq1a.below hT3 (by omega)).mono (by omega)))
    have HQ3 := Lib.hid hq3
    have Hp := Lib.hid (qPush_ok wb.heap.size wb.heap.size _ _ [enH] l 60 v3 p0 _ c0 w3 hq3 (H0.out.below EnS.still HB3.out) Hfew.out (by simp; omega) (by omega) (by omega))
    clear hq3 hr3 hT3 hq1a hB1a hsl hal HQ1 HB1
    go_wp2_with fail
    refine Hp.out.mono ?_
    rintro e w4 ⟨rfl, v4, hq4, hr4, hT4⟩
    have hz4 := hT4.size
    have hq4' : QO 126 wb.heap.size w4 wb.heap.size _ (enH :: l) 60 v4 := hq4
    have HQ4 := Lib.hid hq4'
    have HB4 := Lib.hid (HB3.out.trans ((HQ3.out.below hT4 (by omega)).mono (by omega)))
    have HG4 := Lib.hid (HG.out w4 wb.heap.size wb.heap.size _ _ v4 hq4' (by omega))
    clear hq4 hq4' hr4 hT4 Hp HQ3 HB3 HG
    unfold GotR at HG4
    obtain ⟨i1, i2, i3, i4⟩ := gotV_inst l
    obtain ⟨R, hR⟩ : ∃ R, gotV (enH :: l) 69 0 = R := ⟨_, rfl⟩
    rw [hR] at HG4 i1 i2 i3 i4
    clear hR
    obtain ⟨⟨sh, ⟨xk, xh, xf, xd, xg, xb', xc, xr⟩, en, fd, dr, rdy⟩, zz, L2⟩ := R
    dsimp only at i1 i2 i3 i4
    subst i1 i2
    obtain ⟨ib, hib⟩ : ∃ ib, instB l = ib := ⟨_, rfl⟩
    rw [hib] at i3 i4
    subst i3
    have Hi := Lib.hid (And.intro hib i4)
    clear hib i4
    go_wp2_with fail
    refine HG4.out.mono ?_
    rintro e w5 ⟨⟨⟨pg, kg, pb, kb, pc, kc, pr, kr⟩, pe, ke, pf, kf, pd, kd⟩, rfl, hl5, ho5⟩
    unfold resArg resCells
    dsimp only at hl5 ho5 ⊢
    have HB5 := Lib.hid (HB4.out.trans ((HQ4.out.belowS (opM_touch ho5) (by omega)).mono (by omega)))
    have Hn5 := Lib.hid hl5.name
    clear hl5 ho5 HG4 HQ4 HB4
    go_upto_region 7 with (fail)
    have hal6 : Below w5.heap.size w5 (w5.alloc (.cells #[.bool sh, .int .i64 xk, .bool xh, .string xf, .string xd, .slice pg xg.length kg, .slice pb xb'.length kb, .slice pc xc.length kc, .slice pr xr.length kr, .slice pe en.length ke, .slice pf 1 kf, .slice pd dr.length kd, .int .u8 rdy] 62)) := (Below.refl _ _).alloc (Nat.le_refl _) _
    have Hn6 := Lib.hid (Hn5.out.keep (Kept.all hal6))
    have HG6 : Hid (Blk (w5.alloc (.cells #[.bool sh, .int .i64 xk, .bool xh, .string xf, .string xd, .slice pg xg.length kg, .slice pb xb'.length kb, .slice pc xc.length kc, .slice pr xr.length kr, .slice pe en.length ke, .slice pf 1 kf, .slice pd dr.length kd, .int .u8 rdy] 62)) w5.heap.size 62 #[.bool sh, .int .i64 xk, .bool xh, .string xf, .string xd, .slice pg xg.length kg, .slice pb xb'.length kb, .slice pc xc.length kc, .slice pr xr.length kr, .slice pe en.length ke, .slice pf 1 kf, .slice pd dr.length kd, .int .u8 rdy]) := Lib.hid (Blk.new _ _ _)
    have HB6 := Lib.hid (HB5.out.trans (hal6.mono HB5.out.size))
    have hgl : w5.heap.size < (w5.alloc (.cells #[.bool sh, .int .i64 xk, .bool xh, .string xf, .string xd, .slice pg xg.length kg, .slice pb xb'.length kb, .slice pc xc.length kc, .slice pr xr.length kr, .slice pe en.length ke, .slice pf 1 kf, .slice pd dr.length kd, .int .u8 rdy] 62)).heap.size := by simp
    clear hal6 Hn5 HB5
    generalize w5.alloc (.cells #[.bool sh, .int .i64 xk, .bool xh, .string xf, .string xd, .slice pg xg.length kg, .slice pb xb'.length kb, .slice pc xc.length kc, .slice pr xr.length kr, .slice pe en.length ke, .slice pf 1 kf, .slice pd dr.length kd, .int .u8 rdy] 62) = w6 at *
    generalize w5.heap.size = g1 at *
    have hg6 := HG6.out.cell
    have Hs6 := Lib.hid (H0.out.below EnS.still HB6.out)
    cases l with
    | nil =>
      obtain ⟨i1, i4⟩ := Hi.out
      simp only [instB] at i1
      subst i1
      simp only [List.length_nil] at *
      simp only [Bool.false_eq_true, if_false, enH, EnV.mk.injEq] at i4
      obtain ⟨rfl, rfl, rfl, rfl, rfl, rfl, rfl, rfl⟩ := i4
      clear Hn6
      go_wp2_with (first | (go_at_call 29; refine (Haw.out _).mono ?_; rintro e w9 ⟨rfl, hb9⟩; have HB9 := Lib.hid (HB6.out.trans (hb9.mono HB6.out.size)); clear hb9))
      go_ret
      exact ⟨rfl, HB9.out⟩
    | cons x T =>
      obtain ⟨b0, o0, a0, rfl, hS, hbl, hLx, g0, g1', g2, g3, g4, g5, g6, g7⟩ := en_at Hs6.out (k := 0) (by simp)
      simp only [List.getElem_cons_zero, Nat.zero_mul, Nat.add_zero] at g0 g1' g2 g3 g4 g5 g6 g7 hLx
      have HLx := Lib.hid hLx
      have Hfy := Lib.hid (failsR_any x.kind 69 w6 (by omega) (by omega))
      have hlen0 : (0 : Int) < ((x :: T).length : Int) := by simp
      have hlen1 : 0 < (x :: T).length := by simp
      obtain ⟨N, hN⟩ : ∃ N, (x :: T).length = N := ⟨_, rfl⟩
      rw [hN] at hlen0 hlen1 ⊢
      clear hN hl0 hl30 hLx hS Hs6
      obtain ⟨i1, i4⟩ := Hi.out
      simp only [instB, popX] at i1 i4
      obtain ⟨yk, yh, yf, yd, yg, yb, yc, yr⟩ := x
      obtain ⟨qg, jg, qb, jb, qc, jc, qr, jr⟩ := a0
      dsimp only at *
      cases hk8 : (yk == 8) with
      | true =>
        have hk8' : (yk != 8) = false := by simp [bne, hk8]
        rw [hk8'] at i1
        simp only [Bool.false_and] at i1
        subst i1
        simp only [Bool.false_eq_true, if_false, enH, EnV.mk.injEq] at i4
        obtain ⟨rfl, rfl, rfl, rfl, rfl, rfl, rfl, rfl⟩ := i4
        clear Hn6
        go_wp2_with (first | (go_at_call 29; refine (Haw.out _).mono ?_; rintro e w9 ⟨rfl, hb9⟩; have HB9 := Lib.hid (HB6.out.trans (hb9.mono HB6.out.size)); clear hb9))
        go_ret
        exact ⟨rfl, HB9.out⟩
      | false =>
        have hk8' : (yk != 8) = true := by simp [bne, hk8]
        rw [hk8'] at i1
        cases yh with
        | true =>
          simp only [Bool.true_and, Bool.not_true, Bool.false_and] at i1
          subst i1
          simp only [Bool.false_eq_true, if_false, enH, EnV.mk.injEq] at i4
          obtain ⟨rfl, rfl, rfl, rfl, rfl, rfl, rfl, rfl⟩ := i4
          clear Hn6
          go_wp2_with (first | (go_at_call 29; refine (Haw.out _).mono ?_; rintro e w9 ⟨rfl, hb9⟩; have HB9 := Lib.hid (HB6.out.trans (hb9.mono HB6.out.size)); clear hb9))
          go_ret
          exact ⟨rfl, HB9.out⟩
        | false =>
          simp only [Bool.true_and, Bool.not_false] at i1
          cases hfy : failsB yk 69 with
          | false =>
            rw [hfy] at i1 Hfy
            subst i1
            simp only [Bool.false_eq_true, if_false, enH, EnV.mk.injEq] at i4
            obtain ⟨rfl, rfl, rfl, rfl, rfl, rfl, rfl, rfl⟩ := i4
            clear Hn6
            go_wp2_with (first | (go_at_call 33; refine Hfy.out.mono ?_; rintro e w8 ⟨rfl, rfl⟩) | (go_at_call 29; refine (Haw.out _).mono ?_; rintro e w9 ⟨rfl, hb9⟩; have HB9 := Lib.hid (HB6.out.trans (hb9.mono HB6.out.size)); clear hb9))
            go_ret
            exact ⟨rfl, HB9.out⟩
          | true =>
            rw [hfy] at i1 Hfy
            subst i1
            simp only [if_true, EnV.mk.injEq] at i4
            obtain ⟨rfl, rfl, rfl, rfl, rfl, rfl, rfl, rfl⟩ := i4
            go_upto_region 10 with (go_at_call 33; refine Hfy.out.mono ?_; rintro e w8 ⟨rfl, rfl⟩)
            have HK : Hid (∀ wx, Below w6.heap.size w6 wx → (∀ i, wx.cell? ⟨g1, i, none⟩ = (#[.bool true, .int .i64 xk, .bool false, .string xf, .string xd, .slice pg xg.length kg, .slice pb xb'.length kb, .slice pc xc.length kc, .slice pr xr.length kr, .slice pe en.length ke, .slice pf 1 kf, .slice pd dr.length kd, .int .u8 rdy] : Array Value)[i]?) ∧ (wx.cell? ⟨b0, o0, none⟩ = some (.int .i64 xk) ∧ wx.cell? ⟨b0, o0 + 1, none⟩ = some (.bool false) ∧ wx.cell? ⟨b0, o0 + 2, none⟩ = some (.string xf) ∧ wx.cell? ⟨b0, o0 + 3, none⟩ = some (.string xd) ∧ wx.cell? ⟨b0, o0 + 4, none⟩ = some (.slice qg xg.length jg) ∧ wx.cell? ⟨b0, o0 + 5, none⟩ = some (.slice qb xb'.length jb) ∧ wx.cell? ⟨b0, o0 + 6, none⟩ = some (.slice qc xc.length jc) ∧ wx.cell? ⟨b0, o0 + 7, none⟩ = some (.slice qr xr.length jr))) := Lib.hid (fun wx hb => ⟨(HG6.out.below hb HG6.out.lt).cell,
              (hb.cell (p := ⟨b0, o0, none⟩) hbl).trans g0, (hb.cell (p := ⟨b0, o0 + 1, none⟩) hbl).trans g1', (hb.cell (p := ⟨b0, o0 + 2, none⟩) hbl).trans g2, (hb.cell (p := ⟨b0, o0 + 3, none⟩) hbl).trans g3, (hb.cell (p := ⟨b0, o0 + 4, none⟩) hbl).trans g4, (hb.cell (p := ⟨b0, o0 + 5, none⟩) hbl).trans g5, (hb.cell (p := ⟨b0, o0 + 6, none⟩) hbl).trans g6, (hb.cell (p := ⟨b0, o0 + 7, none⟩) hbl).trans g7⟩)
            have hbd : Below w6.heap.size w6 w6.drew := below_dropN (Below.refl _ _) (Nat.le_refl _)
            have Hb0 := Lib.hid hbd
            have hS0 := HK.out w6 (Below.refl _ _)
            have HSm := Lib.hid (rSame_any _ _ ⟨xk, false, xf, xd, xg, xb', xc, xr⟩ ⟨xk, false, xf, xd, xg, xb', xc, xr⟩ ⟨pg, kg, pb, kb, pc, kc, pr, kr⟩ ⟨qg, jg, qb, jb, qc, jc, qr, jr⟩ w6.drew (Hn6.out.keep (Kept.all hbd)) (HLx.out.keep (Kept.all hbd)))
            rw [enEq_self] at HSm
            unfold enArg at HSm
            dsimp only at HSm
            clear hbd g0 g1' g2 g3 g4 g5 g6 g7 hg6 Hn6 HLx HG6 Hfy
            go_region_held3 (fun w' => (∀ i, w'.cell? ⟨g1, i, none⟩ = (#[.bool true, .int .i64 xk, .bool false, .string xf, .string xd, .slice pg xg.length kg, .slice pb xb'.length kb, .slice pc xc.length kc, .slice pr xr.length kr, .slice pe en.length ke, .slice pf 1 kf, .slice pd dr.length kd, .int .u8 rdy] : Array Value)[i]?) ∧ (w'.cell? ⟨b0, o0, none⟩ = some (.int .i64 xk) ∧ w'.cell? ⟨b0, o0 + 1, none⟩ = some (.bool false) ∧ w'.cell? ⟨b0, o0 + 2, none⟩ = some (.string xf) ∧ w'.cell? ⟨b0, o0 + 3, none⟩ = some (.string xd) ∧ w'.cell? ⟨b0, o0 + 4, none⟩ = some (.slice qg xg.length jg) ∧ w'.cell? ⟨b0, o0 + 5, none⟩ = some (.slice qb xb'.length jb) ∧ w'.cell? ⟨b0, o0 + 6, none⟩ = some (.slice qc xc.length jc) ∧ w'.cell? ⟨b0, o0 + 7, none⟩ = some (.slice qr xr.length jr)))
              (first | exact hSw | exact hSs | exact hS0 | go_keep)
              (first
                | (go_at_call 34; refine HSm.out.mono ?_; rintro e ws ⟨rfl, hbs9⟩; have Hbs := Lib.hid (Hb0.out.trans (hbs9.mono Hb0.out.size)); have hSs := HK.out ws Hbs.out; clear hbs9)
                | (go_at_call 29; refine (Haw.out _).mono ?_; rintro e w9 ⟨rfl, hb9⟩; have HB9 := Lib.hid ((HB6.out.trans (Hbs.out.mono HB6.out.size)).trans (hb9.mono (HB6.out.trans (Hbs.out.mono HB6.out.size)).size)); have hSw := HK.out w9 (Hbs.out.trans (hb9.mono Hbs.out.size)); clear hb9))
            all_goals
              go_wp2_with fail
              go_ret
              exact ⟨rfl, HB9.out⟩

end Go.Proofs.Ytjfhpafaopeogaa
