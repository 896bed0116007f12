/-
  The walk of MatchStrange (layer 22).
-/
import Derived.Test.YtjfhpafaopeogaaMaN
import Derived.Deep.RegionHeld3
namespace Go.Proofs.Ytjfhpafaopeogaa
open Go.RowKit
set_option linter.unusedVariables false
set_option linter.unusedSimpArgs false

theorem gotV_taken {x : EnV} {T : List EnV} {k s : Int} (h : takesB x.kind k = true) : (gotV (x :: T) k s).2.1 = 0 := by
  unfold gotV
  dsimp only
  rw [h]
  simp only [if_true]
  split
  · rfl
  · split <;> rfl
theorem gotV_untaken {x : EnV} {T : List EnV} {k s : Int} (h : takesB x.kind k = false) : gotV (x :: T) k s = (resZero, 10, x :: T) := by simp [gotV, h]

set_option maxRecDepth 100000 in
set_option maxHeartbeats 10000000 in
theorem matchStrange_walk (p0 : Option Addr) (n0 c0 : Nat) (l : List EnV) (cs : Array Value) (b : BkV) (w : World) (h0 : SliceS 8 EnS (fun k => k < w.heap.size) w [.slice p0 n0 c0] l) (h1 : BkS (fun k => k < w.heap.size) w cs.toList b) :
    Calls Try.prog 10 #[.slice p0 n0 c0, .agg cs] w fun e w' => e = .returned (.bool true) ∧ Below w.heap.size w w' := by
  obtain ⟨e1, hL⟩ := h1
  have e2 : cs = bkCl b := Array.toList_inj.1 e1
  subst e2
  obtain ⟨rfl, hl0, hm0⟩ := h0.len
  unfold maxLen at hm0
  have hal : Below w.heap.size w (w.alloc (.cells (bkCl b) 69)) := (Below.refl _ _).alloc (Nat.le_refl _) _
  have Hal := Lib.hid hal
  have H0 := Lib.hid h0
  have HE := Lib.hid (entries_any _ p0 _ c0 l 30 _ (h0.below EnS.still hal))
  have HPB := Lib.hid (fun wx (hb : Below w.heap.size w wx) => plainBack_any _ b wx (hL.keep (Kept.all hb)))
  have HK0 := Lib.hid (Blk.new w 69 (bkCl b))
  have hzk : w.heap.size < (w.alloc (.cells (bkCl b) 69)).heap.size := by simp
  have Hbx := Lib.hid (And.intro hL.k0 hL.k1)
  have Haw := Lib.hid matchAwake
  have HG := Lib.hid (fun (w0 : World) B sb E (L : List EnV) v (h : QO 126 B w0 sb E L 60 v) hB => got_any B sb E L 60 v b w0 h hB)
  have Htk := Lib.hid (fun k w0 => takesR_any k b.kind w0 hL.k0 hL.k1)
  clear h0 hL hal e1
  obtain ⟨bk, bs, bt, bn, bv, n, m, oa, oln, oc, ca, cln, cc, ra, rl, rc, fa, fl, fc⟩ := b
  unfold bkArg at HPB HG
  unfold bkCl at *
  dsimp only at *
  go_enter Try.func10, Try.ntmps10
  go_upto_region 1 with (fail)
  generalize w.alloc (.cells #[.int .u8 bk, .int .u8 bs, .string bt, .string bn, .string bv, .int .i64 n, .int .i64 m, .slice oa oln oc, .slice ca cln cc, .slice ra rl rc, .slice fa fl fc] 69) = w0 at *
  go_wp2_with fail
  refine HE.out.mono ?_
  rintro e wa ⟨ba, rfl, hfa, hba⟩
  have HBa := Lib.hid (Hal.out.trans (hba.mono (by omega)))
  have HKa := Lib.hid (HK0.out.below hba HK0.out.lt)
  clear hba HE Hal HK0
  cases ba with
  | false =>
    clear hfa
    go_wp2_with (go_at_call 29; refine (Haw.out _).mono ?_; rintro e w4 ⟨rfl, hb⟩)
    go_ret
    exact ⟨rfl, HBa.out.trans (hb.mono HBa.out.size)⟩
  | true =>
    obtain ⟨hl30, hfew⟩ := hfa rfl
    have Hfew := Lib.hid (fun x hx => (hfew x hx).small)
    have hka := HKa.out.cell
    clear hfa hfew
    go_wp2_with fail
    refine (HPB.out wa HBa.out).mono ?_
    rintro e wb ⟨⟨bb, rfl⟩, hbb⟩
    have HBb := Lib.hid (HBa.out.trans (hbb.mono HBa.out.size))
    have HKb := Lib.hid (HKa.out.below hbb HKa.out.lt)
    clear hbb HPB HBa HKa hka
    cases bb with
    | false =>
      go_wp2_with (go_at_call 29; refine (Haw.out _).mono ?_; rintro e w4 ⟨rfl, hb⟩)
      go_ret
      exact ⟨rfl, HBb.out.trans (hb.mono HBb.out.size)⟩
    | true =>
      have Hn1 := Lib.hid (qNew_ok 60 wb (by omega) (by omega))
      go_wp2_with fail
      refine Hn1.out.mono ?_
      rintro e w1 ⟨rfl, hq1, hb1⟩
      have hz1 := hb1.size
      have HQ1 := Lib.hid hq1
      have HK1 := Lib.hid (HKb.out.below hb1 HKb.out.lt)
      have HB1 := Lib.hid (HBb.out.trans (hb1.mono HBb.out.size))
      have hkl := HKb.out.lt
      have Hp := Lib.hid (qPush_ok wb.heap.size wb.heap.size _ _ [] l 60 _ p0 _ c0 w1 hq1 (H0.out.below EnS.still HB1.out) Hfew.out (by simp; omega) (by omega) hz1)
      clear hq1 hb1 Hn1 HBb HKb
      go_wp2_with fail
      refine Hp.out.mono ?_
      rintro e w2 ⟨rfl, v2, hq2, hr2, hT2⟩
      rw [List.nil_append] at hq2
      have hz2 := hT2.size
      have HQ2 := Lib.hid hq2
      have HK2 := Lib.hid (hT2.blk HK1.out (fun e => by
        rcases e with e | e
        · omega
        · simp [rowOf] at e))
      have HB2 := Lib.hid (HB1.out.trans ((HQ1.out.below hT2 (by omega)).mono (by omega)))
      have hqg : wb.heap.size < w2.heap.size := hq2.blk.lt
      have hk2 := HK2.out.cell
      have HG2 := Lib.hid (HG.out w2 wb.heap.size wb.heap.size _ l v2 hq2 (by omega))
      clear hq2 hr2 hT2 Hp HQ1 HB1 HK1 HG
      unfold GotR at HG2
      obtain ⟨R, hR⟩ : ∃ R, gotV l bk bs = R := ⟨_, rfl⟩
      rw [hR] at HG2
      have HR := Lib.hid hR
      clear hR
      obtain ⟨⟨sh, ⟨xk, xh, xf, xd, xg, xb', xc, xr⟩, en, fd, dr, rdy⟩, zz, L2⟩ := R
      go_wp2_with fail
      refine HG2.out.mono ?_
      rintro e w3 ⟨⟨⟨pg, kg, pb, kb, pc, kc, pr, kr⟩, pe, ke, pf, kf, pd, kd⟩, rfl, hl3, ho3⟩
      unfold resArg resCells
      dsimp only at hl3 ho3 ⊢
      have HB3 := Lib.hid (HB2.out.trans ((HQ2.out.belowS (opM_touch ho3) (by omega)).mono (by omega)))
      have HK3 := Lib.hid ((opM_touch ho3).blk HK2.out (by omega))
      have hz3 := (opM_touch ho3).size
      obtain ⟨v3, hq3, _, _⟩ := ho3
      have HQ3 := Lib.hid hq3
      have Hl3 := Lib.hid hl3
      clear hl3 hq3 hk2 HG2 HQ2 HB2 HK2
      go_upto_region 7 with (fail)
      have hal4 : Below w3.heap.size w3 (w3.alloc (.cells #[.bool sh, .int .i64 xk, .bool xh, .string xf, .string xd, .slice pg xg.length kg, .slice pb xb'.length kb, .slice pc xc.length kc, .slice pr xr.length kr, .slice pe en.length ke, .slice pf fd.length kf, .slice pd dr.length kd, .int .u8 rdy] 62)) := (Below.refl _ _).alloc (Nat.le_refl _) _
      have HQ4 := Lib.hid (HQ3.out.still hal4)
      have Hl4 := Lib.hid (Hl3.out.keep (Kept.all hal4))
      have HK4 := Lib.hid (HK3.out.below hal4 HK3.out.lt)
      have HG4 : Hid (Blk (w3.alloc (.cells #[.bool sh, .int .i64 xk, .bool xh, .string xf, .string xd, .slice pg xg.length kg, .slice pb xb'.length kb, .slice pc xc.length kc, .slice pr xr.length kr, .slice pe en.length ke, .slice pf fd.length kf, .slice pd dr.length kd, .int .u8 rdy] 62)) w3.heap.size 62 #[.bool sh, .int .i64 xk, .bool xh, .string xf, .string xd, .slice pg xg.length kg, .slice pb xb'.length kb, .slice pc xc.length kc, .slice pr xr.length kr, .slice pe en.length ke, .slice pf fd.length kf, .slice pd dr.length kd, .int .u8 rdy]) := Lib.hid (Blk.new _ _ _)
      have HB4 := Lib.hid (HB3.out.trans (hal4.mono HB3.out.size))
      clear hal4 HQ3 Hl3 HK3 HB3
      generalize w3.alloc (.cells #[.bool sh, .int .i64 xk, .bool xh, .string xf, .string xd, .slice pg xg.length kg, .slice pb xb'.length kb, .slice pc xc.length kc, .slice pr xr.length kr, .slice pe en.length ke, .slice pf fd.length kf, .slice pd dr.length kd, .int .u8 rdy] 62) = w4 at *
      have hk4 := HK4.out.cell
      have Hs4 := Lib.hid (H0.out.below EnS.still HB4.out)
      cases l with
      | nil =>
        have hr := HR.out
        rw [show gotV [] bk bs = (resZero, 10, []) from by simp [gotV]] at hr
        simp only [Prod.mk.injEq, resZero, enZero, ResV.mk.injEq, EnV.mk.injEq] at hr
        obtain ⟨⟨rfl, ⟨rfl, rfl, rfl, rfl, rfl, rfl, rfl, rfl⟩, rfl, rfl, rfl, rfl⟩, rfl, rfl⟩ := hr
        (try simp only [List.length_nil] at *)
        go_quiet (fail)
        go_upto_region 9 with (fail)
        have hbd := bel_drewN w4 nq _ (Nat.le_refl _)
        have HQ5 := Lib.hid (HQ4.out.still hbd)
        have Hl5 := Lib.hid (Hl4.out.keep (Kept.all hbd))
        have HG5 := Lib.hid (HG4.out.drewN nq)
        have HB5 := Lib.hid (HB4.out.trans (hbd.mono HB4.out.size))
        have Hs5 := Lib.hid (Hs4.out.below EnS.still hbd)
        clear hbd HQ4 Hl4 HG4 HB4 Hs4 hk4
        generalize w4.drewN nq = w5 at *
        have HSm := Lib.hid (matchSame_any _ (fun _ => True) resZero ⟨⟨pg, kg, pb, kb, pc, kc, pr, kr⟩, pe, ke, pf, kf, pd, kd⟩ resZeroP w5 Hl5.out (resZero_l _ _))
        unfold resArg resCells resZero resZeroP enZero enZeroP at HSm
        dsimp only [List.length_nil] at HSm
        have hg5 := HG5.out.cell
        (try simp only [List.length_nil] at hg5)
        go_wp2_with fail
        refine HSm.out.mono ?_
        rintro e w6 ⟨rfl, hb6⟩
        have HL6 := Lib.hid (qList_any _ _ _ _ _ _ _ _ (HQ5.out.still hb6))
        have HB6 := Lib.hid (HB5.out.trans (hb6.mono HB5.out.size))
        have Hs6 := Lib.hid (Hs5.out.below EnS.still hb6)
        clear hb6 hg5 HSm HQ5 Hl5 HG5 HB5 Hs5
        go_wp2_with fail
        refine HL6.out.mono ?_
        rintro e w7 ⟨vl, rfl, hol, hb7⟩
        obtain ⟨pl, cl, rfl, hsl⟩ := hol.slice EnS.still (S' := fun _ => True) (fun _ _ _ => trivial) (fun _ _ => trivial)
        have HA7 := Lib.hid (rAll_same _ _ _ _ _ _ _ _ _ w7 hsl (Hs6.out.below EnS.still hb7))
        have HB7 := Lib.hid (HB6.out.trans (hb7.mono HB6.out.size))
        clear hol hsl hb7 HL6 Hs6 HB6
        skip
        go_wp2_with fail
        refine HA7.out.mono ?_
        rintro e w8 ⟨rfl, hb8⟩
        have HB8 := Lib.hid (HB7.out.trans (hb8.mono HB7.out.size))
        clear hb8 HA7 HB7
        go_wp2_with (go_at_call 29; refine (Haw.out _).mono ?_; rintro e w9 ⟨rfl, hb⟩)
        go_ret
        exact ⟨rfl, HB8.out.trans (hb.mono HB8.out.size)⟩
      | cons x T =>
        obtain ⟨b0, o0, a0, rfl, hS, hbl, hLx, g0, g1, g2, g3, g4, g5, g6, g7⟩ := en_at Hs4.out (k := 0) (by simp)
        simp only [List.getElem_cons_zero, Nat.zero_mul, Nat.add_zero] at g0
        clear g1 g2 g3 g4 g5 g6 g7 hLx hS
        have hlen0 : (0 : Int) < ((x :: T).length : Int) := by simp
        have hlen1 : 0 < (x :: T).length := by simp
        obtain ⟨N, hN⟩ : ∃ N, (x :: T).length = N := ⟨_, rfl⟩
        rw [hN] at hlen0 hlen1 ⊢
        have HNN := Lib.hid hN
        clear hN hl0 hl30
        have Htq : Hid (∀ r, Calls Try.prog 45 #[.int .i64 x.kind, .int .u8 bk] (w4.drewN r) fun e w' => e = .returned (.bool (takesB x.kind bk)) ∧ w' = w4.drewN r) := Lib.hid (fun r => (Htk.out x.kind (w4.drewN r)).mono (fun e w' h => ⟨h.1, h.2.symm⟩))
        cases ht : takesB x.kind bk with
        | true =>
          rw [ht] at Htq
          have hz0 : zz = 0 := by
            have h := gotV_taken (T := T) (s := bs) ht
            rw [HR.out] at h
            exact h
          subst hz0
          go_quiet ((go_at_call 45; exact Calls.quiet_of_same (Htq.out _)))
          have HB5 := Lib.hid (HB4.out.trans ((bel_drewN w4 nq _ (Nat.le_refl _)).mono HB4.out.size))
          clear HB4 HQ4 Hl4 HG4 Hs4 HK4 g0 hk4
          generalize w4.drewN nq = w5 at *
          go_wp2_with (go_at_call 29; refine (Haw.out _).mono ?_; rintro e w9 ⟨rfl, hb⟩)
          go_ret
          exact ⟨rfl, HB5.out.trans (hb.mono HB5.out.size)⟩
        | false =>
          rw [ht] at Htq
          have hr := HR.out
          rw [gotV_untaken ht] at hr
          simp only [Prod.mk.injEq, resZero, enZero, ResV.mk.injEq, EnV.mk.injEq] at hr
          obtain ⟨⟨rfl, ⟨rfl, rfl, rfl, rfl, rfl, rfl, rfl, rfl⟩, rfl, rfl, rfl, rfl⟩, rfl, rfl⟩ := hr
          go_quiet ((go_at_call 45; exact Calls.quiet_of_same (Htq.out _)))
          clear g0
          go_upto_region 9 with (fail)
          have hbd := bel_drewN w4 nq _ (Nat.le_refl _)
          have HQ5 := Lib.hid (HQ4.out.still hbd)
          have Hl5 := Lib.hid (Hl4.out.keep (Kept.all hbd))
          have HG5 := Lib.hid (HG4.out.drewN nq)
          have HB5 := Lib.hid (HB4.out.trans (hbd.mono HB4.out.size))
          have Hs5 := Lib.hid (Hs4.out.below EnS.still hbd)
          clear hbd HQ4 Hl4 HG4 HB4 Hs4 hk4
          generalize w4.drewN nq = w5 at *
          have HSm := Lib.hid (matchSame_any _ (fun _ => True) resZero ⟨⟨pg, kg, pb, kb, pc, kc, pr, kr⟩, pe, ke, pf, kf, pd, kd⟩ resZeroP w5 Hl5.out (resZero_l _ _))
          unfold resArg resCells resZero resZeroP enZero enZeroP at HSm
          dsimp only [List.length_nil] at HSm
          have hg5 := HG5.out.cell
          (try simp only [List.length_nil] at hg5)
          go_wp2_with fail
          refine HSm.out.mono ?_
          rintro e w6 ⟨rfl, hb6⟩
          have HL6 := Lib.hid (qList_any _ _ _ _ _ _ _ _ (HQ5.out.still hb6))
          have HB6 := Lib.hid (HB5.out.trans (hb6.mono HB5.out.size))
          have Hs6 := Lib.hid (Hs5.out.below EnS.still hb6)
          clear hb6 hg5 HSm HQ5 Hl5 HG5 HB5 Hs5
          go_wp2_with fail
          refine HL6.out.mono ?_
          rintro e w7 ⟨vl, rfl, hol, hb7⟩
          obtain ⟨pl, cl, rfl, hsl⟩ := hol.slice EnS.still (S' := fun _ => True) (fun _ _ _ => trivial) (fun _ _ => trivial)
          have HA7 := Lib.hid (rAll_same _ _ _ _ _ _ _ _ _ w7 hsl (Hs6.out.below EnS.still hb7))
          have HB7 := Lib.hid (HB6.out.trans (hb7.mono HB6.out.size))
          clear hol hsl hb7 HL6 Hs6 HB6
          rw [HNN.out] at HA7 ⊢
          go_wp2_with fail
          refine HA7.out.mono ?_
          rintro e w8 ⟨rfl, hb8⟩
          have HB8 := Lib.hid (HB7.out.trans (hb8.mono HB7.out.size))
          clear hb8 HA7 HB7
          go_wp2_with (go_at_call 29; refine (Haw.out _).mono ?_; rintro e w9 ⟨rfl, hb⟩)
          go_ret
          exact ⟨rfl, HB8.out.trans (hb.mono HB8.out.size)⟩

end Go.Proofs.Ytjfhpafaopeogaa
