/-
  The walk of MatchGets (layer 22).
-/
import Derived.Test.YtjfhpafaopeogaaMaN
import Derived.Deep.RegionHeld3
namespace Go.Proofs.Ytjfhpafaopeogaa
open Go.RowKit
set_option linter.unusedVariables false
set_option linter.unusedSimpArgs false

/-- Between two replies. -/
def MgI (w : World) (qb xb : Nat) (wr : World) : Prop :=
  ∃ Eq Ex vq vx L, Pair w.heap.size wr qb xb Eq Ex L L 60 vq vx ∧ Below w.heap.size w wr
theorem MgI.still {w wr w' : World} {qb xb : Nat} (h : MgI w qb xb wr) (hb : Below wr.heap.size wr w') : MgI w qb xb w' := by
  obtain ⟨Eq, Ex, vq, vx, L, h1, h2⟩ := h
  exact ⟨Eq, Ex, vq, vx, L, h1.still hb, h2.trans (hb.mono h2.size)⟩
theorem Pair.startM {w w1 w2 : World} {most : Nat} (hq : QO 126 w.heap.size w1 w.heap.size (fun _ => False) [] most (.slice none 0 0)) (hb1 : Below w.heap.size w w1)
    (hx : QO 88 w1.heap.size w2 w1.heap.size (fun _ => False) [] most (.slice none 0 0)) (hb2 : Below w1.heap.size w1 w2) : ∃ Eq Ex vq vx, Pair w.heap.size w2 w.heap.size w1.heap.size Eq Ex [] [] most vq vx ∧ Below w.heap.size w w2 := by
  have hz1 := hq.blk.lt
  have hz2 := hx.blk.lt
  refine ⟨fun _ => False, fun k => k < w.heap.size, .slice none 0 0, .slice none 0 0, ⟨hq.still hb2, ?_, fun _ e => e.elim, fun k hk => by omega, ?_, ?_, fun k hk => hk, by omega⟩, hb1.trans (hb2.mono (by omega))⟩
  · have h1 : QO 88 w.heap.size w2 w1.heap.size (fun _ => False) [] most (.slice none 0 0) := ⟨hx.blk, OwnS.empty _, by omega, hx.no, hx.noE, hx.small, hx.len, hx.lim⟩
    exact h1.weak (fun _ _ e => e.elim) (by omega)
  · rintro k (e | e | e)
    · exact e.elim
    · exact ⟨by omega, by simp [rowOf]⟩
    · simp [rowOf] at e
  · rintro k (e | e | e)
    · exact ⟨by omega, by simp [rowOf]⟩
    · exact ⟨by omega, by simp [rowOf]⟩
    · simp [rowOf] at e

set_option maxRecDepth 100000 in
set_option maxHeartbeats 10000000 in
theorem matchGets_walk (p0 p1 : Option Addr) (n0 n1 c0 c1 : Nat) (l : List EnV) (rs : List BkV) (w : World) (h0 : SliceS 8 EnS (fun k => k < w.heap.size) w [.slice p0 n0 c0] l) (h1 : SliceS 11 BkS (fun k => k < w.heap.size) w [.slice p1 n1 c1] rs) :
    Calls Try.prog 8 #[.slice p0 n0 c0, .slice p1 n1 c1] w fun e w' => e = .returned (.bool true) ∧ Below w.heap.size w w' := by
  obtain ⟨rfl, hl0, hm0⟩ := h0.len
  obtain ⟨rfl, hl1, hm1⟩ := h1.len
  unfold maxLen at hm1
  have H0 := Lib.hid h0
  have H1 := Lib.hid h1
  have HE := Lib.hid (entries_any _ p0 _ c0 l 30 w h0)
  have Haw := Lib.hid matchAwake
  clear h0 h1
  go_enter Try.func8, Try.ntmps8
  go_wp2_with fail
  refine HE.out.mono ?_
  rintro e wa ⟨ba, rfl, hfa, hba⟩
  have HBa := Lib.hid hba
  have HF := Lib.hid (matchFew_any _ p1 _ c1 rs wa (H1.out.below BkS.still hba))
  clear hba HE
  cases ba with
  | false =>
    clear hfa HF
    go_wp2_with (go_at_call 29; refine (Haw.out _).mono ?_; rintro e w4 ⟨rfl, hb⟩)
    go_ret
    exact ⟨rfl, HBa.out.trans (hb.mono HBa.out.size)⟩
  | true =>
    obtain ⟨hl30, hfew⟩ := hfa rfl
    have Hfew := Lib.hid (fun x hx => (hfew x hx).small)
    clear hfa hfew
    go_wp2_with fail
    refine HF.out.mono ?_
    rintro e wb ⟨⟨bb, rfl⟩, hbb⟩
    have HBb := Lib.hid (HBa.out.trans (hbb.mono HBa.out.size))
    clear hbb HF HBa
    cases bb with
    | false =>
      go_wp2_with (go_at_call 29; refine (Haw.out _).mono ?_; rintro e w4 ⟨rfl, hb⟩)
      go_ret
      exact ⟨rfl, HBb.out.trans (hb.mono HBb.out.size)⟩
    | true =>
      have Hn1 := Lib.hid (qNew_ok 60 wb (by omega) (by omega))
      have Hn2 := Lib.hid (fun w0 => rNew_ok 60 w0 (by omega) (by omega))
      go_wp2_with fail
      refine Hn1.out.mono ?_
      rintro e w1 ⟨rfl, hq1, hb1⟩
      have HQ1 := Lib.hid (And.intro hq1 hb1)
      clear hq1 hb1 Hn1
      go_wp2_with fail
      refine (Hn2.out _).mono ?_
      rintro e w2 ⟨rfl, hx2, hb2⟩
      have HP0 := Lib.hid (Pair.startM HQ1.out.1 HQ1.out.2 hx2 hb2)
      clear hx2 hb2 HQ1 Hn2
      obtain ⟨Eq0, Ex0, vq0, vx0, hP0, hB0⟩ := HP0.out
      have hl2 := (H0.out.below EnS.still (HBb.out.trans (hB0.mono HBb.out.size))).weak EnS.still (S' := fun k => k < wb.heap.size) (fun k _ hk => by have := HBb.out.size; omega)
      have hZ : pushZ [] l 60 = 0 := by unfold pushZ; rw [if_pos (by simp; omega)]
      have hL : pushL [] l 60 = l := by unfold pushL; rw [if_pos (by simp; omega)]; rfl
      have HPu := Lib.hid (pair_push_q hP0 hl2 Hfew.out (by omega))
      have HB0 := Lib.hid hB0
      have Hl2 := Lib.hid hl2
      have HP0b := Lib.hid hP0
      rw [hZ, hL] at HPu
      have HZL := Lib.hid (And.intro hZ hL)
      clear HP0 hP0 hB0 hl2 hZ hL
      generalize w1.heap.size = xb at *
      go_wp2_with fail
      refine HPu.out.mono ?_
      rintro e w3 ⟨rfl, Eq3, vq3, hP3, hT3⟩
      have hb3 := HP0b.out.belowq hT3
      have HPx := Lib.hid (pair_push_x hP3 ((SliceS.still EnS.still) _ _ _ _ _ _ Hl2.out (Kept.below hb3 (fun k _ hk => ⟨hk, hk⟩))) Hfew.out)
      rw [HZL.out.1, HZL.out.2] at HPx
      have HB3 := Lib.hid (HB0.out.trans hb3)
      have HP3 := Lib.hid hP3
      clear hP3 hT3 hb3 HPu HP0b Hl2 HB0
      go_wp2_with fail
      refine HPx.out.mono ?_
      rintro e w4 ⟨rfl, Ex4, vx4, hP4, hT4⟩
      have HB4 := Lib.hid (HB3.out.trans (HP3.out.belowx hT4))
      have HP4 := Lib.hid hP4
      have HFq := Lib.hid (pair_flush_q hP4)
      clear hP4 hT4 HPx HB3 HP3 HZL
      obtain ⟨F, hF⟩ : ∃ F, l.take (ahead notSyn l) = F := ⟨_, rfl⟩
      rw [hF] at HFq
      have HFe := Lib.hid hF
      clear hF
      go_wp2_with fail
      refine HFq.out.mono ?_
      rintro e w5 ⟨p5, c5, rfl, hs5, ⟨Eq5, vq5, hP5⟩, hb5⟩
      have HB5 := Lib.hid (HB4.out.trans hb5)
      have HFx := Lib.hid (pair_flush_x hP5 hs5)
      rw [HFe.out] at HFx
      clear hs5 hb5 hP5 HB4 HP4 HFq
      go_wp2_with fail
      refine HFx.out.mono ?_
      rintro e w6 ⟨p6, c6, rfl, hs6, ht6, ⟨Ex6, vx6, hP6⟩, hb6⟩
      have HB6 := Lib.hid (HB5.out.trans hb6)
      have HA6 := Lib.hid (rAll_same _ _ p5 p6 _ _ c5 c6 _ w6 ht6 hs6)
      have HI6 : Hid (MgI wb wb.heap.size xb w6) := Lib.hid ⟨_, _, _, _, _, hP6, HB6.out⟩
      clear hs6 ht6 hP6 hb6 HFx HB5
      go_wp2_with fail
      refine HA6.out.mono ?_
      rintro e w7 ⟨rfl, hb7⟩
      have HI7 := Lib.hid (HI6.out.still hb7)
      clear hb7 HI6 HA6 HB6
      go_wp2_with fail
      go_loopw [59] (fun i wr => ∃ k : Nat, k ≤ rs.length ∧ i = .int .i64 k ∧ MgI wb wb.heap.size xb wr) (fun i _ => rs.length - (intOf i).toNat)
      case atStart => exact ⟨0, Nat.zero_le _, rfl, HI7.out⟩
      case round =>
        clear HI7
        obtain ⟨k, hk, rfl, hI⟩ := hrel
        have HI := Lib.hid hI
        clear hI
        by_cases hlt : k < rs.length
        · obtain ⟨Eq, Ex, vq, vx, L, hP, hB⟩ := HI.out
          have hBw := HBb.out.trans (hB.mono HBb.out.size)
          obtain ⟨bb', oo, cs, rfl, hS, hbl, hlc, hc, hx, hL⟩ := (H1.out.below BkS.still hBw).elem (by omega) k rs[k] (List.getElem?_eq_getElem hlt)
          subst hx
          have d0 := hc 0 _ rfl
          have d1 := hc 1 _ rfl
          have d2 := hc 2 _ rfl
          have d3 := hc 3 _ rfl
          have d4 := hc 4 _ rfl
          have d5 := hc 5 _ rfl
          have d6 := hc 6 _ rfl
          have d7 := hc 7 _ rfl
          have d8 := hc 8 _ rfl
          have d9 := hc 9 _ rfl
          have d10 := hc 10 _ rfl
          rw [Nat.add_zero] at d0
          have hal : Below wr.heap.size wr (wr.alloc (.cells (bkCl rs[k]) 69)) := (Below.refl _ _).alloc (Nat.le_refl _) _
          have HB2 := Lib.hid (hB.trans (hal.mono hB.size))
          have HP2 := Lib.hid (hP.still hal)
          have HE2 := Lib.hid (Blk.new wr 69 (bkCl rs[k]))
          have HG := Lib.hid (pair_got_q HP2.out rs[k])
          have Hbx := Lib.hid (And.intro hL.k0 hL.k1)
          have hzb : wr.heap.size < (wr.alloc (.cells (bkCl rs[k]) 69)).heap.size := by simp
          have hqb := hP.q.blk.lt
          have hxb := hP.x.blk.lt
          clear hS hc hL hal hP hB hBw hlc
          generalize rs[k] = x at *
          obtain ⟨bk, bs, bt, bn, bv, n, m, oa, oln, oc, ca, cln, cc, ra, rl, rc, fa, fl, fc⟩ := x
          have HX := Lib.hid (fun (w0 : World) Eq' Ex' (L1 L2 : List EnV) vq' vx' (h : Pair wb.heap.size w0 wb.heap.size xb Eq' Ex' L1 L2 60 vq' vx') r p (hy : ResL (fun j => j ≠ xb) w0 r p) => pair_got_x h ⟨bk, bs, bt, bn, bv, n, m, oa, oln, oc, ca, cln, cc, ra, rl, rc, fa, fl, fc⟩ Hbx.out.1 Hbx.out.2 hy)
          unfold bkArg at HG HX
          unfold bkCl at *
          dsimp only at *
          obtain ⟨R, hR⟩ : ∃ R, gotV L bk bs = R := ⟨_, rfl⟩
          rw [hR] at HG
          have HR := Lib.hid hR
          clear hR
          obtain ⟨⟨sh, ⟨xk, xh, xf, xd, xg, xb', xc, xr⟩, en, fd, dr, rdy⟩, zz, L2⟩ := R
          have hlti : (k : Int) < (rs.length : Int) := by omega
          have hwk : IntKind.i64.wrap ((k : Int) + 1) = (k : Int) + 1 := by rw [IntKind.wrap_i64]; omega
          go_upto_region 12 with (fail)
          generalize wr.alloc (.cells #[.int .u8 bk, .int .u8 bs, .string bt, .string bn, .string bv, .int .i64 n, .int .i64 m, .slice oa oln oc, .slice ca cln cc, .slice ra rl rc, .slice fa fl fc] 69) = w2' at *
          generalize wr.heap.size = gk at *
          clear d0 d1 d2 d3 d4 d5 d6 d7 d8 d9 d10
          have hk2 := HE2.out.cell
          go_wp2_with fail
          refine HG.out.mono ?_
          rintro e w3' ⟨⟨⟨pg, kg, pb, kb, pc, kc, pr, kr⟩, pe, ke, pf, kf, pd, kd⟩, rfl, hl3, ⟨Eq3', vq3', hP3⟩, hb3, hT3⟩
          unfold resArg resCells
          dsimp only at hl3 hP3 ⊢
          have HP3 := Lib.hid hP3
          have HB3 := Lib.hid (HB2.out.trans hb3)
          have Hl3 := Lib.hid hl3
          have HE3 := Lib.hid (hT3.blk HE2.out (by omega))
          have hz3 := hT3.size
          clear hl3 hP3 hb3 hT3 hk2 HE2 HP2 HB2
          go_upto_region 13 with (fail)
          have hal4 : Below w3'.heap.size w3' (w3'.alloc (.cells #[.bool sh, .int .i64 xk, .bool xh, .string xf, .string xd, .slice pg xg.length kg, .slice pb xb'.length kb, .slice pc xc.length kc, .slice pr xr.length kr, .slice pe en.length ke, .slice pf fd.length kf, .slice pd dr.length kd, .int .u8 rdy] 62)) := (Below.refl _ _).alloc (Nat.le_refl _) _
          have HP4 := Lib.hid (HP3.out.still hal4)
          have Hl4 := Lib.hid (Hl3.out.keep (Kept.all hal4))
          have HE4 := Lib.hid (HE3.out.below hal4 HE3.out.lt)
          have HG4 : Hid (Blk (w3'.alloc (.cells #[.bool sh, .int .i64 xk, .bool xh, .string xf, .string xd, .slice pg xg.length kg, .slice pb xb'.length kb, .slice pc xc.length kc, .slice pr xr.length kr, .slice pe en.length ke, .slice pf fd.length kf, .slice pd dr.length kd, .int .u8 rdy] 62)) w3'.heap.size 62 #[.bool sh, .int .i64 xk, .bool xh, .string xf, .string xd, .slice pg xg.length kg, .slice pb xb'.length kb, .slice pc xc.length kc, .slice pr xr.length kr, .slice pe en.length ke, .slice pf fd.length kf, .slice pd dr.length kd, .int .u8 rdy]) := Lib.hid (Blk.new _ _ _)
          have HB4 := Lib.hid (HB3.out.trans (hal4.mono HB3.out.size))
          have hg1 : w3'.heap.size < (w3'.alloc (.cells #[.bool sh, .int .i64 xk, .bool xh, .string xf, .string xd, .slice pg xg.length kg, .slice pb xb'.length kb, .slice pc xc.length kc, .slice pr xr.length kr, .slice pe en.length ke, .slice pf fd.length kf, .slice pd dr.length kd, .int .u8 rdy] 62)).heap.size := by simp
          have HX4 := Lib.hid (HX.out _ _ _ _ _ _ _ HP4.out _ _ Hl4.out)
          rw [HR.out] at HX4
          dsimp only at HX4
          clear hal4 HP3 Hl3 HE3 HB3 HX HG
          generalize w3'.alloc (.cells #[.bool sh, .int .i64 xk, .bool xh, .string xf, .string xd, .slice pg xg.length kg, .slice pb xb'.length kb, .slice pc xc.length kc, .slice pr xr.length kr, .slice pe en.length ke, .slice pf fd.length kf, .slice pd dr.length kd, .int .u8 rdy] 62) = w4' at *
          have hxg : xb < w3'.heap.size := by omega
          have hqg : wb.heap.size < w3'.heap.size := by omega
          have hkg : gk < w3'.heap.size := by omega
          clear hz3
          generalize w3'.heap.size = g1 at *
          have hk4 := HE4.out.cell
          go_wp2_with fail
          refine HX4.out.mono ?_
          rintro e w5' ⟨⟨⟨qg, jg, qb, jb, qc, jc, qr, jr⟩, qe, je, qf, jf, qd, jd⟩, rfl, hl5, hm5, ⟨Ex5, vx5, hP5⟩, hb5, hT5⟩
          unfold resArg resCells
          dsimp only at hl5 hm5 hP5 ⊢
          have hz5 := hT5.size
          have hal6 : Below w5'.heap.size w5' (w5'.alloc (.cells #[.bool sh, .int .i64 xk, .bool xh, .string xf, .string xd, .slice qg xg.length jg, .slice qb xb'.length jb, .slice qc xc.length jc, .slice qr xr.length jr, .slice qe en.length je, .slice qf fd.length jf, .slice qd dr.length jd, .int .u8 rdy] 82)) := (Below.refl _ _).alloc (Nat.le_refl _) _
          have HP6 := Lib.hid (hP5.still hal6)
          have Hl6 := Lib.hid (hl5.keep (Kept.all hal6))
          have Hm6 := Lib.hid (hm5.keep (Kept.all hal6))
          have HG6 := Lib.hid ((hT5.blk HG4.out (by omega)).below hal6 (by omega))
          have HH6 : Hid (Blk (w5'.alloc (.cells #[.bool sh, .int .i64 xk, .bool xh, .string xf, .string xd, .slice qg xg.length jg, .slice qb xb'.length jb, .slice qc xc.length jc, .slice qr xr.length jr, .slice qe en.length je, .slice qf fd.length jf, .slice qd dr.length jd, .int .u8 rdy] 82)) w5'.heap.size 82 #[.bool sh, .int .i64 xk, .bool xh, .string xf, .string xd, .slice qg xg.length jg, .slice qb xb'.length jb, .slice qc xc.length jc, .slice qr xr.length jr, .slice qe en.length je, .slice qf fd.length jf, .slice qd dr.length jd, .int .u8 rdy]) := Lib.hid (Blk.new _ _ _)
          have HB6 := Lib.hid ((HB4.out.trans hb5).trans (hal6.mono (HB4.out.trans hb5).size))
          have hg2 : w5'.heap.size < (w5'.alloc (.cells #[.bool sh, .int .i64 xk, .bool xh, .string xf, .string xd, .slice qg xg.length jg, .slice qb xb'.length jb, .slice qc xc.length jc, .slice qr xr.length jr, .slice qe en.length je, .slice qf fd.length jf, .slice qd dr.length jd, .int .u8 rdy] 82)).heap.size := by simp
          clear hl5 hm5 hP5 hb5 hT5 hal6 hk4 HX4 HE4 HG4 HP4 Hl4 HB4
          go_upto_region 14 with (fail)
          generalize w5'.alloc (.cells #[.bool sh, .int .i64 xk, .bool xh, .string xf, .string xd, .slice qg xg.length jg, .slice qb xb'.length jb, .slice qc xc.length jc, .slice qr xr.length jr, .slice qe en.length je, .slice qf fd.length jf, .slice qd dr.length jd, .int .u8 rdy] 82) = w6' at *
          generalize w5'.heap.size = g2 at *
          have HI6 : Hid (MgI wb wb.heap.size xb w6') := Lib.hid ⟨_, _, _, _, _, HP6.out, HB6.out⟩
          obtain ⟨px, cx, hvx, _⟩ := HP6.out.x.slice
          obtain ⟨nx, hnx⟩ : ∃ nx, L2.length = nx := ⟨_, rfl⟩
          rw [hnx] at hvx
          subst hvx
          have Hnx := Lib.hid hnx
          clear hnx
          have HK : Hid (∀ wx, Below w6'.heap.size w6' wx → (∀ i, wx.cell? ⟨g1, i, none⟩ = (#[.bool sh, .int .i64 xk, .bool xh, .string xf, .string xd, .slice pg xg.length kg, .slice pb xb'.length kb, .slice pc xc.length kc, .slice pr xr.length kr, .slice pe en.length ke, .slice pf fd.length kf, .slice pd dr.length kd, .int .u8 rdy] : Array Value)[i]?) ∧ (∀ i, wx.cell? ⟨g2, i, none⟩ = (#[.bool sh, .int .i64 xk, .bool xh, .string xf, .string xd, .slice qg xg.length jg, .slice qb xb'.length jb, .slice qc xc.length jc, .slice qr xr.length jr, .slice qe en.length je, .slice qf fd.length jf, .slice qd dr.length jd, .int .u8 rdy] : Array Value)[i]?) ∧ (∀ i, wx.cell? ⟨xb, i, none⟩ = (#[.slice px nx cx, .int .i64 (60 : Nat)] : Array Value)[i]?)) := Lib.hid (fun wx hb => ⟨(HG6.out.below hb HG6.out.lt).cell, (HH6.out.below hb HH6.out.lt).cell, (HP6.out.still hb).x.blk.cell⟩)
          have hbd : Below w6'.heap.size w6' w6'.drew := below_dropN (Below.refl _ _) (Nat.le_refl _)
          have Hb0 := Lib.hid hbd
          have hS0 := HK.out w6' (Below.refl _ _)
          have HSm := Lib.hid (fun wx (hb : Below w6'.heap.size w6' wx) => matchSame_any _ _ ⟨sh, ⟨xk, xh, xf, xd, xg, xb', xc, xr⟩, en, fd, dr, rdy⟩ ⟨⟨pg, kg, pb, kb, pc, kc, pr, kr⟩, pe, ke, pf, kf, pd, kd⟩ ⟨⟨qg, jg, qb, jb, qc, jc, qr, jr⟩, qe, je, qf, jf, qd, jd⟩ wx (Hm6.out.keep (Kept.all hb)) (Hl6.out.keep (Kept.all hb)))
          have Hli := Lib.hid (fun wx (hb : Below w6'.heap.size w6' wx) => qList_any _ _ _ _ _ _ _ wx (HP6.out.still hb).q)
          have HAl0 : Hid (∀ wl pl cl, Below w6'.heap.size w6' wl → SliceS 8 EnS (fun _ => True) wl [.slice pl nx cl] L2 → Calls Try.prog 38 #[.slice pl nx cl, .slice px nx cx] wl fun e w' => e = .returned (.bool true) ∧ Below wl.heap.size wl w') := Lib.hid (fun wl pl cl hb hs => rAll_same _ _ _ _ _ _ _ _ _ wl hs (HP6.out.still hb).x.src)
          unfold resArg resCells at HSm
          dsimp only at HSm
          clear hbd Hl6 Hm6 HG6 HH6 HP6 HB6
          have hzz : (zz != zz) = false := by simp
          go_region_held3 (fun w' => (∀ i, w'.cell? ⟨g1, i, none⟩ = (#[.bool sh, .int .i64 xk, .bool xh, .string xf, .string xd, .slice pg xg.length kg, .slice pb xb'.length kb, .slice pc xc.length kc, .slice pr xr.length kr, .slice pe en.length ke, .slice pf fd.length kf, .slice pd dr.length kd, .int .u8 rdy] : Array Value)[i]?) ∧ (∀ i, w'.cell? ⟨g2, i, none⟩ = (#[.bool sh, .int .i64 xk, .bool xh, .string xf, .string xd, .slice qg xg.length jg, .slice qb xb'.length jb, .slice qc xc.length jc, .slice qr xr.length jr, .slice qe en.length je, .slice qf fd.length jf, .slice qd dr.length jd, .int .u8 rdy] : Array Value)[i]?) ∧ (∀ i, w'.cell? ⟨xb, i, none⟩ = (#[.slice px nx cx, .int .i64 (60 : Nat)] : Array Value)[i]?))
            (first | exact hSa | exact hSl | exact hSs | exact hS0 | go_keep)
            (first
              | (go_at_call 42; refine (HSm.out _ Hb0.out).mono ?_; rintro e ws ⟨rfl, hbs9⟩; have Hbs := Lib.hid (Hb0.out.trans (hbs9.mono Hb0.out.size)); have hSs := HK.out ws Hbs.out; clear hbs9)
              | (go_at_call 43; refine (Hli.out _ Hbs.out).mono ?_; rintro e wl ⟨vl, rfl, hol, hbl9⟩; obtain ⟨pl, cl, rfl, hsl⟩ := hol.slice EnS.still (S' := fun _ => True) (fun _ _ _ => trivial) (fun _ _ => trivial); rw [Hnx.out] at hsl ⊢; have Hbl := Lib.hid (Hbs.out.trans (hbl9.mono Hbs.out.size)); have hSl := HK.out wl Hbl.out; have HAl := Lib.hid (HAl0.out wl pl cl Hbl.out hsl); clear hol hbl9 hsl)
              | (go_at_call 38; refine HAl.out.mono ?_; rintro e wa ⟨rfl, hba⟩; have Hba := Lib.hid (Hbl.out.trans (hba.mono Hbl.out.size)); have hSa := HK.out wa Hba.out; clear hba))
          all_goals
            go_wp2_with fail
            go_roundw
            case rel => exact ⟨k + 1, by omega, by go_num, HI6.out.still Hba.out⟩
            case measure => simp [intOf]; omega
        · obtain rfl : k = rs.length := by omega
          obtain ⟨Eq, Ex, vq, vx, L, hP, hB⟩ := HI.out
          have HB := Lib.hid (HBb.out.trans (hB.mono HBb.out.size))
          clear hP hB
          go_wp2_with (go_at_call 29; refine (Haw.out _).mono ?_; rintro e w4 ⟨rfl, hb⟩)
          go_ret
          exact ⟨rfl, HB.out.trans (hb.mono HB.out.size)⟩

end Go.Proofs.Ytjfhpafaopeogaa
