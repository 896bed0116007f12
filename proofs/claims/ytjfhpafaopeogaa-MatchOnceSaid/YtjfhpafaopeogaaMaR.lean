/-
  The walk of MatchOnce (layer 22).
-/
import Derived.Test.YtjfhpafaopeogaaMaN
import Derived.Deep.RegionHeld3
namespace Go.Proofs.Ytjfhpafaopeogaa
open Go.RowKit
set_option linter.unusedVariables false
set_option linter.unusedSimpArgs false

/-- Nothing is lost, and nothing is told twice. -/
theorem gotV_once (L : List EnV) (k s : Int) :
    ((gotV L k s).2.1 ≠ 0 → (gotV L k s).2.2 = L) ∧ ((gotV L k s).2.1 = 0 → (gotV L k s).1.failed ++ ((gotV L k s).1.dropped ++ ((gotV L k s).1.ended ++ (gotV L k s).2.2)) = L) ∧
    ((gotV L k s).1.failed ≠ [] → failsB (gotV L k s).1.name.kind k = true) ∧ ((gotV L k s).1.failed = [] → (gotV L k s).1.dropped = []) ∧ ((gotV L k s).2.1 = 0 ∨ (gotV L k s).2.1 = 10) := by
  cases L with
  | nil => simp [gotV, resZero]
  | cons x T =>
    cases ht : takesB x.kind k with
    | false => simp [gotV, ht, resZero]
    | true =>
      cases hf : failsB x.kind k with
      | true =>
        have hg : gotV (x :: T) k s = (insteadV ⟨!x.hide, x, (T.drop (ahead isSync T)).take (ahead notSyn (T.drop (ahead isSync T))), [x], T.take (ahead isSync T), readyV k s⟩ k, 0, (T.drop (ahead isSync T)).drop (ahead notSyn (T.drop (ahead isSync T)))) := by simp [gotV, ht, hf]
        rw [hg]
        have hr := insteadV_rest ⟨!x.hide, x, (T.drop (ahead isSync T)).take (ahead notSyn (T.drop (ahead isSync T))), [x], T.take (ahead isSync T), readyV k s⟩ k
        obtain ⟨r1, r2, r3, r4⟩ := hr
        refine ⟨fun h => absurd rfl h, fun _ => ?_, fun _ => ?_, fun h => ?_, .inl rfl⟩
        · dsimp only
          rw [r1, r2, r3]
          dsimp only
          rw [List.take_append_drop, List.take_append_drop]
          rfl
        · dsimp only
          unfold insteadV
          dsimp only
          cases hd : T.take (ahead isSync T) with
          | nil => exact hf
          | cons d l =>
            dsimp only
            split
            · rename_i h
              simp at h
              exact h.2.2
            · exact hf
        · dsimp only at h
          rw [r2] at h
          simp at h
      | false =>
        cases he : endsB x.kind k with
        | true => simp [gotV, ht, hf, he]
        | false => simp [gotV, ht, hf, he]

/-- Entries behind what is gathered: what else is read stays. -/
theorem once_keep {qb : Nat} {w4 w5 : World} {u v5 : Value} {cs : List Value} {xs : List EnV} (hs : SliceS 8 EnS (fun j => j ≠ qb ∧ rowOf u ≠ some j) w4 cs xs) (hg : w4.grownBy w5 (rowOf u)) (hn : ∀ k, rowOf v5 = some k → rowOf u = some k ∨ w4.heap.size ≤ k) :
    SliceS 8 EnS (fun j => j ≠ qb ∧ rowOf v5 ≠ some j) w5 cs xs :=
  (SliceS.still EnS.still) _ _ _ _ _ _ hs (Kept.touch (Touch.of_row hg) (fun k hk h => ⟨⟨h.1, fun e => by
    rcases hn k e with e' | e'
    · exact h.2 e'
    · omega⟩, fun e => h.2 e.symm⟩))
theorem once_op {t : TypeId} {B sb : Nat} {E : Nat → Prop} {L : List EnV} {most : Nat} {v u v5 : Value} {w w4 w5 : World} (h : OpX t B sb E L most v w (fun j => rowOf u = some j) w4) (hg : w4.grownBy w5 (rowOf u)) (hn : ∀ k, rowOf v5 = some k → rowOf u = some k ∨ w4.heap.size ≤ k) (hr : ∀ k, rowOf v5 = some k → k < w5.heap.size) (hsb : sb < w.heap.size) (hv : ∀ j, rowOf v = some j → j < w.heap.size) :
    OpX t B sb E L most v w (fun j => rowOf v5 = some j) w5 := by
  obtain ⟨E1, v1, h1, h2, h3, h4, h5⟩ := h
  have hT := Touch.of_row hg
  have hz := hT.size
  have hz4 := h4.size
  refine ⟨E1, v1, h1.touch hT (fun e => by have := (h5 sb e.symm).1; omega) (fun k hk e => (h5 k e.symm).2.2.2 hk) (fun k _ hE _ e => (h5 k e.symm).2.2.1 hE), fun j e => ?_, h3, h4.then hT (fun i hi e => by have := (h5 i e.symm).1; omega), fun j e => ?_⟩
  · rcases h2 j e with e | e | e
    · exact .inl e
    · exact .inr (.inl e)
    · exact .inr (.inr ⟨e.1, by omega⟩)
  · rcases hn j e with e' | e'
    · have := h5 j e'
      exact ⟨this.1, by omega, this.2.2⟩
    · refine ⟨by omega, hr j e, fun hE => ?_, fun hE => by have := (h1.own.row j hE).2; omega⟩
      rcases h2 j hE with e | e | e
      · omega
      · have := hv j e; omega
      · omega

set_option maxRecDepth 100000 in
set_option maxHeartbeats 10000000 in
theorem matchOnce_walk (p0 p1 : Option Addr) (n0 n1 c0 c1 : Nat) (l : List EnV) (rs : List BkV) (w : World) (h0 : SliceS 8 EnS (fun k => k < w.heap.size) w [.slice p0 n0 c0] l) (h1 : SliceS 11 BkS (fun k => k < w.heap.size) w [.slice p1 n1 c1] rs) :
    Calls Try.prog 9 #[.slice p0 n0 c0, .slice p1 n1 c1] w fun e w' => e = .returned (.bool true) ∧ Below w.heap.size w w' := by
  obtain ⟨rfl, hl0, hm0⟩ := h0.len
  obtain ⟨rfl, hl1, hm1⟩ := h1.len
  unfold maxLen at hm1
  have H0 := Lib.hid h0
  have H1 := Lib.hid h1
  have HE := Lib.hid (entries_any _ p0 _ c0 l 30 w h0)
  have Haw := Lib.hid matchAwake
  clear h0 h1
  go_enter Try.func9, Try.ntmps9
  go_wp2_with fail
  refine HE.out.mono ?_
  rintro e wa ⟨ba, rfl, hfa, hba⟩
  have HBa := Lib.hid hba
  have HF := Lib.hid (matchFew_any _ p1 _ c1 rs wa (H1.out.below BkS.still hba))
  clear hba HE
  cases ba with
  | false =>
    clear hfa HF
    go_wp2_with (go_at_call 29; refine (Haw.out _).mono ?_; rintro e w4 ⟨rfl, hb⟩)
    go_ret
    exact ⟨rfl, HBa.out.trans (hb.mono HBa.out.size)⟩
  | true =>
    obtain ⟨hl30, hfew⟩ := hfa rfl
    have Hfew := Lib.hid (fun x hx => (hfew x hx).small)
    clear hfa hfew
    go_wp2_with fail
    refine HF.out.mono ?_
    rintro e wb ⟨⟨bb, rfl⟩, hbb⟩
    have HBb := Lib.hid (HBa.out.trans (hbb.mono HBa.out.size))
    clear hbb HF HBa
    cases bb with
    | false =>
      go_wp2_with (go_at_call 29; refine (Haw.out _).mono ?_; rintro e w4 ⟨rfl, hb⟩)
      go_ret
      exact ⟨rfl, HBb.out.trans (hb.mono HBb.out.size)⟩
    | true =>
      have Hn1 := Lib.hid (qNew_ok 60 wb (by omega) (by omega))
      go_wp2_with fail
      refine Hn1.out.mono ?_
      rintro e w1 ⟨rfl, hq1, hb1⟩
      have hz1 := hb1.size
      have hww := HBb.out.size
      have HQ1 := Lib.hid hq1
      have HB1 := Lib.hid (HBb.out.trans (hb1.mono HBb.out.size))
      have Hp := Lib.hid (qPush_ok wb.heap.size wb.heap.size _ _ [] l 60 _ p0 _ c0 w1 hq1 (H0.out.below EnS.still HB1.out) Hfew.out (by simp; omega) (by omega) hz1)
      clear hq1 hb1 Hn1
      go_wp2_with fail
      refine Hp.out.mono ?_
      rintro e w2 ⟨rfl, v2, hq2, hr2, hT2⟩
      rw [List.nil_append] at hq2
      have hz2 := hT2.size
      have hsb := hq2.blk.lt
      have HQ2 := Lib.hid hq2
      have HB2w := Lib.hid (HB1.out.trans ((HQ1.out.below hT2 (by omega)).mono (by omega)))
      have Hn := Lib.hid (And.intro hq2.noE (And.intro hq2.no (fun j hj => (hq2.own.row j hj).2 : ∀ j, rowOf v2 = some j → j < w2.heap.size)))
      have HX2 := Lib.hid (OpX.start hq2)
      have hwb : wb.heap.size ≤ w2.heap.size := by omega
      clear hq2 hr2 hT2 Hp HQ1 HB1 HBb
      generalize hqb : wb.heap.size = qb at *
      generalize gE (fun _ => False) (.slice none 0 0) w1 w2 = E0 at *
      go_wp2_with fail
      go_loopw [7, 39] (fun u i wr => ∃ (k : Nat) (G L : List EnV), k ≤ rs.length ∧ i = .int .i64 k ∧ G ++ L = l ∧ OwnEn w2.heap.size (fun j => j ≠ qb) wr u G ∧ OpX 126 qb qb E0 L 60 v2 w2 (fun j => rowOf u = some j) wr ∧ Below w.heap.size w wr) (fun _ i _ => rs.length - (intOf i).toNat)
      case atStart => exact ⟨0, [], l, Nat.zero_le _, rfl, rfl, OwnS.empty _, HX2.out.less (fun j e => by rw [rowOf_zero] at e; cases e), HB2w.out⟩
      case round =>
        obtain ⟨k, G, L, hk, rfl, hGL, ho, hx, hbw⟩ := hrel
        have HGL := Lib.hid hGL
        have Ho := Lib.hid ho
        have HX := Lib.hid hx
        have HBw := Lib.hid hbw
        have hsz := hx.size
        have hrow := ho.row
        have Hrow := Lib.hid hrow
        clear hGL ho hx hrow
        by_cases hlt : k < rs.length
        · have hal : Below wr.heap.size wr (wr.alloc (.cells (bkCl rs[k]) 69)) := (Below.refl _ _).alloc (Nat.le_refl _) _
          obtain ⟨bb', oo, cs, rfl, hS, hbl, hlc, hc, hx, hL⟩ := (H1.out.below BkS.still hbw).elem (by omega) k rs[k] (List.getElem?_eq_getElem hlt)
          subst hx
          have d0 := hc 0 _ rfl
          have d1 := hc 1 _ rfl
          have d2 := hc 2 _ rfl
          have d3 := hc 3 _ rfl
          have d4 := hc 4 _ rfl
          have d5 := hc 5 _ rfl
          have d6 := hc 6 _ rfl
          have d7 := hc 7 _ rfl
          have d8 := hc 8 _ rfl
          have d9 := hc 9 _ rfl
          have d10 := hc 10 _ rfl
          rw [Nat.add_zero] at d0
          obtain ⟨E1, v1, hq1, hE1, hgo⟩ := (HX.out.still hal Hn.out.2.2).open Hn.out.2.2
          have HE2 := Lib.hid (Blk.new wr 69 (bkCl rs[k]))
          have hzb : wr.heap.size < (wr.alloc (.cells (bkCl rs[k]) 69)).heap.size := by simp
          have HG := Lib.hid (got_any qb qb E1 L 60 v1 rs[k] _ hq1 (by omega))
          have Hq1 := Lib.hid (And.intro hE1 hgo)
          have Ho2 := Lib.hid (Ho.out.below' EnS.still hal)
          have HB2 := Lib.hid (hbw.trans (hal.mono hbw.size))
          have Hbx := Lib.hid (And.intro hL.k0 hL.k1)
          clear hS hc hL hal hlc hq1 hE1 hgo hbw
          generalize rs[k] = x at *
          obtain ⟨bk, bs, bt, bn, bv, n, m, oa, oln, oc, ca, cln, cc, ra, rl, rc, fa, fl, fc⟩ := x
          have Hfl := Lib.hid (fun k w0 => failsR_any k bk w0 Hbx.out.1 Hbx.out.2)
          unfold GotR bkArg at HG
          unfold bkCl at *
          dsimp only at *
          obtain ⟨o1, o2, o3, o4, o5⟩ := gotV_once L bk bs
          obtain ⟨R, hR⟩ : ∃ R, gotV L bk bs = R := ⟨_, rfl⟩
          rw [hR] at HG o1 o2 o3 o4 o5
          clear hR
          obtain ⟨⟨sh, ⟨xk, xh, xf, xd, xg, xb', xc, xr⟩, en, fd, dr, rdy⟩, zz, L2⟩ := R
          dsimp only at o1 o2 o3 o4 o5
          have Ho1 := Lib.hid o1
          have Ho2' := Lib.hid o2
          have Ho3 := Lib.hid o3
          have Ho4 := Lib.hid o4
          clear o1 o2 o3 o4
          have hlti : (k : Int) < (rs.length : Int) := by omega
          have hwk : IntKind.i64.wrap ((k : Int) + 1) = (k : Int) + 1 := by rw [IntKind.wrap_i64]; omega
          go_upto_region 10 with (fail)
          generalize wr.alloc (.cells #[.int .u8 bk, .int .u8 bs, .string bt, .string bn, .string bv, .int .i64 n, .int .i64 m, .slice oa oln oc, .slice ca cln cc, .slice ra rl rc, .slice fa fl fc] 69) = w2' at *
          have hrw : ∀ j, rowOf u7 = some j → w2.heap.size ≤ j ∧ j < wr.heap.size := Hrow.out
          have Hrw := Lib.hid hrw
          have hqr : qb < wr.heap.size := by omega
          clear hrw d0 d1 d2 d3 d4 d5 d6 d7 d8 d9 d10
          have hk2 := HE2.out.cell
          go_wp2_with fail
          refine HG.out.mono ?_
          rintro e w3' ⟨⟨⟨pg, kg, pb, kb, pc, kc, pr, kr⟩, pe, ke, pf, kf, pd, kd⟩, rfl, hl3, ho3⟩
          unfold resArg resCells
          dsimp only at hl3 ho3 ⊢
          have hT3 := opM_touch ho3
          have hz3 := hT3.size
          have HX3 := Lib.hid (Hq1.out.2 _ _ ho3)
          have HE3 := Lib.hid (hT3.blk HE2.out (by omega))
          have HOo3 := Lib.hid (Ho2.out.touch (S' := fun j => j ≠ qb) EnS.still hT3 (fun j hj => by have := Hrw.out j hj; omega) (fun j _ hj _ => ⟨hj, hj⟩))
          have Hl3 := Lib.hid (hl3.keep (G' := fun j => j ≠ qb ∧ rowOf u7 ≠ some j) (Kept.mono _ (fun j _ hj => ⟨hj.2, fun e => by
            rcases hj.1 with e' | e' | e'
            · exact (Hq1.out.1 j (.inl e'.1)).2.1 e
            · exact (Hq1.out.1 j (.inr e')).2.1 e
            · have := Hrw.out j e; omega⟩)))
          have HB3 := Lib.hid (HB2.out.trans ((hT3.below (B := qb) (by omega) (fun j e => by omega)).mono (by omega)))
          clear hl3 ho3 hT3 hk2 HG Hq1 Ho2 HB2 HE2 HX
          go_upto_region 11 with (fail)
          have hal4 : Below w3'.heap.size w3' (w3'.alloc (.cells #[.bool sh, .int .i64 xk, .bool xh, .string xf, .string xd, .slice pg xg.length kg, .slice pb xb'.length kb, .slice pc xc.length kc, .slice pr xr.length kr, .slice pe en.length ke, .slice pf fd.length kf, .slice pd dr.length kd, .int .u8 rdy] 62)) := (Below.refl _ _).alloc (Nat.le_refl _) _
          have HO4 := Lib.hid (HOo3.out.below' EnS.still hal4)
          have HX4 := Lib.hid (HX3.out.still hal4 Hn.out.2.2)
          have Hl4 := Lib.hid (Hl3.out.keep (Kept.all hal4))
          have HE4 := Lib.hid (HE3.out.below hal4 HE3.out.lt)
          have HG4 : Hid (Blk (w3'.alloc (.cells #[.bool sh, .int .i64 xk, .bool xh, .string xf, .string xd, .slice pg xg.length kg, .slice pb xb'.length kb, .slice pc xc.length kc, .slice pr xr.length kr, .slice pe en.length ke, .slice pf fd.length kf, .slice pd dr.length kd, .int .u8 rdy] 62)) w3'.heap.size 62 #[.bool sh, .int .i64 xk, .bool xh, .string xf, .string xd, .slice pg xg.length kg, .slice pb xb'.length kb, .slice pc xc.length kc, .slice pr xr.length kr, .slice pe en.length ke, .slice pf fd.length kf, .slice pd dr.length kd, .int .u8 rdy]) := Lib.hid (Blk.new _ _ _)
          have HB4 := Lib.hid (HB3.out.trans (hal4.mono HB3.out.size))
          have hg1 : w3'.heap.size < (w3'.alloc (.cells #[.bool sh, .int .i64 xk, .bool xh, .string xf, .string xd, .slice pg xg.length kg, .slice pb xb'.length kb, .slice pc xc.length kc, .slice pr xr.length kr, .slice pe en.length ke, .slice pf fd.length kf, .slice pd dr.length kd, .int .u8 rdy] 62)).heap.size := by simp
          have hkg : wr.heap.size < w3'.heap.size := by omega
          have HZ4 := Lib.hid (show w2.heap.size ≤ (w3'.alloc (.cells #[.bool sh, .int .i64 xk, .bool xh, .string xf, .string xd, .slice pg xg.length kg, .slice pb xb'.length kb, .slice pc xc.length kc, .slice pr xr.length kr, .slice pe en.length ke, .slice pf fd.length kf, .slice pd dr.length kd, .int .u8 rdy] 62)).heap.size by omega)
          clear hal4 HOo3 HX3 Hl3 HE3 HB3 Ho
          generalize w3'.alloc (.cells #[.bool sh, .int .i64 xk, .bool xh, .string xf, .string xd, .slice pg xg.length kg, .slice pb xb'.length kb, .slice pc xc.length kc, .slice pr xr.length kr, .slice pe en.length ke, .slice pf fd.length kf, .slice pd dr.length kd, .int .u8 rdy] 62) = w4 at *
          clear hz3
          generalize w3'.heap.size = g1 at *
          have hk4 := HE4.out.cell
          have hg4 := HG4.out.cell
          rcases o5 with o5 | o5
          · subst o5
            have hfull := Ho2'.out rfl
            have hlenL := congrArg List.length hfull
            have hlenG := congrArg List.length HGL.out
            simp only [List.length_append] at hlenL hlenG
            have Hfull := Lib.hid hfull
            have HR4 : Hid (∀ j, rowOf u7 = some j → j ≠ g1 ∧ j ≠ wr.heap.size) := Lib.hid (fun j e => by have := Hrw.out j e; omega)
            have HSf4 := Lib.hid Hl4.out.failed
            have HSd4 := Lib.hid Hl4.out.dropped
            have HSe4 := Lib.hid Hl4.out.ended
            dsimp only at HSf4 HSd4 HSe4
            have hww2 : w.heap.size ≤ w2.heap.size := HB2w.out.size
            clear hfull
            by_cases hfd : fd = []
            · have hdr := Ho4.out hfd
              subst hfd hdr
              have HRM5 : Hid (G.length + en.length ≤ 1000000) := Lib.hid (by simp at hlenL; omega)
              have hGL5 : Hid ((G ++ en) ++ L2 = l) := Lib.hid (by
                have h := Hfull.out
                simp only [List.nil_append] at h
                rw [List.append_assoc, h]
                exact HGL.out)
              simp only [List.length_nil] at hg4 HG4
              clear hlenL hlenG
              go_wp2_with (at_builtin; refine step_appendEn _ rfl (.tmp 67) (.tmp 69) rfl w2.heap.size (fun j => j ≠ qb) u7 (G) rfl HO4.out pe en.length ke en rfl HSe4.out HRM5.out HZ4.out ?_; intro v5 w5 ho5 hg5 hn5; have HO5 := Lib.hid ho5; have HX5 := Lib.hid (once_op HX4.out hg5 hn5 (fun k hk => (ho5.row k hk).2) hsb Hn.out.2.2); have hT5 := Touch.of_row hg5; have HZ5 := Lib.hid (Nat.le_trans HZ4.out hT5.size); have HB5 := Lib.hid (HB4.out.trans ((hT5.below (B := w.heap.size) HB4.out.size (fun j e => by have := (HO4.out.row j e.symm).1; omega)))); have HR5 : Hid (∀ j, rowOf v5 = some j → j ≠ g1 ∧ j ≠ wr.heap.size) := Lib.hid (fun j e => by rcases hn5 j e with e' | e'; (· exact HR4.out j e'); (· have := HG4.out.lt; have := HE4.out.lt; omega)); have HG5 := Lib.hid (hT5.blk HG4.out (fun e => (HR4.out _ e.symm).1 rfl)); have HE5 := Lib.hid (hT5.blk HE4.out (fun e => (HR4.out _ e.symm).2 rfl)); have hg5' := HG5.out.cell; have hk5 := HE5.out.cell; clear ho5 hg5 hn5 hT5)
              go_roundw
              case rel => exact ⟨k + 1, G ++ en, L2, by omega, by go_num, hGL5.out, HO5.out, HX5.out, HB5.out⟩
              case measure => simp [intOf]; omega
            · have hpos : 0 < fd.length := List.length_pos_iff.2 hfd
              have hposi : (0 : Int) < (fd.length : Int) := by omega
              have hff := Ho3.out hfd
              have Hfy := Lib.hid (fun w0 => Hfl.out xk w0)
              rw [hff] at Hfy
              have HRM5 : Hid (G.length + fd.length ≤ 1000000) := Lib.hid (by omega)
              have HRM6 : Hid ((G ++ fd).length + dr.length ≤ 1000000) := Lib.hid (by rw [List.length_append]; omega)
              have HRM7 : Hid (((G ++ fd) ++ dr).length + en.length ≤ 1000000) := Lib.hid (by rw [List.length_append, List.length_append]; omega)
              have hGL7 : Hid ((((G ++ fd) ++ dr) ++ en) ++ L2 = l) := Lib.hid (by
                rw [List.append_assoc, List.append_assoc, List.append_assoc, Hfull.out]
                exact HGL.out)
              clear hlenL hlenG hff hpos
              go_wp2_with (first
                | (at_builtin; refine step_appendEn _ rfl (.tmp 55) (.tmp 57) rfl w2.heap.size (fun j => j ≠ qb) u7 (G) rfl HO4.out pf fd.length kf fd rfl HSf4.out HRM5.out HZ4.out ?_; intro v5 w5 ho5 hg5 hn5; have HO5 := Lib.hid ho5; have HX5 := Lib.hid (once_op HX4.out hg5 hn5 (fun k hk => (ho5.row k hk).2) hsb Hn.out.2.2); have hT5 := Touch.of_row hg5; have HZ5 := Lib.hid (Nat.le_trans HZ4.out hT5.size); have HB5 := Lib.hid (HB4.out.trans ((hT5.below (B := w.heap.size) HB4.out.size (fun j e => by have := (HO4.out.row j e.symm).1; omega)))); have HR5 : Hid (∀ j, rowOf v5 = some j → j ≠ g1 ∧ j ≠ wr.heap.size) := Lib.hid (fun j e => by rcases hn5 j e with e' | e'; (· exact HR4.out j e'); (· have := HG4.out.lt; have := HE4.out.lt; omega)); have HG5 := Lib.hid (hT5.blk HG4.out (fun e => (HR4.out _ e.symm).1 rfl)); have HE5 := Lib.hid (hT5.blk HE4.out (fun e => (HR4.out _ e.symm).2 rfl)); have hg5' := HG5.out.cell; have hk5 := HE5.out.cell; have HSd5 := Lib.hid (once_keep HSd4.out hg5 hn5); have HSe5 := Lib.hid (once_keep HSe4.out hg5 hn5); clear ho5 hg5 hn5 hT5)
                | (at_builtin; refine step_appendEn _ rfl (.tmp 59) (.tmp 61) rfl w2.heap.size (fun j => j ≠ qb) v5 (G ++ fd) rfl HO5.out pd dr.length kd dr rfl HSd5.out HRM6.out HZ5.out ?_; intro v6 w6 ho6 hg6 hn6; have HO6 := Lib.hid ho6; have HX6 := Lib.hid (once_op HX5.out hg6 hn6 (fun k hk => (ho6.row k hk).2) hsb Hn.out.2.2); have hT6 := Touch.of_row hg6; have HZ6 := Lib.hid (Nat.le_trans HZ5.out hT6.size); have HB6 := Lib.hid (HB5.out.trans ((hT6.below (B := w.heap.size) HB5.out.size (fun j e => by have := (HO5.out.row j e.symm).1; omega)))); have HR6 : Hid (∀ j, rowOf v6 = some j → j ≠ g1 ∧ j ≠ wr.heap.size) := Lib.hid (fun j e => by rcases hn6 j e with e' | e'; (· exact HR5.out j e'); (· have := HG5.out.lt; have := HE5.out.lt; omega)); have HG6 := Lib.hid (hT6.blk HG5.out (fun e => (HR5.out _ e.symm).1 rfl)); have HE6 := Lib.hid (hT6.blk HE5.out (fun e => (HR5.out _ e.symm).2 rfl)); have hg6' := HG6.out.cell; have hk6 := HE6.out.cell; have HSe6 := Lib.hid (once_keep HSe5.out hg6 hn6); clear ho6 hg6 hn6 hT6)
                | (at_builtin; refine step_appendEn _ rfl (.tmp 63) (.tmp 65) rfl w2.heap.size (fun j => j ≠ qb) v6 ((G ++ fd) ++ dr) rfl HO6.out pe en.length ke en rfl HSe6.out HRM7.out HZ6.out ?_; intro v7 w7 ho7 hg7 hn7; have HO7 := Lib.hid ho7; have HX7 := Lib.hid (once_op HX6.out hg7 hn7 (fun k hk => (ho7.row k hk).2) hsb Hn.out.2.2); have hT7 := Touch.of_row hg7; have HZ7 := Lib.hid (Nat.le_trans HZ6.out hT7.size); have HB7 := Lib.hid (HB6.out.trans ((hT7.below (B := w.heap.size) HB6.out.size (fun j e => by have := (HO6.out.row j e.symm).1; omega)))); have HR7 : Hid (∀ j, rowOf v7 = some j → j ≠ g1 ∧ j ≠ wr.heap.size) := Lib.hid (fun j e => by rcases hn7 j e with e' | e'; (· exact HR6.out j e'); (· have := HG6.out.lt; have := HE6.out.lt; omega)); have HG7 := Lib.hid (hT7.blk HG6.out (fun e => (HR6.out _ e.symm).1 rfl)); have HE7 := Lib.hid (hT7.blk HE6.out (fun e => (HR6.out _ e.symm).2 rfl)); have hg7' := HG7.out.cell; have hk7 := HE7.out.cell; clear ho7 hg7 hn7 hT7)
                | (go_at_call 33; refine (Hfy.out _).mono ?_; rintro e w8 ⟨rfl, rfl⟩))
              go_roundw
              case rel => exact ⟨k + 1, ((G ++ fd) ++ dr) ++ en, L2, by omega, by go_num, hGL7.out, HO7.out, HX7.out, HB7.out⟩
              case measure => simp [intOf]; omega
          · subst o5
            have hL2 := Ho1.out (by decide)
            subst hL2
            go_wp2_with fail
            go_roundw
            case rel => exact ⟨k + 1, G, L2, by omega, by go_num, HGL.out, HO4.out, HX4.out, HB4.out⟩
            case measure => simp [intOf]; omega
        · obtain rfl : k = rs.length := by omega
          have hxx := HX.out
          obtain ⟨E1, v1, hq1, hE1, hgo⟩ := hxx.open Hn.out.2.2
          have HLi := Lib.hid (qList_any _ _ _ _ _ _ _ _ hq1)
          clear hxx hq1 hE1 hgo
          have hlenG := congrArg List.length HGL.out
          simp only [List.length_append] at hlenG
          have HRM : Hid (G.length + L.length ≤ 1000000) := Lib.hid (by omega)
          have hww2 : w.heap.size ≤ w2.heap.size := HB2w.out.size
          clear hlenG
          go_wp2_with fail
          refine HLi.out.mono ?_
          rintro e w4 ⟨vl, rfl, hol, hb4⟩
          have HO4 := Lib.hid (Ho.out.below' EnS.still hb4)
          have hz4 := hb4.size
          have HZ4 := Lib.hid (show w2.heap.size ≤ w4.heap.size by omega)
          have HB4 := Lib.hid (HBw.out.trans (hb4.mono HBw.out.size))
          have hrl := hol.row
          obtain ⟨pl, cl, rfl, hsl⟩ := hol.slice EnS.still (S' := fun j => j ≠ qb ∧ rowOf u7 ≠ some j) (fun j _ hj => by have hj' : wr.heap.size ≤ j := hj; exact ⟨by omega, fun e => by have := (Hrow.out j e).2; omega⟩) (fun j hj => by have := (hrl j hj).1; exact ⟨by omega, fun e => by have := (Hrow.out j e).2; omega⟩)
          have HS4 := Lib.hid hsl
          clear hol hb4 hrl hsl HLi
          go_wp2_with (at_builtin; refine step_appendEn _ rfl (.tmp 85) (.tmp 87) rfl w2.heap.size (fun j => j ≠ qb) u7 G rfl HO4.out pl L.length cl L rfl HS4.out HRM.out HZ4.out ?_; intro v5 w5 ho5 hg5 hn5; have HB5 := Lib.hid (HB4.out.trans (((Touch.of_row hg5).below (B := w.heap.size) HB4.out.size (fun j e => by have := (HO4.out.row j e.symm).1; omega)))); have HO5 := Lib.hid ho5; clear ho5 hg5 hn5)
          obtain ⟨p5, c5, hv5, hs5⟩ := HO5.out.slice EnS.still (S' := fun _ => True) (fun _ _ _ => trivial) (fun _ _ => trivial)
          rw [HGL.out] at hv5 hs5
          subst hv5
          have HA5 := Lib.hid (rAll_same _ _ p5 p0 _ _ c5 c0 l w5 hs5 (H0.out.below EnS.still HB5.out))
          clear hs5
          refine HA5.out.mono ?_
          rintro e w6 ⟨rfl, hb6⟩
          have HB6 := Lib.hid (HB5.out.trans (hb6.mono HB5.out.size))
          clear hb6 HA5
          go_wp2_with (go_at_call 29; refine (Haw.out _).mono ?_; rintro e w7 ⟨rfl, hb⟩)
          go_ret
          exact ⟨rfl, HB6.out.trans (hb.mono HB6.out.size)⟩

end Go.Proofs.Ytjfhpafaopeogaa
