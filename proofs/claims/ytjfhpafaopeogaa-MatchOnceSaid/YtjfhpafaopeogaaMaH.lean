/-
  What becomes of a reply: Got, of the program, where it fails what stands first (layer 22).
-/
import Derived.Test.YtjfhpafaopeogaaMaD
import Derived.Test.YtjfhpafaopeogaaMaG
import Derived.Deep.RegionHeld3
namespace Go.Proofs.Ytjfhpafaopeogaa
open Go.RowKit
set_option linter.unusedVariables false
set_option linter.unusedSimpArgs false

set_option maxRecDepth 100000 in
set_option maxHeartbeats 10000000 in
theorem got_fails (B sb : Nat) (E : Nat → Prop) (x : EnV) (T : List EnV) (most : Nat) (v : Value) (b : BkV) (w : World) (h : QO 126 B w sb E (x :: T) most v) (hB : B ≤ w.heap.size) (ht : takesB x.kind b.kind = true) (hf : failsB x.kind b.kind = true) (he : endsB x.kind b.kind = false) :
    Calls Try.prog 32 #[.pointer (some ⟨sb, 0, none⟩), bkArg b] w (GotR 126 B sb E (x :: T) most v b.kind b.status w) := by
  have hsb := h.blk.lt
  have Hn := Lib.hid (And.intro h.noE (And.intro h.no (fun j hj => (h.own.row j hj).2 : ∀ j, rowOf v = some j → j < w.heap.size)))
  have HX0 := Lib.hid (OpX.start h)
  have hbW : Below w.heap.size w ((w.alloc (.cells (bkCl b) 69)).alloc (.cells resZ 62)) := ((Below.refl _ _).alloc (Nat.le_refl _) _).alloc (by simp) _
  have Hh := Lib.hid (qHead_some B sb E x T most v _ (h.still hbW))
  have Hs := Lib.hid (fun a w1 hl hb => got_start (t := 62) (w := w) (w1 := w1) x a b rfl hl hb)
  have Hg : Hid (gotV (x :: T) b.kind b.status = (insteadV ⟨!x.hide, x, (T.drop (ahead isSync T)).take (ahead notSyn (T.drop (ahead isSync T))), [x], T.take (ahead isSync T), readyV b.kind b.status⟩ b.kind, 0, (T.drop (ahead isSync T)).drop (ahead notSyn (T.drop (ahead isSync T))))) := Lib.hid (by simp [gotV, ht, hf])
  have h69 := fails_kind hf
  have Htk := Lib.hid (fun w0 => takes_any x.kind b.kind w0)
  have Hfl := Lib.hid (fun w0 => fails_any x.kind b.kind w0)
  have Hen := Lib.hid (fun w0 => ends_any x.kind b.kind w0)
  rw [ht] at Htk
  rw [hf] at Hfl
  rw [he] at Hen
  have Hsm := Lib.hid (And.intro h.len h.lim)
  clear h hbW ht hf he
  obtain ⟨bk, bs, bt, bn, bv, n, m, oa, oln, oc, ca, cln, cc, ra, rl, rc, fa, fl, fc⟩ := b
  obtain ⟨xk, xh, xf, xd, xg, xb, xc, xr⟩ := x
  unfold bkCl resZ enCl at Hs
  unfold bkCl resZ at Hh
  unfold bkArg
  dsimp only at *
  subst h69
  go_enter Try.func32, Try.ntmps32
  go_wp2_with fail
  refine Hh.out.mono ?_
  rintro e w1 ⟨⟨pg, cg, pb, cb, pc, cc', pr, cr⟩, rfl, hl1, hb1⟩
  obtain ⟨hs2, hb2⟩ := Hs.out _ _ hl1 hb1
  dsimp only at hs2 hb2
  unfold enArg
  dsimp only
  go_upto_region 2 with (fail)
  have hHX := HX0.out.grab (Y := fun j => j = w.heap.size + 1) hb2 Hn.out.2.2 (fun j e => .inr ⟨by omega, by rw [e]; exact hs2.bo.lt⟩)
  have HX2 := Lib.hid hHX
  have Hs2 := Lib.hid hs2
  have hz2 := hs2.be.lt
  have Hlo := Lib.hid hs2.lo
  clear hl1 hb1 Hh Hs hHX hb2 HX0
  generalize w1.alloc (.cells #[.int .i64 xk, .bool xh, .string xf, .string xd, .slice pg xg.length cg, .slice pb xb.length cb, .slice pc xc.length cc', .slice pr xr.length cr] 52) = w2 at *
  generalize w1.heap.size = ge at *
  have he2 := hs2.be.cell
  have hk2 := hs2.bb.cell
  unfold enCl at he2
  unfold bkCl at hk2
  dsimp only at he2 hk2
  clear hs2
  go_upto_region 4 with (go_at_call 70; refine (Htk.out _).mono ?_; rintro e w3 ⟨rfl, hb3⟩; have hz3 := hb3.size; have HX3 := Lib.hid (HX2.out.still hb3 Hn.out.2.2); have hs3 := Hs2.out.below hb3; have Hs3 := Lib.hid hs3; have he3 := hs3.be.cell; unfold enCl at he3; dsimp only at he3; clear he2 hk2 hb3 Hs2 HX2 hs3)
  go_upto_region 5 with (fail)
  have hal3 : Below w3.heap.size w3 (w3.alloc (.cells #[.bool (!xh), .int .i64 xk, .bool xh, .string xf, .string xd, .slice pg xg.length cg, .slice pb xb.length cb, .slice pc xc.length cc', .slice pr xr.length cr, .slice none 0 0, .slice none 0 0, .slice none 0 0, .int .u8 0] 62)) := (Below.refl _ _).alloc (Nat.le_refl _) _
  have hr4 : Blk (w3.alloc (.cells #[.bool (!xh), .int .i64 xk, .bool xh, .string xf, .string xd, .slice pg xg.length cg, .slice pb xb.length cb, .slice pc xc.length cc', .slice pr xr.length cr, .slice none 0 0, .slice none 0 0, .slice none 0 0, .int .u8 0] 62)) w3.heap.size 62 #[.bool (!xh), .int .i64 xk, .bool xh, .string xf, .string xd, .slice pg xg.length cg, .slice pb xb.length cb, .slice pc xc.length cc', .slice pr xr.length cr, .slice none 0 0, .slice none 0 0, .slice none 0 0, .int .u8 0] := Blk.new _ _ _
  have HX4 := Lib.hid (HX3.out.grab (Y := fun j => j = w.heap.size + 1 ∨ j = w3.heap.size) hal3 Hn.out.2.2 (fun j e => e.imp id (fun e => ⟨by omega, by rw [e]; exact hr4.lt⟩)))
  have hs4 := Hs3.out.below hal3
  have Hs4 := Lib.hid hs4
  have Hr4 := Lib.hid hr4
  have hk4 := hs4.bb.cell
  unfold bkCl at hk4
  dsimp only at hk4
  clear hal3 hr4 hs4 Hs3 HX3 he3
  generalize w3.alloc (.cells #[.bool (!xh), .int .i64 xk, .bool xh, .string xf, .string xd, .slice pg xg.length cg, .slice pb xb.length cb, .slice pc xc.length cc', .slice pr xr.length cr, .slice none 0 0, .slice none 0 0, .slice none 0 0, .int .u8 0] 62) = w4 at *
  have hgr : ge < w3.heap.size := by omega
  generalize w3.heap.size = gr at *
  have hz' : ((69 : Int) == 90) = false := by decide
  have Hr5 := Hr4
  have HX5 := HX4
  have Hs5 := Hs4
  clear Hs4 HX4 Hr4
  obtain ⟨w5, rfl⟩ : ∃ w5, w5 = w4 := ⟨_, rfl⟩
  go_upto_region 7 with (fail)
  clear hk4
  have hs5 := Hs5.out
  have he5 := hs5.be.cell
  have hk5 := hs5.bb.cell
  unfold enCl at he5
  unfold bkCl at hk5
  dsimp only at he5 hk5
  have hge5 := hs5.be.lt
  have hgb5 := hs5.bb.lt
  clear hs5
  go_upto_region 7 with (fail)
  go_region_held3 (fun w' => (∀ i, w'.cell? ⟨ge, i, none⟩ = (#[.int .i64 xk, .bool xh, .string xf, .string xd, .slice pg xg.length cg, .slice pb xb.length cb, .slice pc xc.length cc', .slice pr xr.length cr] : Array Value)[i]?) ∧ (∀ i, w'.cell? ⟨w.heap.size, i, none⟩ = (#[.int .u8 69, .int .u8 bs, .string bt, .string bn, .string bv, .int .i64 n, .int .i64 m, .slice oa oln oc, .slice ca cln cc, .slice ra rl rc, .slice fa fl fc] : Array Value)[i]?) ∧ Below w5.heap.size w5 w')
    (first | exact ⟨he5, hk5, (Below.refl _ _).drew⟩ | exact ⟨fun i => (hb7.cell (p := ⟨ge, i, none⟩) (by have := hS.2.2.size; show ge < _; omega)).trans (hS.1 i), fun i => (hb7.cell (p := ⟨w.heap.size, i, none⟩) (by have := hS.2.2.size; show w.heap.size < _; omega)).trans (hS.2.1 i), hS.2.2.trans (hb7.mono (by have := hS.2.2.size; omega))⟩ | go_keep)
    (first
      | (go_at_call 71; have hS := ‹_ ∧ _ ∧ Below w5.heap.size w5 _›; refine (Hen.out _).mono ?_; rintro e w7 ⟨rfl, hb7⟩)
      | (go_at_call 72; have hS := ‹_ ∧ _ ∧ Below w5.heap.size w5 _›; refine (Hfl.out _).mono ?_; rintro e w7 ⟨rfl, hb7⟩))
  have hb5 : Below w5.heap.size w5 w7 := And.right (And.right ‹_ ∧ _ ∧ Below w5.heap.size w5 _›)
  have HX7 := Lib.hid (HX5.out.still hb5 Hn.out.2.2)
  have Hs7 := Lib.hid (Hs5.out.below hb5)
  have Hr7 := Lib.hid (Hr5.out.below hb5 Hr5.out.lt)
  have hz7 := HX7.out.size
  have hlo := Hlo.out
  clear he5 hk5 hb5 HX5 Hs5 Hr5 hge5 hgb5
  have Hp : Hid (Calls Try.prog 73 #[.pointer (some ⟨sb, 0, none⟩)] w7 fun e w' => (∃ z, e = .returned z) ∧ OpX 126 B sb E T most v w (fun j => j = w.heap.size + 1 ∨ j = gr) w' ∧ Touch (fun i => i = sb) w7 w') := Lib.hid (by
    obtain ⟨E7, v7, hq7, hE7, hgo7⟩ := HX7.out.open Hn.out.2.2
    refine (qPop_some B sb E7 ⟨xk, xh, xf, xd, xg, xb, xc, xr⟩ T most v7 w7 hq7 (by omega)).mono ?_
    rintro e w8 ⟨a8, v8, rfl, hl8, hq8, hr8, hT8⟩
    exact ⟨⟨_, rfl⟩, hgo7 _ _ ⟨v8, hq8, fun k hk => .inr (hr8 k hk), hT8⟩, hT8⟩)
  go_upto_region 12 with (go_at_call 73; refine Hp.out.mono ?_; rintro e w8 ⟨⟨z8, rfl⟩, hx8, hT8⟩; have HX8 := Lib.hid hx8; have Hs8 := Lib.hid (Hs7.out.touch hT8 (fun i _ _ e => by omega)); have Hr8 := Lib.hid (hT8.blk Hr7.out (by omega)); have hz8 := hT8.size; have he8 := Hs8.out.be.cell; unfold enCl at he8; dsimp only at he8; have hr8 := Hr8.out.cell; have hf8 := Hr8.out.frozen; have hl8 := Hr8.out.lt; clear hx8 hT8)
  go_upto_region 13 with (fail)
  have hT9 : Touch (fun i => i = gr) w8 (w8.setCell ⟨gr, 10, none⟩ (.slice (some ⟨w8.heap.size, 0, none⟩) 1 1)) := (Touch.refl (fun i => i = gr) _).setCell (x := ⟨gr, 10, none⟩) (fun _ => rfl) _
  have hr9 := Hr8.out.set_ 10 (.slice (some ⟨w8.heap.size, 0, none⟩) 1 1)
  simp only [List.setIfInBounds_toArray, List.set_cons_succ, List.set_cons_zero] at hr9
  have Hr9 := Lib.hid hr9
  have HX9 := Lib.hid (HX8.out.pass (hT9.mono (fun k _ e => .inr e)) hsb)
  have Hs9 := Lib.hid (Hs8.out.touch hT9 (fun i _ _ e => by omega))
  have hz9 : (w8.setCell ⟨gr, 10, none⟩ (.slice (some ⟨w8.heap.size, 0, none⟩) 1 1)).heap.size = w8.heap.size := size_set _ _ _
  clear hr8 hf8 hT9 hr9 he8 HX8 Hr8 Hs8
  generalize w8.setCell ⟨gr, 10, none⟩ (.slice (some ⟨w8.heap.size, 0, none⟩) 1 1) = w9 at *
  have hz9' := hz9.symm
  rw [hz9'] at Hr9 ⊢
  clear hz9'
  have hal9 : Below w9.heap.size w9 (w9.alloc (.cells #[.int .i64 xk, .bool xh, .string xf, .string xd, .slice pg xg.length cg, .slice pb xb.length cb, .slice pc xc.length cc', .slice pr xr.length cr] 52)) := (Below.refl _ _).alloc (Nat.le_refl _) _
  have Hr10 := Lib.hid (Hr9.out.below hal9 Hr9.out.lt)
  have HX10 := Lib.hid (HX9.out.still hal9 Hn.out.2.2)
  have Hs10 := Lib.hid (Hs9.out.below hal9)
  obtain ⟨D, hD⟩ : ∃ D : Nat → Prop, D = (fun j => gG E v sb w j ∧ j ≠ w.heap.size + 1 ∧ j ≠ gr) := ⟨_, rfl⟩
  have HD := Lib.hid (show ∀ j, D j ↔ (gG E v sb w j ∧ j ≠ w.heap.size + 1 ∧ j ≠ gr) from fun j => by rw [hD])
  clear hD
  have HDf : Hid (∀ j, w.heap.size + 2 ≤ j → j ≠ gr → D j) := Lib.hid (fun j h1 h2 => (HD.out j).2 ⟨⟨.inr (.inr (by omega)), by omega⟩, by omega, h2⟩)
  have Hfd10 : Hid (SliceS 8 EnS D (w9.alloc (.cells #[.int .i64 xk, .bool xh, .string xf, .string xd, .slice pg xg.length cg, .slice pb xb.length cb, .slice pc xc.length cc', .slice pr xr.length cr] 52)) [.slice (some ⟨w9.heap.size, 0, none⟩) 1 1] [⟨xk, xh, xf, xd, xg, xb, xc, xr⟩]) := Lib.hid
      (SliceS.new1 (S := D) EnS.still w9 52 #[.int .i64 xk, .bool xh, .string xf, .string xd, .slice pg xg.length cg, .slice pb xb.length cb, .slice pc xc.length cc', .slice pr xr.length cr] ⟨xk, xh, xf, xd, xg, xb, xc, xr⟩ ⟨⟨pg, cg, pb, cb, pc, cc', pr, cr⟩, rfl, Hs9.out.l.keep (Kept.mono _ (fun k _ hk => HDf.out k hk.1 (by omega)))⟩ rfl (fun k _ hk => hk) (HDf.out _ (by omega) (by omega)))
  have hz10 : (w9.alloc (.cells #[.int .i64 xk, .bool xh, .string xf, .string xd, .slice pg xg.length cg, .slice pb xb.length cb, .slice pc xc.length cc', .slice pr xr.length cr] 52)).heap.size = w9.heap.size + 1 := by simp
  clear hal9 Hr9 HX9 Hs9
  generalize w9.alloc (.cells #[.int .i64 xk, .bool xh, .string xf, .string xd, .slice pg xg.length cg, .slice pb xb.length cb, .slice pc xc.length cc', .slice pr xr.length cr] 52) = w10 at *
  generalize w9.heap.size = g9 at *
  have hg9 : gr < g9 := by omega
  have hz10' : g9 < w10.heap.size := by omega
  clear hz9 hl8 hz8 hz10
  have Hsk : Hid (Calls Try.prog 74 #[.pointer (some ⟨sb, 0, none⟩)] w10 fun e w' => ∃ p, e = .returned (.slice p (ahead isSync T) (ahead isSync T)) ∧ SliceS 8 EnS D w' [.slice p (ahead isSync T) (ahead isSync T)] (T.take (ahead isSync T)) ∧ OpX 126 B sb E (T.drop (ahead isSync T)) most v w (fun j => j = w.heap.size + 1 ∨ j = gr) w' ∧ Touch (fun i => i = sb) w10 w') := Lib.hid (by
    obtain ⟨E7, v7, hq7, hE7, hgo7⟩ := HX10.out.open Hn.out.2.2
    refine (qSkip_any B sb E7 T most v7 w10 hq7 (by omega)).mono ?_
    rintro e wS ⟨p, v8, rfl, hl8, hq8, hr8, hT8⟩
    refine ⟨p, rfl, hl8.weak EnS.still (fun j _ hj => (HD.out j).2 ⟨⟨(hE7 j hj.1).2.2, hj.2.1⟩, fun e => (hE7 j hj.1).2.1 (.inl e), fun e => (hE7 j hj.1).2.1 (.inr e)⟩), hgo7 _ _ ⟨v8, hq8, fun k hk => .inr (hr8 k hk), hT8⟩, hT8⟩)
  have hkl := ahead_le isSync T
  have hTl : T.length ≤ 4096 := by have := Hsm.out.1; have := Hsm.out.2; simp at *; omega
  have Hkt : Hid ((T.take (ahead isSync T)).length = ahead isSync T) := Lib.hid (by rw [List.length_take]; omega)
  generalize hM : T.drop (ahead isSync T) = M at *
  have hMl : M.length ≤ 4096 := by rw [← hM, List.length_drop]; omega
  generalize hDr : T.take (ahead isSync T) = Dr at *
  generalize ahead isSync T = kk at *
  clear hM hDr hkl
  go_upto_region 14 with (go_at_call 74; refine Hsk.out.mono ?_; rintro e w11 ⟨p11, rfl, hd11, hx11, hT11⟩; have hz11 := hT11.size; have HX11 := Lib.hid hx11; have Hd11 := Lib.hid hd11; have Hs11 := Lib.hid (Hs10.out.touch hT11 (fun i _ _ e => by omega)); have Hr11 := Lib.hid (hT11.blk Hr10.out (by omega)); have Hfd11 := Lib.hid ((SliceS.still EnS.still) _ _ _ _ _ _ Hfd10.out (Kept.touch hT11 (fun k _ hk => ⟨hk, ((HD.out k).1 hk).1.2⟩))); have hr11 := Hr11.out.cell; have hf11 := Hr11.out.frozen; clear hx11 hd11 hT11)
  have hT12 : Touch (fun i => i = gr) w11 (w11.setCell ⟨gr, 11, none⟩ (.slice p11 kk kk)) := (Touch.refl (fun i => i = gr) _).setCell (x := ⟨gr, 11, none⟩) (fun _ => rfl) _
  have hr12 := Hr11.out.set_ 11 (.slice p11 kk kk)
  simp only [List.setIfInBounds_toArray, List.set_cons_succ, List.set_cons_zero] at hr12
  have Hr12 : Hid (Blk (w11.setCell ⟨gr, 11, none⟩ (.slice p11 kk kk)) gr 62 (resCells ⟨!xh, ⟨xk, xh, xf, xd, xg, xb, xc, xr⟩, [], [⟨xk, xh, xf, xd, xg, xb, xc, xr⟩], Dr, 0⟩ ⟨⟨pg, cg, pb, cb, pc, cc', pr, cr⟩, none, 0, some ⟨g9, 0, none⟩, 1, p11, kk⟩)) := Lib.hid (by
    unfold resCells
    dsimp only
    rw [Hkt.out]
    exact hr12)
  have HX12 := Lib.hid (HX11.out.pass (hT12.mono (fun k _ e => .inr e)) hsb)
  have Hs12 := Lib.hid (Hs11.out.touch hT12 (fun i _ _ e => by omega))
  have hKD : ∀ k, k < w11.heap.size → D k → D k ∧ ¬ k = gr := fun k _ hk => ⟨hk, ((HD.out k).1 hk).2.2⟩
  have Hfd12 := Lib.hid ((SliceS.still EnS.still) _ _ _ _ _ _ Hfd11.out (Kept.touch hT12 hKD))
  have Hd12 := Lib.hid ((SliceS.still EnS.still) _ _ _ _ _ _ Hd11.out (Kept.touch hT12 hKD))
  have hz12 : (w11.setCell ⟨gr, 11, none⟩ (.slice p11 kk kk)).heap.size = w11.heap.size := size_set _ _ _
  clear hT12 hr12 hKD hr11 hf11 Hr11 HX11 Hs11 Hfd11 Hd11 Hsk HX10 Hs10 Hr10 Hfd10 Hp
  generalize w11.setCell ⟨gr, 11, none⟩ (.slice p11 kk kk) = w12 at *
  have hz12' : g9 < w12.heap.size := by omega
  clear hz12 hz11
  have Hin := Lib.hid (instead_any gr D ⟨!xh, ⟨xk, xh, xf, xd, xg, xb, xc, xr⟩, [], [⟨xk, xh, xf, xd, xg, xb, xc, xr⟩], Dr, 0⟩ ⟨⟨pg, cg, pb, cb, pc, cc', pr, cr⟩, none, 0, some ⟨g9, 0, none⟩, 1, p11, kk⟩ ⟨69, bs, bt, bn, bv, n, m, oa, oln, oc, ca, cln, cc, ra, rl, rc, fa, fl, fc⟩ w12 Hr12.out (Hs12.out.l.keep (Kept.mono _ (fun k _ hk => HDf.out k hk.1 (by omega)))) (by dsimp only; rw [Hkt.out]; exact Hd12.out) (fun e => ((HD.out gr).1 e).2.2 rfl))
  have hrest := insteadV_rest ⟨!xh, ⟨xk, xh, xf, xd, xg, xb, xc, xr⟩, [], [⟨xk, xh, xf, xd, xg, xb, xc, xr⟩], Dr, 0⟩ 69
  have Hge : Hid (∀ F, insteadV ⟨!xh, ⟨xk, xh, xf, xd, xg, xb, xc, xr⟩, F, [⟨xk, xh, xf, xd, xg, xb, xc, xr⟩], Dr, 0⟩ 69 = ⟨(insteadV ⟨!xh, ⟨xk, xh, xf, xd, xg, xb, xc, xr⟩, [], [⟨xk, xh, xf, xd, xg, xb, xc, xr⟩], Dr, 0⟩ 69).shw, (insteadV ⟨!xh, ⟨xk, xh, xf, xd, xg, xb, xc, xr⟩, [], [⟨xk, xh, xf, xd, xg, xb, xc, xr⟩], Dr, 0⟩ 69).name, F, [⟨xk, xh, xf, xd, xg, xb, xc, xr⟩], Dr, 0⟩) := Lib.hid (fun F => insteadV_ended _ _ F [] _ _ _ _)
  unfold bkArg InsR at Hin
  dsimp only at Hin hrest
  generalize insteadV ⟨!xh, ⟨xk, xh, xf, xd, xg, xb, xc, xr⟩, [], [⟨xk, xh, xf, xd, xg, xb, xc, xr⟩], Dr, 0⟩ 69 = r' at *
  obtain ⟨sh', ⟨yk, yh, yf, yd, yg, yb, yc, yr⟩, en', fd', Dr, rd'⟩ := r'
  obtain ⟨rfl, rfl, rfl, rfl⟩ := hrest
  have hk12 := Hs12.out.bb.cell
  unfold bkCl at hk12
  dsimp only at hk12
  go_upto_region 16 with (go_at_call 75; refine Hin.out.mono ?_; rintro e w13 ⟨⟨z13, rfl⟩, ⟨qg, dg, qb, db, qc, dc, qr, dr⟩, hr13, hl13, hT13⟩; have hz13 := hT13.size; have Hr13 := Lib.hid hr13; have Hl13 := Lib.hid hl13; have HX13 := Lib.hid (HX12.out.pass (hT13.mono (fun k _ e => .inr e)) hsb); have Hs13 := Lib.hid (Hs12.out.touch hT13 (fun i _ _ e => by omega)); have Hfd13 := Lib.hid ((SliceS.still EnS.still) _ _ _ _ _ _ Hfd12.out (Kept.touch hT13 (fun k _ hk => ⟨hk, ((HD.out k).1 hk).2.2⟩))); have Hd13 := Lib.hid ((SliceS.still EnS.still) _ _ _ _ _ _ Hd12.out (Kept.touch hT13 (fun k _ hk => ⟨hk, ((HD.out k).1 hk).2.2⟩))); clear hk12 hr13 hl13 hT13)
  have hr13 : Blk w13 gr 62 #[.bool sh', .int .i64 yk, .bool yh, .string yf, .string yd, .slice qg yg.length dg, .slice qb yb.length db, .slice qc yc.length dc, .slice qr yr.length dr, .slice none 0 0, .slice (some ⟨g9, 0, none⟩) 1 1, .slice p11 kk kk, .int .u8 0] := by
    have h := Hr13.out
    unfold resCells at h
    dsimp only at h
    rw [Hkt.out] at h
    exact h
  have Hr13' := Lib.hid hr13
  clear hr13 Hr13
  have hbd : Below w13.heap.size w13 w13.drew := below_dropN (Below.refl _ _) (Nat.le_refl _)
  have HX13d := Lib.hid (HX13.out.still hbd Hn.out.2.2)
  have HFl : Hid (Calls Try.prog 39 #[.pointer (some ⟨sb, 0, none⟩)] w13.drew fun e w' => ∃ vo, e = .returned vo ∧ OwnEn w13.heap.size (fun k => w13.heap.size ≤ k) w' vo (M.take (ahead notSyn M)) ∧ OpX 126 B sb E (M.drop (ahead notSyn M)) most v w (fun j => j = w.heap.size + 1 ∨ j = gr) w' ∧ Touch (fun i => i = sb) w13.drew w') := Lib.hid (by
    obtain ⟨E7, v7, hq7, hE7, hgo7⟩ := HX13d.out.open Hn.out.2.2
    refine (flush_any B sb E7 M most v7 w13.drew hq7 (by show B ≤ w13.heap.size; omega)).mono ?_
    rintro e wF ⟨vo, rfl, ho8, v8, hq8, hr8, hT8⟩
    exact ⟨vo, rfl, ho8, hgo7 _ _ ⟨v8, hq8, hr8, hT8⟩, hT8⟩)
  have hr13 := Hr13'.out.cell
  have hf13 := Hr13'.out.frozen
  have Hbd := Lib.hid hbd
  have hlt13 := Hr13'.out.lt
  have hat := ahead_le notSyn M
  have htl : (M.take (ahead notSyn M)).length ≤ 4096 := by rw [List.length_take]; omega
  clear hbd HX13 hat
  have hD1 : ∀ k, k < w13.drew.heap.size → D k → D k ∧ ¬ k = sb := fun k _ hk => ⟨hk, ((HD.out k).1 hk).1.2⟩
  have HD1 := Lib.hid hD1
  clear hD1
  generalize M.take (ahead notSyn M) = F at *
  go_region_law (first
    | (refine rgn_appendEn rfl (.tmp 70) (.tmp 72) rfl w.heap.size (fun j => w13.heap.size ≤ j) (.slice none 0 0) [] rfl (OwnS.empty _) p14 F.length c14 F rfl HS14.out (by simp; omega) (by omega) ?_; intro v15 w15 ho15 hg15 hn15; have hb15 := Below.of_row hg15 (Nat.le_refl w14.heap.size) (fun k hk => by simp [rowOf] at hk); have hz15 := hb15.size; simp only [List.nil_append] at ho15; have HO15 := Lib.hid ho15; obtain ⟨p15, c15, hv15, _⟩ := ho15.slice EnS.still (S' := fun _ => True) (fun _ _ _ => trivial) (fun _ _ => trivial); subst hv15; have Hb15 := Lib.hid hb15; have Hr15 := Lib.hid (Hr14.out.below hb15 Hr14.out.lt); have hr15 := Hr15.out.cell; have hf15 := Hr15.out.frozen; have Hg15 := Lib.hid hn15; clear ho15 hg15 hn15 hb15)
    | (refine rgn_call rfl 39 _ _ HFl.out (by go_simp) ?_; rintro e w14 ⟨v14, rfl, ho14, hx14, hT14⟩; refine ⟨_, rfl, ?_⟩; have hz14 : w13.heap.size ≤ w14.heap.size := hT14.size; have HT14 := Lib.hid hT14; have HX14 := Lib.hid hx14; have Hr14 := Lib.hid (hT14.blk (Hr13'.out.below Hbd.out Hr13'.out.lt) (by omega)); have Hs14 := Lib.hid ((Hs13.out.below Hbd.out).touch hT14 (fun i _ _ e => by omega)); have hrw14 := ho14.row; obtain ⟨p14, c14, hv14, hs14⟩ := ho14.slice EnS.still (S' := fun k => w13.heap.size ≤ k ∧ rowOf (.slice none 0 0) ≠ some k) (fun k _ hk => ⟨hk, by simp [rowOf]⟩) (fun k hk => ⟨(hrw14 k hk).1, by simp [rowOf]⟩); subst hv14; have HS14 := Lib.hid hs14; have hr14 := Hr14.out.cell; have hf14 := Hr14.out.frozen; clear ho14 hx14 hT14 hrw14 hs14))
  all_goals
    have hT16 : Touch (fun i => i = gr) w15 (w15.setCell ⟨gr, 9, none⟩ (.slice p15 F.length c15)) := (Touch.refl (fun i => i = gr) _).setCell (x := ⟨gr, 9, none⟩) (fun _ => rfl) _
    have hr16 := Hr15.out.set_ 9 (.slice p15 F.length c15)
    simp only [List.setIfInBounds_toArray, List.set_cons_succ, List.set_cons_zero] at hr16
    have HX16 := Lib.hid ((HX14.out.still Hb15.out Hn.out.2.2).pass (hT16.mono (fun k _ e => .inr e)) hsb)
    have Hs16 := Lib.hid ((Hs14.out.below Hb15.out).touch hT16 (fun i _ _ e => by omega))
    have hKD : ∀ k, k < w15.heap.size → D k → (gG E v sb w k ∧ k ≠ w.heap.size + 1) ∧ ¬ k = gr := fun k _ hk => ⟨⟨((HD.out k).1 hk).1, ((HD.out k).1 hk).2.1⟩, ((HD.out k).1 hk).2.2⟩
    have hnm := (((Hl13.out.keep (Kept.all Hbd.out)).keep (Kept.touch HT14.out HD1.out)).keep (Kept.all Hb15.out)).keep (Kept.touch hT16 hKD)
    have hfd := (SliceS.still EnS.still) _ _ _ _ _ _ ((SliceS.still EnS.still) _ _ _ _ _ _ ((SliceS.still EnS.still) _ _ _ _ _ _ ((SliceS.still EnS.still) _ _ _ _ _ _ Hfd13.out (Kept.all Hbd.out)) (Kept.touch HT14.out HD1.out)) (Kept.all Hb15.out)) (Kept.touch hT16 hKD)
    have hdr := (SliceS.still EnS.still) _ _ _ _ _ _ ((SliceS.still EnS.still) _ _ _ _ _ _ ((SliceS.still EnS.still) _ _ _ _ _ _ ((SliceS.still EnS.still) _ _ _ _ _ _ Hd13.out (Kept.all Hbd.out)) (Kept.touch HT14.out HD1.out)) (Kept.all Hb15.out)) (Kept.touch hT16 hKD)
    have hen : SliceS 8 EnS (fun j => gG E v sb w j ∧ j ≠ w.heap.size + 1) (w15.setCell ⟨gr, 9, none⟩ (.slice p15 F.length c15)) [.slice p15 F.length c15] F := by
      have ho := OwnS.touch (S' := fun j => w13.heap.size ≤ j) EnS.still HO15.out hT16 (fun k hk e => by
        rcases Hg15.out k hk with e' | e'
        · simp [rowOf] at e'
        · omega) (fun k _ hk _ => ⟨hk, fun e => by omega⟩)
      obtain ⟨pz, cz, ez, hz⟩ := ho.slice EnS.still (S' := fun j => gG E v sb w j ∧ j ≠ w.heap.size + 1) (fun k _ hk => ⟨⟨.inr (.inr (by omega)), by omega⟩, by omega⟩) (fun k hk => by
        rcases Hg15.out k hk with e' | e'
        · simp [rowOf] at e'
        · exact ⟨⟨.inr (.inr (by omega)), by omega⟩, by omega⟩)
      rw [← ez] at hz
      exact hz
    have Hl : Hid (ResL (fun j => gG E v sb w j ∧ j ≠ w.heap.size + 1) (w15.setCell ⟨gr, 9, none⟩ (.slice p15 F.length c15)) ⟨sh', ⟨yk, yh, yf, yd, yg, yb, yc, yr⟩, F, [⟨xk, xh, xf, xd, xg, xb, xc, xr⟩], Dr, 0⟩ ⟨⟨qg, dg, qb, db, qc, dc, qr, dr⟩, p15, c15, some ⟨g9, 0, none⟩, 1, p11, kk⟩) := Lib.hid ⟨hnm, hen, hfd, by
      dsimp only
      rw [Hkt.out]
      exact hdr⟩
    clear hT16 hKD hnm hfd hdr hen HO15 Hr15 HX14 Hs14 HS14 Hr14 hr14 hf14 hr15 hf15 hr13 hf13 Hr13' HX13d HFl Hl13 Hfd13 Hd13 Hs13 HT14 Hb15 HD1
    generalize w15.setCell ⟨gr, 9, none⟩ (.slice p15 F.length c15) = w16 at *
    have hc16 := hr16.cell
    have hb16 := Hs16.out.bo.cell
    have hf16 := Hs16.out.bo.frozen
    unfold resZ at hb16
    have hend := got_put (G := fun j => gG E v sb w j ∧ j ≠ w.heap.size + 1) _ _ Hs16.out HX16.out (.inl rfl) Hl.out (fun _ _ e => e) hsb Hn.out.1 Hn.out.2.1
    go_wp2_with fail
    obtain ⟨hK, hM, hC⟩ := hend
    have hcf := hC.cell
    unfold setRes resCells at hcf
    unfold setRes at hK hM
    dsimp only [List.length_cons, List.length_nil, Nat.reduceAdd, Nat.zero_add] at hcf hK hM
    rw [Hkt.out] at hK hM hcf
    have HK := Lib.hid hK
    have HM := Lib.hid hM
    clear hK hM hC hc16 hb16 hf16 hr16
    refine bodyPost_ret (v := .tuple #[.agg #[.bool sh', .int .i64 yk, .bool yh, .string yf, .string yd, .slice qg yg.length dg, .slice qb yb.length db, .slice qc yc.length dc, .slice qr yr.length dr, .slice p15 F.length c15, .slice (some ⟨g9, 0, none⟩) 1 1, .slice p11 kk kk, .int .u8 0], .int .i64 0]) (by simp [results, Try.results32, go_sem, hcf]) rfl ?_
    unfold GotR
    (try dsimp only)
    rw [Hg.out, show readyV 69 bs = 0 from (by simp [readyV])]
    dsimp only
    rw [Hge.out]
    exact ⟨⟨⟨qg, dg, qb, db, qc, dc, qr, dr⟩, p15, c15, some ⟨g9, 0, none⟩, 1, p11, kk⟩, by
      dsimp only [resArg, resCells]
      rw [Hkt.out]
      rfl, HK.out, HM.out⟩

end Go.Proofs.Ytjfhpafaopeogaa
