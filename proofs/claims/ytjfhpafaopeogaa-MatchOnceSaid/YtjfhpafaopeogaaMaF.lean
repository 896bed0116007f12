/-
  What becomes of a reply: Got, of the program, where it ends what stands first (layer 22).
-/
import Derived.Test.YtjfhpafaopeogaaMaD
import Derived.Deep.RegionHeld3
namespace Go.Proofs.Ytjfhpafaopeogaa
open Go.RowKit
set_option linter.unusedVariables false
set_option linter.unusedSimpArgs false

set_option maxRecDepth 100000 in
set_option maxHeartbeats 10000000 in
theorem got_ends (B sb : Nat) (E : Nat → Prop) (x : EnV) (T : List EnV) (most : Nat) (v : Value) (b : BkV) (w : World) (h : QO 126 B w sb E (x :: T) most v) (hB : B ≤ w.heap.size) (ht : takesB x.kind b.kind = true) (hf : failsB x.kind b.kind = false) (he : endsB x.kind b.kind = true) :
    Calls Try.prog 32 #[.pointer (some ⟨sb, 0, none⟩), bkArg b] w (GotR 126 B sb E (x :: T) most v b.kind b.status w) := by
  have hsb := h.blk.lt
  have Hn := Lib.hid (And.intro h.noE (And.intro h.no (fun j hj => (h.own.row j hj).2 : ∀ j, rowOf v = some j → j < w.heap.size)))
  have HX0 := Lib.hid (OpX.start h)
  have hbW : Below w.heap.size w ((w.alloc (.cells (bkCl b) 69)).alloc (.cells resZ 62)) := ((Below.refl _ _).alloc (Nat.le_refl _) _).alloc (by simp) _
  have Hh := Lib.hid (qHead_some B sb E x T most v _ (h.still hbW))
  have Hs := Lib.hid (fun a w1 hl hb => got_start (t := 62) (w := w) (w1 := w1) x a b rfl hl hb)
  have Hg : Hid (gotV (x :: T) b.kind b.status = (⟨!x.hide, x, x :: T.take (ahead notSyn T), [], [], readyV b.kind b.status⟩, 0, T.drop (ahead notSyn T))) := Lib.hid (by simp [gotV, ht, hf, he])
  have Htk := Lib.hid (fun w0 => takes_any x.kind b.kind w0)
  have Hfl := Lib.hid (fun w0 => fails_any x.kind b.kind w0)
  have Hen := Lib.hid (fun w0 => ends_any x.kind b.kind w0)
  rw [ht] at Htk
  rw [hf] at Hfl
  rw [he] at Hen
  have Hsm := Lib.hid (And.intro h.len h.lim)
  clear h hbW ht hf he
  obtain ⟨bk, bs, bt, bn, bv, n, m, oa, oln, oc, ca, cln, cc, ra, rl, rc, fa, fl, fc⟩ := b
  obtain ⟨xk, xh, xf, xd, xg, xb, xc, xr⟩ := x
  unfold bkCl resZ enCl at Hs
  unfold bkCl resZ at Hh
  unfold bkArg
  dsimp only at *
  go_enter Try.func32, Try.ntmps32
  go_wp2_with fail
  refine Hh.out.mono ?_
  rintro e w1 ⟨⟨pg, cg, pb, cb, pc, cc', pr, cr⟩, rfl, hl1, hb1⟩
  obtain ⟨hs2, hb2⟩ := Hs.out _ _ hl1 hb1
  dsimp only at hs2 hb2
  unfold enArg
  dsimp only
  go_upto_region 2 with (fail)
  have hHX := HX0.out.grab (Y := fun j => j = w.heap.size + 1) hb2 Hn.out.2.2 (fun j e => .inr ⟨by omega, by rw [e]; exact hs2.bo.lt⟩)
  have HX2 := Lib.hid hHX
  have Hs2 := Lib.hid hs2
  have hz2 := hs2.be.lt
  have Hlo := Lib.hid hs2.lo
  clear hl1 hb1 Hh Hs hHX hb2 HX0
  generalize w1.alloc (.cells #[.int .i64 xk, .bool xh, .string xf, .string xd, .slice pg xg.length cg, .slice pb xb.length cb, .slice pc xc.length cc', .slice pr xr.length cr] 52) = w2 at *
  generalize w1.heap.size = ge at *
  have he2 := hs2.be.cell
  have hk2 := hs2.bb.cell
  unfold enCl at he2
  unfold bkCl at hk2
  dsimp only at he2 hk2
  clear hs2
  go_upto_region 4 with (go_at_call 70; refine (Htk.out _).mono ?_; rintro e w3 ⟨rfl, hb3⟩; have hz3 := hb3.size; have HX3 := Lib.hid (HX2.out.still hb3 Hn.out.2.2); have hs3 := Hs2.out.below hb3; have Hs3 := Lib.hid hs3; have he3 := hs3.be.cell; unfold enCl at he3; dsimp only at he3; clear he2 hk2 hb3 Hs2 HX2 hs3)
  go_upto_region 5 with (fail)
  have hal3 : Below w3.heap.size w3 (w3.alloc (.cells #[.bool (!xh), .int .i64 xk, .bool xh, .string xf, .string xd, .slice pg xg.length cg, .slice pb xb.length cb, .slice pc xc.length cc', .slice pr xr.length cr, .slice none 0 0, .slice none 0 0, .slice none 0 0, .int .u8 0] 62)) := (Below.refl _ _).alloc (Nat.le_refl _) _
  have hr4 : Blk (w3.alloc (.cells #[.bool (!xh), .int .i64 xk, .bool xh, .string xf, .string xd, .slice pg xg.length cg, .slice pb xb.length cb, .slice pc xc.length cc', .slice pr xr.length cr, .slice none 0 0, .slice none 0 0, .slice none 0 0, .int .u8 0] 62)) w3.heap.size 62 #[.bool (!xh), .int .i64 xk, .bool xh, .string xf, .string xd, .slice pg xg.length cg, .slice pb xb.length cb, .slice pc xc.length cc', .slice pr xr.length cr, .slice none 0 0, .slice none 0 0, .slice none 0 0, .int .u8 0] := Blk.new _ _ _
  have HX4 := Lib.hid (HX3.out.grab (Y := fun j => j = w.heap.size + 1 ∨ j = w3.heap.size) hal3 Hn.out.2.2 (fun j e => e.imp id (fun e => ⟨by omega, by rw [e]; exact hr4.lt⟩)))
  have hs4 := Hs3.out.below hal3
  have Hs4 := Lib.hid hs4
  have Hr4 := Lib.hid hr4
  have hk4 := hs4.bb.cell
  unfold bkCl at hk4
  dsimp only at hk4
  clear hal3 hr4 hs4 Hs3 HX3 he3
  generalize w3.alloc (.cells #[.bool (!xh), .int .i64 xk, .bool xh, .string xf, .string xd, .slice pg xg.length cg, .slice pb xb.length cb, .slice pc xc.length cc', .slice pr xr.length cr, .slice none 0 0, .slice none 0 0, .slice none 0 0, .int .u8 0] 62) = w4 at *
  have hgr : ge < w3.heap.size := by omega
  generalize w3.heap.size = gr at *
  by_cases hz : bk = 90
  · subst hz
    go_upto_region 6 with (fail)
    have hr4 := Hr4.out.cell
    have hf4 := Hr4.out.frozen
    have hT5 : Touch (fun i => i = gr) w4 (w4.setCell ⟨gr, 12, none⟩ (.int .u8 bs)) := (Touch.refl (fun i => i = gr) w4).setCell (x := ⟨gr, 12, none⟩) (fun _ => rfl) _
    have hr5 := Hr4.out.set_ 12 (.int .u8 bs)
    simp only [List.setIfInBounds_toArray, List.set_cons_succ, List.set_cons_zero] at hr5
    have Hr5 := Lib.hid hr5
    have HX5 := Lib.hid (HX4.out.pass (hT5.mono (fun k _ e => .inr e)) hsb)
    have Hs5 := Lib.hid (Hs4.out.touch hT5 (fun i _ _ e => by omega))
    clear hT5 hr5 Hs4 HX4 Hr4
    go_upto_region 7 with (fail)
    generalize w4.setCell ⟨gr, 12, none⟩ (.int .u8 bs) = w5 at *
    clear hr4 hf4 hk4
    have hs5 := Hs5.out
    have he5 := hs5.be.cell
    have hk5 := hs5.bb.cell
    unfold enCl at he5
    unfold bkCl at hk5
    dsimp only at he5 hk5
    have hge5 := hs5.be.lt
    have hgb5 := hs5.bb.lt
    clear hs5
    go_upto_region 7 with (fail)
    go_region_held3 (fun w' => (∀ i, w'.cell? ⟨ge, i, none⟩ = (#[.int .i64 xk, .bool xh, .string xf, .string xd, .slice pg xg.length cg, .slice pb xb.length cb, .slice pc xc.length cc', .slice pr xr.length cr] : Array Value)[i]?) ∧ (∀ i, w'.cell? ⟨w.heap.size, i, none⟩ = (#[.int .u8 90, .int .u8 bs, .string bt, .string bn, .string bv, .int .i64 n, .int .i64 m, .slice oa oln oc, .slice ca cln cc, .slice ra rl rc, .slice fa fl fc] : Array Value)[i]?) ∧ Below w5.heap.size w5 w')
      (first | exact ⟨he5, hk5, (Below.refl _ _).drew⟩ | exact ⟨fun i => (hb7.cell (p := ⟨ge, i, none⟩) (by have := hS.2.2.size; show ge < _; omega)).trans (hS.1 i), fun i => (hb7.cell (p := ⟨w.heap.size, i, none⟩) (by have := hS.2.2.size; show w.heap.size < _; omega)).trans (hS.2.1 i), hS.2.2.trans (hb7.mono (by have := hS.2.2.size; omega))⟩ | go_keep)
      (first
        | (go_at_call 71; have hS := ‹_ ∧ _ ∧ Below w5.heap.size w5 _›; refine (Hen.out _).mono ?_; rintro e w7 ⟨rfl, hb7⟩)
        | (go_at_call 72; have hS := ‹_ ∧ _ ∧ Below w5.heap.size w5 _›; refine (Hfl.out _).mono ?_; rintro e w7 ⟨rfl, hb7⟩))
    have hb5 : Below w5.heap.size w5 w7 := And.right (And.right ‹_ ∧ _ ∧ Below w5.heap.size w5 _›)
    have HX7 := Lib.hid (HX5.out.still hb5 Hn.out.2.2)
    have Hs7 := Lib.hid (Hs5.out.below hb5)
    have Hr7 := Lib.hid (Hr5.out.below hb5 Hr5.out.lt)
    have hz7 := HX7.out.size
    have hlo := Hlo.out
    clear he5 hk5 hb5 HX5 Hs5 Hr5 hge5 hgb5
    have Hp : Hid (Calls Try.prog 73 #[.pointer (some ⟨sb, 0, none⟩)] w7 fun e w' => (∃ z, e = .returned z) ∧ OpX 126 B sb E T most v w (fun j => j = w.heap.size + 1 ∨ j = gr) w' ∧ Touch (fun i => i = sb) w7 w') := Lib.hid (by
      obtain ⟨E7, v7, hq7, hE7, hgo7⟩ := HX7.out.open Hn.out.2.2
      refine (qPop_some B sb E7 ⟨xk, xh, xf, xd, xg, xb, xc, xr⟩ T most v7 w7 hq7 (by omega)).mono ?_
      rintro e w8 ⟨a8, v8, rfl, hl8, hq8, hr8, hT8⟩
      exact ⟨⟨_, rfl⟩, hgo7 _ _ ⟨v8, hq8, fun k hk => .inr (hr8 k hk), hT8⟩, hT8⟩)
    go_upto_region 15 with (go_at_call 73; refine Hp.out.mono ?_; rintro e w8 ⟨⟨z8, rfl⟩, hx8, hT8⟩; have HX8 := Lib.hid hx8; have Hs8 := Lib.hid (Hs7.out.touch hT8 (fun i _ _ e => by omega)); have Hr8 := Lib.hid (hT8.blk Hr7.out (by omega)); have hz8 := hT8.size; have he8 := Hs8.out.be.cell; unfold enCl at he8; dsimp only at he8; have hr8 := Hr8.out.cell; have hf8 := Hr8.out.frozen; have hl8 := Hr8.out.lt; clear hx8 hT8)
    go_upto_region 16 with (fail)
    have hT9 : Touch (fun i => i = gr) w8 (w8.setCell ⟨gr, 9, none⟩ (.slice (some ⟨w8.heap.size, 0, none⟩) 1 1)) := (Touch.refl (fun i => i = gr) _).setCell (x := ⟨gr, 9, none⟩) (fun _ => rfl) _
    have hr9 := Hr8.out.set_ 9 (.slice (some ⟨w8.heap.size, 0, none⟩) 1 1)
    simp only [List.setIfInBounds_toArray, List.set_cons_succ, List.set_cons_zero] at hr9
    have Hr9 := Lib.hid hr9
    have HX9 := Lib.hid (HX8.out.pass (hT9.mono (fun k _ e => .inr e)) hsb)
    have Hs9 := Lib.hid (Hs8.out.touch hT9 (fun i _ _ e => by omega))
    have hz9 : (w8.setCell ⟨gr, 9, none⟩ (.slice (some ⟨w8.heap.size, 0, none⟩) 1 1)).heap.size = w8.heap.size := size_set _ _ _
    clear hr8 hf8 hT9 hr9 he8 HX8 Hr8 Hs8
    generalize w8.setCell ⟨gr, 9, none⟩ (.slice (some ⟨w8.heap.size, 0, none⟩) 1 1) = w9 at *
    have hz9' := hz9.symm
    rw [hz9'] at Hr9 ⊢
    clear hz9'
    have hal9 : Below w9.heap.size w9 (w9.alloc (.cells #[.int .i64 xk, .bool xh, .string xf, .string xd, .slice pg xg.length cg, .slice pb xb.length cb, .slice pc xc.length cc', .slice pr xr.length cr] 52)) := (Below.refl _ _).alloc (Nat.le_refl _) _
    have Hr10 := Lib.hid (Hr9.out.below hal9 Hr9.out.lt)
    have HX10 := Lib.hid (HX9.out.grab (Y := fun j => (j = w.heap.size + 1 ∨ j = gr) ∨ j = w9.heap.size) hal9 Hn.out.2.2 (fun j e => e.imp id (fun e => ⟨by omega, by rw [e]; simp⟩)))
    have Hs10 := Lib.hid (Hs9.out.below hal9)
    have Ho10 : Hid (OwnEn w.heap.size (fun j => (w.heap.size + 2 ≤ j ∧ j < ge) ∨ w9.heap.size < j) (w9.alloc (.cells #[.int .i64 xk, .bool xh, .string xf, .string xd, .slice pg xg.length cg, .slice pb xb.length cb, .slice pc xc.length cc', .slice pr xr.length cr] 52)) (.slice (some ⟨w9.heap.size, 0, none⟩) 1 1) [⟨xk, xh, xf, xd, xg, xb, xc, xr⟩]) := Lib.hid
        ⟨[enCells ⟨xk, xh, xf, xd, xg, xb, xc, xr⟩ ⟨pg, cg, pb, cb, pc, cc', pr, cr⟩], by simpa [enCells] using OwnR.new w.heap.size 52 8 w9 1 #[.int .i64 xk, .bool xh, .string xf, .string xd, .slice pg xg.length cg, .slice pb xb.length cb, .slice pc xc.length cc', .slice pr xr.length cr] (by omega) (by simp [maxLen]) rfl (by omega),
          ⟨⟨rfl, ⟨pg, cg, pb, cb, pc, cc', pr, cr⟩, rfl, (Hs9.out.l.keep (Kept.all hal9)).keep (Kept.mono _ (fun k _ hk => ⟨.inl hk, by rw [rowOf_pos (by omega)]; intro e; cases e; omega⟩))⟩, trivial⟩⟩
    have hz10 : (w9.alloc (.cells #[.int .i64 xk, .bool xh, .string xf, .string xd, .slice pg xg.length cg, .slice pb xb.length cb, .slice pc xc.length cc', .slice pr xr.length cr] 52)).heap.size = w9.heap.size + 1 := by simp
    clear hal9 Hr9 HX9 Hs9
    generalize w9.alloc (.cells #[.int .i64 xk, .bool xh, .string xf, .string xd, .slice pg xg.length cg, .slice pb xb.length cb, .slice pc xc.length cc', .slice pr xr.length cr] 52) = w10 at *
    generalize w9.heap.size = g9 at *
    have hg9 : gr < g9 := by omega
    have hz10' : g9 < w10.heap.size := by omega
    clear hz9 hl8 hz8 hz10
    have hbd : Below w10.heap.size w10 w10.drew := below_dropN (Below.refl _ _) (Nat.le_refl _)
    have HX10d := Lib.hid (HX10.out.still hbd Hn.out.2.2)
    have HFl : Hid (Calls Try.prog 39 #[.pointer (some ⟨sb, 0, none⟩)] w10.drew fun e w' => ∃ vo, e = .returned vo ∧ OwnEn w10.heap.size (fun k => w10.heap.size ≤ k) w' vo (T.take (ahead notSyn T)) ∧ OpX 126 B sb E (T.drop (ahead notSyn T)) most v w (fun j => (j = w.heap.size + 1 ∨ j = gr) ∨ j = g9) w' ∧ Touch (fun i => i = sb) w10.drew w') := Lib.hid (by
      obtain ⟨E7, v7, hq7, hE7, hgo7⟩ := HX10d.out.open Hn.out.2.2
      refine (flush_any B sb E7 T most v7 w10.drew hq7 (by show B ≤ w10.heap.size; omega)).mono ?_
      rintro e wF ⟨vo, rfl, ho8, v8, hq8, hr8, hT8⟩
      exact ⟨vo, rfl, ho8, hgo7 _ _ ⟨v8, hq8, hr8, hT8⟩, hT8⟩)
    have hr10 := Hr10.out.cell
    have hf10 := Hr10.out.frozen
    have Hbd := Lib.hid hbd
    have hlt10 := Hr10.out.lt
    have hat := ahead_le notSyn T
    have hTl : T.length ≤ 4096 := by have := Hsm.out.1; have := Hsm.out.2; simp at *; omega
    have htl : (T.take (ahead notSyn T)).length ≤ 4096 := by rw [List.length_take]; omega
    clear hbd HX10 hat
    generalize T.take (ahead notSyn T) = F at *
    obtain ⟨N, hN⟩ : ∃ N, (⟨xk, xh, xf, xd, xg, xb, xc, xr⟩ :: F).length = N := ⟨_, rfl⟩
    have HN := Lib.hid hN
    clear hN
    go_region_law (first
      | (refine rgn_appendEn rfl (.tmp 70) (.tmp 72) rfl w.heap.size (fun j => (w.heap.size + 2 ≤ j ∧ j < ge) ∨ g9 < j) (.slice (some ⟨g9, 0, none⟩) 1 1) [⟨xk, xh, xf, xd, xg, xb, xc, xr⟩] rfl HO11.out p11 F.length c11 F rfl HS11.out (by simp; omega) (by omega) ?_; intro v12 w12 ho12 hg12 hn12; have hT12 := Touch.of_row hg12; rw [rowOf_pos (by omega)] at hT12; have hz12 := hT12.size; simp only [List.cons_append, List.nil_append] at ho12; have HO12 := Lib.hid ho12; obtain ⟨p12, c12, hv12, _⟩ := ho12.slice EnS.still (S' := fun _ => True) (fun _ _ _ => trivial) (fun _ _ => trivial); rw [HN.out] at hv12; subst hv12; have HX12 := Lib.hid (HX11.out.pass (hT12.mono (fun k _ e => .inr (by cases e; rfl))) hsb); have hnr : ¬ (some gr = some g9) := (by intro e; cases e; omega); have Hr12 := Lib.hid (hT12.blk Hr11.out hnr); have Hs12 := Lib.hid (Hs11.out.touch hT12 (fun i _ _ e => by cases e; omega)); have hr12 := Hr12.out.cell; have hf12 := Hr12.out.frozen; have Hg12 := Lib.hid hn12; clear ho12 hg12 hn12 hT12)
      | (refine rgn_call rfl 39 _ _ HFl.out (by go_simp) ?_; rintro e w11 ⟨v11, rfl, ho11, hx11, hT11⟩; refine ⟨_, rfl, ?_⟩; have hz11 : w10.heap.size ≤ w11.heap.size := hT11.size; have HX11 := Lib.hid hx11; have Hr11 := Lib.hid (hT11.blk (Hr10.out.below Hbd.out Hr10.out.lt) (by omega)); have Hs11 := Lib.hid ((Hs10.out.below Hbd.out).touch hT11 (fun i _ _ e => by omega)); have HO11 : Hid (OwnEn w.heap.size (fun j => (w.heap.size + 2 ≤ j ∧ j < ge) ∨ g9 < j) w11 (.slice (some ⟨g9, 0, none⟩) 1 1) [⟨xk, xh, xf, xd, xg, xb, xc, xr⟩]) := Lib.hid ((Ho10.out.below' EnS.still Hbd.out).touch EnS.still hT11 (fun k hk e => by rw [rowOf_pos (by omega)] at hk; cases hk; omega) (fun k _ hk _ => ⟨hk, fun e => by omega⟩)); have hrw11 := ho11.row; obtain ⟨p11, c11, hv11, hs11⟩ := ho11.slice EnS.still (S' := fun k => ((w.heap.size + 2 ≤ k ∧ k < ge) ∨ g9 < k) ∧ rowOf (.slice (some ⟨g9, 0, none⟩) 1 1) ≠ some k) (fun k _ hk => ⟨.inr (by omega), by rw [rowOf_pos (by omega)]; intro e; cases e; omega⟩) (fun k hk => by have := (hrw11 k hk).1; exact ⟨.inr (by omega), by rw [rowOf_pos (by omega)]; intro e; cases e; omega⟩); subst hv11; have HS11 := Lib.hid hs11; have hr11 := Hr11.out.cell; have hf11 := Hr11.out.frozen; clear ho11 hx11 hT11 hrw11 hs11))
    all_goals
      have hT13 : Touch (fun i => i = gr) w12 (w12.setCell ⟨gr, 9, none⟩ (.slice p12 N c12)) := (Touch.refl (fun i => i = gr) _).setCell (x := ⟨gr, 9, none⟩) (fun _ => rfl) _
      have hr13 := Hr12.out.set_ 9 (.slice p12 N c12)
      simp only [List.setIfInBounds_toArray, List.set_cons_succ, List.set_cons_zero] at hr13
      have HX13 := Lib.hid (HX12.out.pass (hT13.mono (fun k _ e => .inl (.inr e))) hsb)
      have Hs13 := Lib.hid (Hs12.out.touch hT13 (fun i _ _ e => by omega))
      have HO13 := Lib.hid (OwnS.touch (S' := fun j => (w.heap.size + 2 ≤ j ∧ j < ge) ∨ g9 < j) EnS.still HO12.out hT13 (fun k hk e => by
        rcases Hg12.out k hk with e' | e'
        · rw [rowOf_pos (by omega)] at e'; cases e'; omega
        · omega) (fun k _ hk _ => ⟨hk, fun e => by omega⟩))
      clear hT13 HO12 Hs12 HX12 Hr12 HO11 HS11 HX11 Hr11 Hs11 hr11 hf11 hr12 hf12 hr10 hf10 Hr10 Hs10 Ho10 HX10d HFl
      generalize w12.setCell ⟨gr, 9, none⟩ (.slice p12 N c12) = w13 at *
      have hc13 := hr13.cell
      have hb13 := Hs13.out.bo.cell
      have hf13 := Hs13.out.bo.frozen
      unfold resZ at hb13
      have hN := HN.out
      have hend := got_put (G := fun j => gG E v sb w j ∧ j ≠ w.heap.size + 1) ⟨!xh, ⟨xk, xh, xf, xd, xg, xb, xc, xr⟩, ⟨xk, xh, xf, xd, xg, xb, xc, xr⟩ :: F, [], [], bs⟩ ⟨⟨pg, cg, pb, cb, pc, cc', pr, cr⟩, p12, c12, none, 0, none, 0⟩ Hs13.out HX13.out (.inl (.inl rfl))
        ⟨Hs13.out.l.keep (Kept.mono (S' := fun j => gG E v sb w j ∧ j ≠ w.heap.size + 1) _ (fun k _ hk => ⟨⟨.inr (.inr (by omega)), by omega⟩, by omega⟩)),
          (by
            dsimp only
            rw [hN]
            obtain ⟨pz, cz, ez, hz⟩ := HO13.out.slice EnS.still (S' := fun j => gG E v sb w j ∧ j ≠ w.heap.size + 1) (fun k _ hk => ⟨⟨.inr (.inr (by omega)), by omega⟩, by omega⟩) (fun k hk => by
              rcases Hg12.out k hk with e' | e'
              · rw [rowOf_pos (by omega)] at e'; cases e'; exact ⟨⟨.inr (.inr (by omega)), by omega⟩, by omega⟩
              · exact ⟨⟨.inr (.inr (by omega)), by omega⟩, by omega⟩)
            rw [ez]
            exact hz), SliceS.empty _ _ (by simp [maxLen]), SliceS.empty _ _ (by simp [maxLen])⟩ (fun _ _ e => e) hsb Hn.out.1 Hn.out.2.1
      clear hN
      go_wp2_with fail
      have hN := HN.out
      obtain ⟨hK, hM, hC⟩ := hend
      have hcf := hC.cell
      unfold setRes resCells at hcf
      unfold setRes at hK hM
      (try dsimp only [List.length_nil] at hK)
      (try dsimp only [List.length_nil] at hM)
      (try dsimp only [List.length_nil] at hcf)
      rw [hN] at hK hM hcf
      have HK := Lib.hid hK
      have HM := Lib.hid hM
      clear hK hM hC hc13 hb13 hf13 hr13 hN
      refine bodyPost_ret (v := .tuple #[.agg #[.bool (!xh), .int .i64 xk, .bool xh, .string xf, .string xd, .slice pg xg.length cg, .slice pb xb.length cb, .slice pc xc.length cc', .slice pr xr.length cr, .slice p12 N c12, .slice none 0 0, .slice none 0 0, .int .u8 bs], .int .i64 0]) (by simp [results, Try.results32, go_sem, hcf]) rfl ?_
      unfold GotR
      (try dsimp only)
      rw [Hg.out, show readyV 90 bs = bs from (by simp [readyV])]
      exact ⟨⟨⟨pg, cg, pb, cb, pc, cc', pr, cr⟩, p12, c12, none, 0, none, 0⟩, by
        have hN := HN.out
        dsimp only [resArg, resCells]
        rw [hN]
        rfl, HK.out, HM.out⟩

  · have Hz := Lib.hid hz
    have hz' : (bk == 90) = false := by simpa using hz
    clear hz
    have Hr5 := Hr4
    have HX5 := HX4
    have Hs5 := Hs4
    clear Hs4 HX4 Hr4
    obtain ⟨w5, rfl⟩ : ∃ w5, w5 = w4 := ⟨_, rfl⟩
    go_upto_region 7 with (fail)
    clear hk4
    have hs5 := Hs5.out
    have he5 := hs5.be.cell
    have hk5 := hs5.bb.cell
    unfold enCl at he5
    unfold bkCl at hk5
    dsimp only at he5 hk5
    have hge5 := hs5.be.lt
    have hgb5 := hs5.bb.lt
    clear hs5
    go_upto_region 7 with (fail)
    go_region_held3 (fun w' => (∀ i, w'.cell? ⟨ge, i, none⟩ = (#[.int .i64 xk, .bool xh, .string xf, .string xd, .slice pg xg.length cg, .slice pb xb.length cb, .slice pc xc.length cc', .slice pr xr.length cr] : Array Value)[i]?) ∧ (∀ i, w'.cell? ⟨w.heap.size, i, none⟩ = (#[.int .u8 bk, .int .u8 bs, .string bt, .string bn, .string bv, .int .i64 n, .int .i64 m, .slice oa oln oc, .slice ca cln cc, .slice ra rl rc, .slice fa fl fc] : Array Value)[i]?) ∧ Below w5.heap.size w5 w')
      (first | exact ⟨he5, hk5, (Below.refl _ _).drew⟩ | exact ⟨fun i => (hb7.cell (p := ⟨ge, i, none⟩) (by have := hS.2.2.size; show ge < _; omega)).trans (hS.1 i), fun i => (hb7.cell (p := ⟨w.heap.size, i, none⟩) (by have := hS.2.2.size; show w.heap.size < _; omega)).trans (hS.2.1 i), hS.2.2.trans (hb7.mono (by have := hS.2.2.size; omega))⟩ | go_keep)
      (first
        | (go_at_call 71; have hS := ‹_ ∧ _ ∧ Below w5.heap.size w5 _›; refine (Hen.out _).mono ?_; rintro e w7 ⟨rfl, hb7⟩)
        | (go_at_call 72; have hS := ‹_ ∧ _ ∧ Below w5.heap.size w5 _›; refine (Hfl.out _).mono ?_; rintro e w7 ⟨rfl, hb7⟩))
    have hb5 : Below w5.heap.size w5 w7 := And.right (And.right ‹_ ∧ _ ∧ Below w5.heap.size w5 _›)
    have HX7 := Lib.hid (HX5.out.still hb5 Hn.out.2.2)
    have Hs7 := Lib.hid (Hs5.out.below hb5)
    have Hr7 := Lib.hid (Hr5.out.below hb5 Hr5.out.lt)
    have hz7 := HX7.out.size
    have hlo := Hlo.out
    clear he5 hk5 hb5 HX5 Hs5 Hr5 hge5 hgb5
    have Hp : Hid (Calls Try.prog 73 #[.pointer (some ⟨sb, 0, none⟩)] w7 fun e w' => (∃ z, e = .returned z) ∧ OpX 126 B sb E T most v w (fun j => j = w.heap.size + 1 ∨ j = gr) w' ∧ Touch (fun i => i = sb) w7 w') := Lib.hid (by
      obtain ⟨E7, v7, hq7, hE7, hgo7⟩ := HX7.out.open Hn.out.2.2
      refine (qPop_some B sb E7 ⟨xk, xh, xf, xd, xg, xb, xc, xr⟩ T most v7 w7 hq7 (by omega)).mono ?_
      rintro e w8 ⟨a8, v8, rfl, hl8, hq8, hr8, hT8⟩
      exact ⟨⟨_, rfl⟩, hgo7 _ _ ⟨v8, hq8, fun k hk => .inr (hr8 k hk), hT8⟩, hT8⟩)
    go_upto_region 15 with (go_at_call 73; refine Hp.out.mono ?_; rintro e w8 ⟨⟨z8, rfl⟩, hx8, hT8⟩; have HX8 := Lib.hid hx8; have Hs8 := Lib.hid (Hs7.out.touch hT8 (fun i _ _ e => by omega)); have Hr8 := Lib.hid (hT8.blk Hr7.out (by omega)); have hz8 := hT8.size; have he8 := Hs8.out.be.cell; unfold enCl at he8; dsimp only at he8; have hr8 := Hr8.out.cell; have hf8 := Hr8.out.frozen; have hl8 := Hr8.out.lt; clear hx8 hT8)
    go_upto_region 16 with (fail)
    have hT9 : Touch (fun i => i = gr) w8 (w8.setCell ⟨gr, 9, none⟩ (.slice (some ⟨w8.heap.size, 0, none⟩) 1 1)) := (Touch.refl (fun i => i = gr) _).setCell (x := ⟨gr, 9, none⟩) (fun _ => rfl) _
    have hr9 := Hr8.out.set_ 9 (.slice (some ⟨w8.heap.size, 0, none⟩) 1 1)
    simp only [List.setIfInBounds_toArray, List.set_cons_succ, List.set_cons_zero] at hr9
    have Hr9 := Lib.hid hr9
    have HX9 := Lib.hid (HX8.out.pass (hT9.mono (fun k _ e => .inr e)) hsb)
    have Hs9 := Lib.hid (Hs8.out.touch hT9 (fun i _ _ e => by omega))
    have hz9 : (w8.setCell ⟨gr, 9, none⟩ (.slice (some ⟨w8.heap.size, 0, none⟩) 1 1)).heap.size = w8.heap.size := size_set _ _ _
    clear hr8 hf8 hT9 hr9 he8 HX8 Hr8 Hs8
    generalize w8.setCell ⟨gr, 9, none⟩ (.slice (some ⟨w8.heap.size, 0, none⟩) 1 1) = w9 at *
    have hz9' := hz9.symm
    rw [hz9'] at Hr9 ⊢
    clear hz9'
    have hal9 : Below w9.heap.size w9 (w9.alloc (.cells #[.int .i64 xk, .bool xh, .string xf, .string xd, .slice pg xg.length cg, .slice pb xb.length cb, .slice pc xc.length cc', .slice pr xr.length cr] 52)) := (Below.refl _ _).alloc (Nat.le_refl _) _
    have Hr10 := Lib.hid (Hr9.out.below hal9 Hr9.out.lt)
    have HX10 := Lib.hid (HX9.out.grab (Y := fun j => (j = w.heap.size + 1 ∨ j = gr) ∨ j = w9.heap.size) hal9 Hn.out.2.2 (fun j e => e.imp id (fun e => ⟨by omega, by rw [e]; simp⟩)))
    have Hs10 := Lib.hid (Hs9.out.below hal9)
    have Ho10 : Hid (OwnEn w.heap.size (fun j => (w.heap.size + 2 ≤ j ∧ j < ge) ∨ w9.heap.size < j) (w9.alloc (.cells #[.int .i64 xk, .bool xh, .string xf, .string xd, .slice pg xg.length cg, .slice pb xb.length cb, .slice pc xc.length cc', .slice pr xr.length cr] 52)) (.slice (some ⟨w9.heap.size, 0, none⟩) 1 1) [⟨xk, xh, xf, xd, xg, xb, xc, xr⟩]) := Lib.hid
        ⟨[enCells ⟨xk, xh, xf, xd, xg, xb, xc, xr⟩ ⟨pg, cg, pb, cb, pc, cc', pr, cr⟩], by simpa [enCells] using OwnR.new w.heap.size 52 8 w9 1 #[.int .i64 xk, .bool xh, .string xf, .string xd, .slice pg xg.length cg, .slice pb xb.length cb, .slice pc xc.length cc', .slice pr xr.length cr] (by omega) (by simp [maxLen]) rfl (by omega),
          ⟨⟨rfl, ⟨pg, cg, pb, cb, pc, cc', pr, cr⟩, rfl, (Hs9.out.l.keep (Kept.all hal9)).keep (Kept.mono _ (fun k _ hk => ⟨.inl hk, by rw [rowOf_pos (by omega)]; intro e; cases e; omega⟩))⟩, trivial⟩⟩
    have hz10 : (w9.alloc (.cells #[.int .i64 xk, .bool xh, .string xf, .string xd, .slice pg xg.length cg, .slice pb xb.length cb, .slice pc xc.length cc', .slice pr xr.length cr] 52)).heap.size = w9.heap.size + 1 := by simp
    clear hal9 Hr9 HX9 Hs9
    generalize w9.alloc (.cells #[.int .i64 xk, .bool xh, .string xf, .string xd, .slice pg xg.length cg, .slice pb xb.length cb, .slice pc xc.length cc', .slice pr xr.length cr] 52) = w10 at *
    generalize w9.heap.size = g9 at *
    have hg9 : gr < g9 := by omega
    have hz10' : g9 < w10.heap.size := by omega
    clear hz9 hl8 hz8 hz10
    have hbd : Below w10.heap.size w10 w10.drew := below_dropN (Below.refl _ _) (Nat.le_refl _)
    have HX10d := Lib.hid (HX10.out.still hbd Hn.out.2.2)
    have HFl : Hid (Calls Try.prog 39 #[.pointer (some ⟨sb, 0, none⟩)] w10.drew fun e w' => ∃ vo, e = .returned vo ∧ OwnEn w10.heap.size (fun k => w10.heap.size ≤ k) w' vo (T.take (ahead notSyn T)) ∧ OpX 126 B sb E (T.drop (ahead notSyn T)) most v w (fun j => (j = w.heap.size + 1 ∨ j = gr) ∨ j = g9) w' ∧ Touch (fun i => i = sb) w10.drew w') := Lib.hid (by
      obtain ⟨E7, v7, hq7, hE7, hgo7⟩ := HX10d.out.open Hn.out.2.2
      refine (flush_any B sb E7 T most v7 w10.drew hq7 (by show B ≤ w10.heap.size; omega)).mono ?_
      rintro e wF ⟨vo, rfl, ho8, v8, hq8, hr8, hT8⟩
      exact ⟨vo, rfl, ho8, hgo7 _ _ ⟨v8, hq8, hr8, hT8⟩, hT8⟩)
    have hr10 := Hr10.out.cell
    have hf10 := Hr10.out.frozen
    have Hbd := Lib.hid hbd
    have hlt10 := Hr10.out.lt
    have hat := ahead_le notSyn T
    have hTl : T.length ≤ 4096 := by have := Hsm.out.1; have := Hsm.out.2; simp at *; omega
    have htl : (T.take (ahead notSyn T)).length ≤ 4096 := by rw [List.length_take]; omega
    clear hbd HX10 hat
    generalize T.take (ahead notSyn T) = F at *
    obtain ⟨N, hN⟩ : ∃ N, (⟨xk, xh, xf, xd, xg, xb, xc, xr⟩ :: F).length = N := ⟨_, rfl⟩
    have HN := Lib.hid hN
    clear hN
    go_region_law (first
      | (refine rgn_appendEn rfl (.tmp 70) (.tmp 72) rfl w.heap.size (fun j => (w.heap.size + 2 ≤ j ∧ j < ge) ∨ g9 < j) (.slice (some ⟨g9, 0, none⟩) 1 1) [⟨xk, xh, xf, xd, xg, xb, xc, xr⟩] rfl HO11.out p11 F.length c11 F rfl HS11.out (by simp; omega) (by omega) ?_; intro v12 w12 ho12 hg12 hn12; have hT12 := Touch.of_row hg12; rw [rowOf_pos (by omega)] at hT12; have hz12 := hT12.size; simp only [List.cons_append, List.nil_append] at ho12; have HO12 := Lib.hid ho12; obtain ⟨p12, c12, hv12, _⟩ := ho12.slice EnS.still (S' := fun _ => True) (fun _ _ _ => trivial) (fun _ _ => trivial); rw [HN.out] at hv12; subst hv12; have HX12 := Lib.hid (HX11.out.pass (hT12.mono (fun k _ e => .inr (by cases e; rfl))) hsb); have hnr : ¬ (some gr = some g9) := (by intro e; cases e; omega); have Hr12 := Lib.hid (hT12.blk Hr11.out hnr); have Hs12 := Lib.hid (Hs11.out.touch hT12 (fun i _ _ e => by cases e; omega)); have hr12 := Hr12.out.cell; have hf12 := Hr12.out.frozen; have Hg12 := Lib.hid hn12; clear ho12 hg12 hn12 hT12)
      | (refine rgn_call rfl 39 _ _ HFl.out (by go_simp) ?_; rintro e w11 ⟨v11, rfl, ho11, hx11, hT11⟩; refine ⟨_, rfl, ?_⟩; have hz11 : w10.heap.size ≤ w11.heap.size := hT11.size; have HX11 := Lib.hid hx11; have Hr11 := Lib.hid (hT11.blk (Hr10.out.below Hbd.out Hr10.out.lt) (by omega)); have Hs11 := Lib.hid ((Hs10.out.below Hbd.out).touch hT11 (fun i _ _ e => by omega)); have HO11 : Hid (OwnEn w.heap.size (fun j => (w.heap.size + 2 ≤ j ∧ j < ge) ∨ g9 < j) w11 (.slice (some ⟨g9, 0, none⟩) 1 1) [⟨xk, xh, xf, xd, xg, xb, xc, xr⟩]) := Lib.hid ((Ho10.out.below' EnS.still Hbd.out).touch EnS.still hT11 (fun k hk e => by rw [rowOf_pos (by omega)] at hk; cases hk; omega) (fun k _ hk _ => ⟨hk, fun e => by omega⟩)); have hrw11 := ho11.row; obtain ⟨p11, c11, hv11, hs11⟩ := ho11.slice EnS.still (S' := fun k => ((w.heap.size + 2 ≤ k ∧ k < ge) ∨ g9 < k) ∧ rowOf (.slice (some ⟨g9, 0, none⟩) 1 1) ≠ some k) (fun k _ hk => ⟨.inr (by omega), by rw [rowOf_pos (by omega)]; intro e; cases e; omega⟩) (fun k hk => by have := (hrw11 k hk).1; exact ⟨.inr (by omega), by rw [rowOf_pos (by omega)]; intro e; cases e; omega⟩); subst hv11; have HS11 := Lib.hid hs11; have hr11 := Hr11.out.cell; have hf11 := Hr11.out.frozen; clear ho11 hx11 hT11 hrw11 hs11))
    all_goals
      have hT13 : Touch (fun i => i = gr) w12 (w12.setCell ⟨gr, 9, none⟩ (.slice p12 N c12)) := (Touch.refl (fun i => i = gr) _).setCell (x := ⟨gr, 9, none⟩) (fun _ => rfl) _
      have hr13 := Hr12.out.set_ 9 (.slice p12 N c12)
      simp only [List.setIfInBounds_toArray, List.set_cons_succ, List.set_cons_zero] at hr13
      have HX13 := Lib.hid (HX12.out.pass (hT13.mono (fun k _ e => .inl (.inr e))) hsb)
      have Hs13 := Lib.hid (Hs12.out.touch hT13 (fun i _ _ e => by omega))
      have HO13 := Lib.hid (OwnS.touch (S' := fun j => (w.heap.size + 2 ≤ j ∧ j < ge) ∨ g9 < j) EnS.still HO12.out hT13 (fun k hk e => by
        rcases Hg12.out k hk with e' | e'
        · rw [rowOf_pos (by omega)] at e'; cases e'; omega
        · omega) (fun k _ hk _ => ⟨hk, fun e => by omega⟩))
      clear hT13 HO12 Hs12 HX12 Hr12 HO11 HS11 HX11 Hr11 Hs11 hr11 hf11 hr12 hf12 hr10 hf10 Hr10 Hs10 Ho10 HX10d HFl
      generalize w12.setCell ⟨gr, 9, none⟩ (.slice p12 N c12) = w13 at *
      have hc13 := hr13.cell
      have hb13 := Hs13.out.bo.cell
      have hf13 := Hs13.out.bo.frozen
      unfold resZ at hb13
      have hN := HN.out
      have hend := got_put (G := fun j => gG E v sb w j ∧ j ≠ w.heap.size + 1) ⟨!xh, ⟨xk, xh, xf, xd, xg, xb, xc, xr⟩, ⟨xk, xh, xf, xd, xg, xb, xc, xr⟩ :: F, [], [], 0⟩ ⟨⟨pg, cg, pb, cb, pc, cc', pr, cr⟩, p12, c12, none, 0, none, 0⟩ Hs13.out HX13.out (.inl (.inl rfl))
        ⟨Hs13.out.l.keep (Kept.mono (S' := fun j => gG E v sb w j ∧ j ≠ w.heap.size + 1) _ (fun k _ hk => ⟨⟨.inr (.inr (by omega)), by omega⟩, by omega⟩)),
          (by
            dsimp only
            rw [hN]
            obtain ⟨pz, cz, ez, hz⟩ := HO13.out.slice EnS.still (S' := fun j => gG E v sb w j ∧ j ≠ w.heap.size + 1) (fun k _ hk => ⟨⟨.inr (.inr (by omega)), by omega⟩, by omega⟩) (fun k hk => by
              rcases Hg12.out k hk with e' | e'
              · rw [rowOf_pos (by omega)] at e'; cases e'; exact ⟨⟨.inr (.inr (by omega)), by omega⟩, by omega⟩
              · exact ⟨⟨.inr (.inr (by omega)), by omega⟩, by omega⟩)
            rw [ez]
            exact hz), SliceS.empty _ _ (by simp [maxLen]), SliceS.empty _ _ (by simp [maxLen])⟩ (fun _ _ e => e) hsb Hn.out.1 Hn.out.2.1
      clear hN
      go_wp2_with fail
      have hN := HN.out
      obtain ⟨hK, hM, hC⟩ := hend
      have hcf := hC.cell
      unfold setRes resCells at hcf
      unfold setRes at hK hM
      (try dsimp only [List.length_nil] at hK)
      (try dsimp only [List.length_nil] at hM)
      (try dsimp only [List.length_nil] at hcf)
      rw [hN] at hK hM hcf
      have HK := Lib.hid hK
      have HM := Lib.hid hM
      clear hK hM hC hc13 hb13 hf13 hr13 hN
      refine bodyPost_ret (v := .tuple #[.agg #[.bool (!xh), .int .i64 xk, .bool xh, .string xf, .string xd, .slice pg xg.length cg, .slice pb xb.length cb, .slice pc xc.length cc', .slice pr xr.length cr, .slice p12 N c12, .slice none 0 0, .slice none 0 0, .int .u8 0], .int .i64 0]) (by simp [results, Try.results32, go_sem, hcf]) rfl ?_
      unfold GotR
      (try dsimp only)
      rw [Hg.out, show readyV bk bs = 0 from (by simp [readyV, Hz.out])]
      exact ⟨⟨⟨pg, cg, pb, cb, pc, cc', pr, cr⟩, p12, c12, none, 0, none, 0⟩, by
        have hN := HN.out
        dsimp only [resArg, resCells]
        rw [hN]
        rfl, HK.out, HM.out⟩

end Go.Proofs.Ytjfhpafaopeogaa
