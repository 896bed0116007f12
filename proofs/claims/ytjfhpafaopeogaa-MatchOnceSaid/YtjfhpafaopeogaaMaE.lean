/-
  What becomes of a reply: Got, of the program, where it is taken and nothing ends (layer 22).
-/
import Derived.Test.YtjfhpafaopeogaaMaD
import Derived.Deep.RegionHeld3
namespace Go.Proofs.Ytjfhpafaopeogaa
open Go.RowKit
set_option linter.unusedVariables false
set_option linter.unusedSimpArgs false

set_option maxRecDepth 100000 in
set_option maxHeartbeats 10000000 in
theorem got_kept (B sb : Nat) (E : Nat → Prop) (x : EnV) (T : List EnV) (most : Nat) (v : Value) (b : BkV) (w : World) (h : QO 126 B w sb E (x :: T) most v) (hB : B ≤ w.heap.size) (ht : takesB x.kind b.kind = true) (hf : failsB x.kind b.kind = false) (he : endsB x.kind b.kind = false) :
    Calls Try.prog 32 #[.pointer (some ⟨sb, 0, none⟩), bkArg b] w (GotR 126 B sb E (x :: T) most v b.kind b.status w) := by
  have hsb := h.blk.lt
  have Hn := Lib.hid (And.intro h.noE (And.intro h.no (fun j hj => (h.own.row j hj).2 : ∀ j, rowOf v = some j → j < w.heap.size)))
  have HX0 := Lib.hid (OpX.start h)
  have hbW : Below w.heap.size w ((w.alloc (.cells (bkCl b) 69)).alloc (.cells resZ 62)) := ((Below.refl _ _).alloc (Nat.le_refl _) _).alloc (by simp) _
  have Hh := Lib.hid (qHead_some B sb E x T most v _ (h.still hbW))
  have Hs := Lib.hid (fun a w1 hl hb => got_start (t := 62) (w := w) (w1 := w1) x a b rfl hl hb)
  have Hg : Hid (gotV (x :: T) b.kind b.status = (⟨!x.hide, x, [], [], [], readyV b.kind b.status⟩, 0, x :: T)) := Lib.hid (by simp [gotV, ht, hf, he])
  have Htk := Lib.hid (fun w0 => takes_any x.kind b.kind w0)
  have Hfl := Lib.hid (fun w0 => fails_any x.kind b.kind w0)
  have Hen := Lib.hid (fun w0 => ends_any x.kind b.kind w0)
  rw [ht] at Htk
  rw [hf] at Hfl
  rw [he] at Hen
  have Hsm := Lib.hid (And.intro h.len h.lim)
  clear h hbW ht hf he
  obtain ⟨bk, bs, bt, bn, bv, n, m, oa, oln, oc, ca, cln, cc, ra, rl, rc, fa, fl, fc⟩ := b
  obtain ⟨xk, xh, xf, xd, xg, xb, xc, xr⟩ := x
  unfold bkCl resZ enCl at Hs
  unfold bkCl resZ at Hh
  unfold bkArg
  dsimp only at *
  go_enter Try.func32, Try.ntmps32
  go_wp2_with fail
  refine Hh.out.mono ?_
  rintro e w1 ⟨⟨pg, cg, pb, cb, pc, cc', pr, cr⟩, rfl, hl1, hb1⟩
  obtain ⟨hs2, hb2⟩ := Hs.out _ _ hl1 hb1
  dsimp only at hs2 hb2
  unfold enArg
  dsimp only
  go_upto_region 2 with (fail)
  have hHX := HX0.out.grab (Y := fun j => j = w.heap.size + 1) hb2 Hn.out.2.2 (fun j e => .inr ⟨by omega, by rw [e]; exact hs2.bo.lt⟩)
  have HX2 := Lib.hid hHX
  have Hs2 := Lib.hid hs2
  have hz2 := hs2.be.lt
  have Hlo := Lib.hid hs2.lo
  clear hl1 hb1 Hh Hs hHX hb2 HX0
  generalize w1.alloc (.cells #[.int .i64 xk, .bool xh, .string xf, .string xd, .slice pg xg.length cg, .slice pb xb.length cb, .slice pc xc.length cc', .slice pr xr.length cr] 52) = w2 at *
  generalize w1.heap.size = ge at *
  have he2 := hs2.be.cell
  have hk2 := hs2.bb.cell
  unfold enCl at he2
  unfold bkCl at hk2
  dsimp only at he2 hk2
  clear hs2
  go_upto_region 4 with (go_at_call 70; refine (Htk.out _).mono ?_; rintro e w3 ⟨rfl, hb3⟩; have hz3 := hb3.size; have HX3 := Lib.hid (HX2.out.still hb3 Hn.out.2.2); have hs3 := Hs2.out.below hb3; have Hs3 := Lib.hid hs3; have he3 := hs3.be.cell; unfold enCl at he3; dsimp only at he3; clear he2 hk2 hb3 Hs2 HX2 hs3)
  go_upto_region 5 with (fail)
  have hal3 : Below w3.heap.size w3 (w3.alloc (.cells #[.bool (!xh), .int .i64 xk, .bool xh, .string xf, .string xd, .slice pg xg.length cg, .slice pb xb.length cb, .slice pc xc.length cc', .slice pr xr.length cr, .slice none 0 0, .slice none 0 0, .slice none 0 0, .int .u8 0] 62)) := (Below.refl _ _).alloc (Nat.le_refl _) _
  have hr4 : Blk (w3.alloc (.cells #[.bool (!xh), .int .i64 xk, .bool xh, .string xf, .string xd, .slice pg xg.length cg, .slice pb xb.length cb, .slice pc xc.length cc', .slice pr xr.length cr, .slice none 0 0, .slice none 0 0, .slice none 0 0, .int .u8 0] 62)) w3.heap.size 62 #[.bool (!xh), .int .i64 xk, .bool xh, .string xf, .string xd, .slice pg xg.length cg, .slice pb xb.length cb, .slice pc xc.length cc', .slice pr xr.length cr, .slice none 0 0, .slice none 0 0, .slice none 0 0, .int .u8 0] := Blk.new _ _ _
  have HX4 := Lib.hid (HX3.out.grab (Y := fun j => j = w.heap.size + 1 ∨ j = w3.heap.size) hal3 Hn.out.2.2 (fun j e => e.imp id (fun e => ⟨by omega, by rw [e]; exact hr4.lt⟩)))
  have hs4 := Hs3.out.below hal3
  have Hs4 := Lib.hid hs4
  have Hr4 := Lib.hid hr4
  have hk4 := hs4.bb.cell
  unfold bkCl at hk4
  dsimp only at hk4
  clear hal3 hr4 hs4 Hs3 HX3 he3
  generalize w3.alloc (.cells #[.bool (!xh), .int .i64 xk, .bool xh, .string xf, .string xd, .slice pg xg.length cg, .slice pb xb.length cb, .slice pc xc.length cc', .slice pr xr.length cr, .slice none 0 0, .slice none 0 0, .slice none 0 0, .int .u8 0] 62) = w4 at *
  have hgr : ge < w3.heap.size := by omega
  generalize w3.heap.size = gr at *
  by_cases hz : bk = 90
  · subst hz
    go_upto_region 6 with (fail)
    have hr4 := Hr4.out.cell
    have hf4 := Hr4.out.frozen
    have hT5 : Touch (fun i => i = gr) w4 (w4.setCell ⟨gr, 12, none⟩ (.int .u8 bs)) := (Touch.refl (fun i => i = gr) w4).setCell (x := ⟨gr, 12, none⟩) (fun _ => rfl) _
    have hr5 := Hr4.out.set_ 12 (.int .u8 bs)
    simp only [List.setIfInBounds_toArray, List.set_cons_succ, List.set_cons_zero] at hr5
    have Hr5 := Lib.hid hr5
    have HX5 := Lib.hid (HX4.out.pass (hT5.mono (fun k _ e => .inr e)) hsb)
    have Hs5 := Lib.hid (Hs4.out.touch hT5 (fun i _ _ e => by omega))
    clear hT5 hr5 Hs4 HX4 Hr4
    go_upto_region 7 with (fail)
    generalize w4.setCell ⟨gr, 12, none⟩ (.int .u8 bs) = w5 at *
    clear hr4 hf4 hk4
    have hs5 := Hs5.out
    have he5 := hs5.be.cell
    have hk5 := hs5.bb.cell
    unfold enCl at he5
    unfold bkCl at hk5
    dsimp only at he5 hk5
    have hge5 := hs5.be.lt
    have hgb5 := hs5.bb.lt
    clear hs5
    go_upto_region 7 with (fail)
    go_region_held3 (fun w' => (∀ i, w'.cell? ⟨ge, i, none⟩ = (#[.int .i64 xk, .bool xh, .string xf, .string xd, .slice pg xg.length cg, .slice pb xb.length cb, .slice pc xc.length cc', .slice pr xr.length cr] : Array Value)[i]?) ∧ (∀ i, w'.cell? ⟨w.heap.size, i, none⟩ = (#[.int .u8 90, .int .u8 bs, .string bt, .string bn, .string bv, .int .i64 n, .int .i64 m, .slice oa oln oc, .slice ca cln cc, .slice ra rl rc, .slice fa fl fc] : Array Value)[i]?) ∧ Below w5.heap.size w5 w')
      (first | exact ⟨he5, hk5, (Below.refl _ _).drew⟩ | exact ⟨fun i => (hb7.cell (p := ⟨ge, i, none⟩) (by have := hS.2.2.size; show ge < _; omega)).trans (hS.1 i), fun i => (hb7.cell (p := ⟨w.heap.size, i, none⟩) (by have := hS.2.2.size; show w.heap.size < _; omega)).trans (hS.2.1 i), hS.2.2.trans (hb7.mono (by have := hS.2.2.size; omega))⟩ | go_keep)
      (first
        | (go_at_call 71; have hS := ‹_ ∧ _ ∧ Below w5.heap.size w5 _›; refine (Hen.out _).mono ?_; rintro e w7 ⟨rfl, hb7⟩)
        | (go_at_call 72; have hS := ‹_ ∧ _ ∧ Below w5.heap.size w5 _›; refine (Hfl.out _).mono ?_; rintro e w7 ⟨rfl, hb7⟩))
    have hb5 : Below w5.heap.size w5 w7 := And.right (And.right ‹_ ∧ _ ∧ Below w5.heap.size w5 _›)
    have HX7 := Lib.hid (HX5.out.still hb5 Hn.out.2.2)
    have Hs7 := Lib.hid (Hs5.out.below hb5)
    have hr7 := (Hr5.out.below hb5 Hr5.out.lt).cell
    have hc7 := Hs7.out.bo.cell
    have hf7 := Hs7.out.bo.frozen
    unfold resZ at hc7
    clear he5 hk5 hb5 HX5 Hs5 Hr5
    have hend := got_put (G := fun j => gG E v sb w j ∧ j ≠ w.heap.size + 1) ⟨!xh, ⟨xk, xh, xf, xd, xg, xb, xc, xr⟩, [], [], [], bs⟩ ⟨⟨pg, cg, pb, cb, pc, cc', pr, cr⟩, none, 0, none, 0, none, 0⟩ Hs7.out HX7.out (.inl rfl) ⟨(Hs7.out.l.keep (Kept.mono (S' := fun j => gG E v sb w j ∧ j ≠ w.heap.size + 1) _ (fun k _ hk => ⟨⟨.inr (.inr (by omega)), by omega⟩, by omega⟩))), SliceS.empty _ _ (by simp [maxLen]), SliceS.empty _ _ (by simp [maxLen]), SliceS.empty _ _ (by simp [maxLen])⟩ (fun _ _ e => e) hsb Hn.out.1 Hn.out.2.1
    go_wp2_with fail
    obtain ⟨hK, hM, hC⟩ := hend
    have hcf := hC.cell
    unfold setRes resCells at hcf
    unfold setRes at hK hM
    (try dsimp only [List.length_nil] at hK)
    (try dsimp only [List.length_nil] at hM)
    (try dsimp only [List.length_nil] at hcf)
    have HK := Lib.hid hK
    have HM := Lib.hid hM
    clear hK hM hC hr7 hc7 hf7
    refine bodyPost_ret (v := .tuple #[.agg #[.bool (!xh), .int .i64 xk, .bool xh, .string xf, .string xd, .slice pg xg.length cg, .slice pb xb.length cb, .slice pc xc.length cc', .slice pr xr.length cr, .slice none 0 0, .slice none 0 0, .slice none 0 0, .int .u8 bs], .int .i64 0]) (by simp [results, Try.results32, go_sem, hcf]) rfl ?_
    unfold GotR
    (try dsimp only)
    rw [Hg.out, show readyV 90 bs = bs from (by simp [readyV])]
    exact ⟨⟨⟨pg, cg, pb, cb, pc, cc', pr, cr⟩, none, 0, none, 0, none, 0⟩, by simp [resArg, resCells], HK.out, HM.out⟩

  · have Hz := Lib.hid hz
    have hz' : (bk == 90) = false := by simpa using hz
    clear hz
    have Hr5 := Hr4
    have HX5 := HX4
    have Hs5 := Hs4
    clear Hs4 HX4 Hr4
    obtain ⟨w5, rfl⟩ : ∃ w5, w5 = w4 := ⟨_, rfl⟩
    go_upto_region 7 with (fail)
    clear hk4
    have hs5 := Hs5.out
    have he5 := hs5.be.cell
    have hk5 := hs5.bb.cell
    unfold enCl at he5
    unfold bkCl at hk5
    dsimp only at he5 hk5
    have hge5 := hs5.be.lt
    have hgb5 := hs5.bb.lt
    clear hs5
    go_upto_region 7 with (fail)
    go_region_held3 (fun w' => (∀ i, w'.cell? ⟨ge, i, none⟩ = (#[.int .i64 xk, .bool xh, .string xf, .string xd, .slice pg xg.length cg, .slice pb xb.length cb, .slice pc xc.length cc', .slice pr xr.length cr] : Array Value)[i]?) ∧ (∀ i, w'.cell? ⟨w.heap.size, i, none⟩ = (#[.int .u8 bk, .int .u8 bs, .string bt, .string bn, .string bv, .int .i64 n, .int .i64 m, .slice oa oln oc, .slice ca cln cc, .slice ra rl rc, .slice fa fl fc] : Array Value)[i]?) ∧ Below w5.heap.size w5 w')
      (first | exact ⟨he5, hk5, (Below.refl _ _).drew⟩ | exact ⟨fun i => (hb7.cell (p := ⟨ge, i, none⟩) (by have := hS.2.2.size; show ge < _; omega)).trans (hS.1 i), fun i => (hb7.cell (p := ⟨w.heap.size, i, none⟩) (by have := hS.2.2.size; show w.heap.size < _; omega)).trans (hS.2.1 i), hS.2.2.trans (hb7.mono (by have := hS.2.2.size; omega))⟩ | go_keep)
      (first
        | (go_at_call 71; have hS := ‹_ ∧ _ ∧ Below w5.heap.size w5 _›; refine (Hen.out _).mono ?_; rintro e w7 ⟨rfl, hb7⟩)
        | (go_at_call 72; have hS := ‹_ ∧ _ ∧ Below w5.heap.size w5 _›; refine (Hfl.out _).mono ?_; rintro e w7 ⟨rfl, hb7⟩))
    have hb5 : Below w5.heap.size w5 w7 := And.right (And.right ‹_ ∧ _ ∧ Below w5.heap.size w5 _›)
    have HX7 := Lib.hid (HX5.out.still hb5 Hn.out.2.2)
    have Hs7 := Lib.hid (Hs5.out.below hb5)
    have hr7 := (Hr5.out.below hb5 Hr5.out.lt).cell
    have hc7 := Hs7.out.bo.cell
    have hf7 := Hs7.out.bo.frozen
    unfold resZ at hc7
    clear he5 hk5 hb5 HX5 Hs5 Hr5
    have hend := got_put (G := fun j => gG E v sb w j ∧ j ≠ w.heap.size + 1) ⟨!xh, ⟨xk, xh, xf, xd, xg, xb, xc, xr⟩, [], [], [], 0⟩ ⟨⟨pg, cg, pb, cb, pc, cc', pr, cr⟩, none, 0, none, 0, none, 0⟩ Hs7.out HX7.out (.inl rfl) ⟨(Hs7.out.l.keep (Kept.mono (S' := fun j => gG E v sb w j ∧ j ≠ w.heap.size + 1) _ (fun k _ hk => ⟨⟨.inr (.inr (by omega)), by omega⟩, by omega⟩))), SliceS.empty _ _ (by simp [maxLen]), SliceS.empty _ _ (by simp [maxLen]), SliceS.empty _ _ (by simp [maxLen])⟩ (fun _ _ e => e) hsb Hn.out.1 Hn.out.2.1
    go_wp2_with fail
    obtain ⟨hK, hM, hC⟩ := hend
    have hcf := hC.cell
    unfold setRes resCells at hcf
    unfold setRes at hK hM
    (try dsimp only [List.length_nil] at hK)
    (try dsimp only [List.length_nil] at hM)
    (try dsimp only [List.length_nil] at hcf)
    have HK := Lib.hid hK
    have HM := Lib.hid hM
    clear hK hM hC hr7 hc7 hf7
    refine bodyPost_ret (v := .tuple #[.agg #[.bool (!xh), .int .i64 xk, .bool xh, .string xf, .string xd, .slice pg xg.length cg, .slice pb xb.length cb, .slice pc xc.length cc', .slice pr xr.length cr, .slice none 0 0, .slice none 0 0, .slice none 0 0, .int .u8 0], .int .i64 0]) (by simp [results, Try.results32, go_sem, hcf]) rfl ?_
    unfold GotR
    (try dsimp only)
    rw [Hg.out, show readyV bk bs = 0 from (by simp [readyV, Hz.out])]
    exact ⟨⟨⟨pg, cg, pb, cb, pc, cc', pr, cr⟩, none, 0, none, 0, none, 0⟩, by simp [resArg, resCells], HK.out, HM.out⟩

end Go.Proofs.Ytjfhpafaopeogaa
