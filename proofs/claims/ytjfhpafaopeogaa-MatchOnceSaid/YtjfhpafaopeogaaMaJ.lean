/-
  What becomes of a reply: Got, of the document, where it is taken and nothing ends (layer 22).
-/
import Derived.Test.YtjfhpafaopeogaaMaI
namespace Go.Proofs.Ytjfhpafaopeogaa
open Go.RowKit
set_option linter.unusedVariables false
set_option linter.unusedSimpArgs false

set_option maxRecDepth 100000 in
set_option maxHeartbeats 10000000 in
theorem rgot_kept (B sb : Nat) (E : Nat → Prop) (x : EnV) (T : List EnV) (most : Nat) (v : Value) (b : BkV) (w : World) (h : QO 88 B w sb E (x :: T) most v) (hB : B ≤ w.heap.size) (hb0 : 0 ≤ b.kind) (hb1 : b.kind < 256) (ht : takesB x.kind b.kind = true) (hf : failsB x.kind b.kind = false) (he : endsB x.kind b.kind = false) :
    Calls Try.prog 41 #[.pointer (some ⟨sb, 0, none⟩), bkArg b] w (GotR 88 B sb E (x :: T) most v b.kind b.status w) := by
  have hsb := h.blk.lt
  have Hn := Lib.hid (And.intro h.noE (And.intro h.no (fun j hj => (h.own.row j hj).2 : ∀ j, rowOf v = some j → j < w.heap.size)))
  obtain ⟨W, hW⟩ : ∃ W, W = (w.alloc (.cells (bkCl b) 69)).alloc (.cells resZ 82) := ⟨_, rfl⟩
  obtain ⟨b0, o0, cv, a, hv, hq, ⟨c0, c1, c2, c3, c4, c5, c6, c7⟩, hs, hx, hz, hbl⟩ := rgot_start h hW
  have Hs1 := Lib.hid hs
  have HX1 := Lib.hid hx
  have Hg : Hid (gotV (x :: T) b.kind b.status = (⟨!x.hide, x, [], [], [], readyV b.kind b.status⟩, 0, x :: T)) := Lib.hid (by simp [gotV, ht, hf, he])
  have Htq : Hid (∀ r, Calls Try.prog 45 #[.int .i64 x.kind, .int .u8 b.kind] (W.drewN r) fun e w' => e = .returned (.bool true) ∧ w' = W.drewN r) := Lib.hid (fun r => by
    have := takesR_any x.kind b.kind (W.drewN r) hb0 hb1
    rw [ht] at this
    exact this.mono (fun e w' h => ⟨h.1, h.2.symm⟩))
  have Hen := Lib.hid (fun w0 => endsR_any x.kind b.kind w0 hb0 hb1)
  have Hfl := Lib.hid (fun w0 => failsR_any x.kind b.kind w0 hb0 hb1)
  have Hfa := Lib.hid (fun k w0 => failsR_any k b.kind w0 hb0 hb1)
  rw [hf] at Hfl
  rw [he] at Hen
  have Hsm := Lib.hid (And.intro h.len h.lim)
  have hl0 : ((((x :: T).length : Nat) : Int) == 0) = false := by simp; omega
  have hl1 : (0 : Int) < ((x :: T).length : Int) := by simp
  have hTl : T.length ≤ 4096 := by have := h.len; have := h.lim; simp at *; omega
  generalize (x :: T).length = N at *
  have HW := Lib.hid hW
  have Hv := Lib.hid hv
  have Hbl := Lib.hid hbl
  clear h hs hx hW hv ht hf he hbl
  obtain ⟨bk, bs, bt, bn, bv, n, m, oa, oln, oc, ca, cln, cc, ra, rl, rc, fa, fl, fc⟩ := b
  obtain ⟨xk, xh, xf, xd, xg, xb, xc, xr⟩ := x
  obtain ⟨pg, cg, pb, cb, pc, cc', pr, cr⟩ := a
  have hk := Hs1.out.bb.cell
  unfold bkCl at HW hk
  unfold resZ at HW
  unfold bkArg
  dsimp only at *
  go_enter Try.func41, Try.ntmps41
  go_upto_region 1 with (fail)
  rw [← HW.out]
  clear HW
  go_quiet ((go_at_call 45; exact Calls.quiet_of_same (Htq.out _)))
  go_upto_region 3 with (fail)
  clear Htq
  have hz1 : (W.drewN nq).heap.size = w.heap.size + 2 := hz
  have Hs2 := Lib.hid (Hs1.out.below (bel_drewN W nq _ (Nat.le_refl _)))
  have HX2 := Lib.hid (HX1.out.still (bel_drewN W nq _ (Nat.le_refl _)) Hn.out.2.2)
  have hq2 : ∀ i, (W.drewN nq).cell? ⟨sb, i, none⟩ = (#[.slice (some ⟨b0, o0, none⟩) N cv, .int .i64 (most : Int)] : Array Value)[i]? := hq
  have d0 : (W.drewN nq).cell? ⟨b0, o0, none⟩ = _ := c0
  have d1 : (W.drewN nq).cell? ⟨b0, o0 + 1, none⟩ = _ := c1
  have d2 : (W.drewN nq).cell? ⟨b0, o0 + 2, none⟩ = _ := c2
  have d3 : (W.drewN nq).cell? ⟨b0, o0 + 3, none⟩ = _ := c3
  have d4 : (W.drewN nq).cell? ⟨b0, o0 + 4, none⟩ = _ := c4
  have d5 : (W.drewN nq).cell? ⟨b0, o0 + 5, none⟩ = _ := c5
  have d6 : (W.drewN nq).cell? ⟨b0, o0 + 6, none⟩ = _ := c6
  have d7 : (W.drewN nq).cell? ⟨b0, o0 + 7, none⟩ = _ := c7
  clear hq hk c0 c1 c2 c3 c4 c5 c6 c7 Hs1 HX1 hz
  generalize W.drewN nq = w2 at *
  have hsb2 : sb < w2.heap.size := by omega
  have hbl2 : b0 < w2.heap.size := by have := Hbl.out; omega
  have hN0 : 0 < N := by omega
  have halz : Below w2.heap.size w2 (w2.alloc (.cells #[.bool false, .int .i64 0, .bool false, .string ⟨#[]⟩, .string ⟨#[]⟩, .slice none 0 0, .slice none 0 0, .slice none 0 0, .slice none 0 0, .slice none 0 0, .slice none 0 0, .slice none 0 0, .int .u8 0] 82)) := (Below.refl _ _).alloc (Nat.le_refl _) _
  have qz : ∀ i, (w2.alloc (.cells #[.bool false, .int .i64 0, .bool false, .string ⟨#[]⟩, .string ⟨#[]⟩, .slice none 0 0, .slice none 0 0, .slice none 0 0, .slice none 0 0, .slice none 0 0, .slice none 0 0, .slice none 0 0, .int .u8 0] 82)).cell? ⟨sb, i, none⟩ = (#[.slice (some ⟨b0, o0, none⟩) N cv, .int .i64 (most : Int)] : Array Value)[i]? := fun i => (halz.cell (p := ⟨sb, i, none⟩) hsb2).trans (hq2 i)
  have z0 := (halz.cell (p := ⟨b0, o0, none⟩) hbl2).trans d0
  have z1 := (halz.cell (p := ⟨b0, o0 + 1, none⟩) hbl2).trans d1
  have z2 := (halz.cell (p := ⟨b0, o0 + 2, none⟩) hbl2).trans d2
  have z3 := (halz.cell (p := ⟨b0, o0 + 3, none⟩) hbl2).trans d3
  have z4 := (halz.cell (p := ⟨b0, o0 + 4, none⟩) hbl2).trans d4
  have z5 := (halz.cell (p := ⟨b0, o0 + 5, none⟩) hbl2).trans d5
  have z6 := (halz.cell (p := ⟨b0, o0 + 6, none⟩) hbl2).trans d6
  have z7 := (halz.cell (p := ⟨b0, o0 + 7, none⟩) hbl2).trans d7
  clear halz
  go_region
  clear qz z0 z1 z2 z3 z4 z5 z6 z7 hq2 d0 d1 d2 d3 d4 d5 d6 d7
  have hal4 : Below w2.heap.size w2 (w2.alloc (.cells #[.bool (!xh), .int .i64 xk, .bool xh, .string xf, .string xd, .slice pg xg.length cg, .slice pb xb.length cb, .slice pc xc.length cc', .slice pr xr.length cr, .slice none 0 0, .slice none 0 0, .slice none 0 0, .int .u8 0] 82)).drew := ((Below.refl _ _).alloc (Nat.le_refl _) _).drew
  have hr4 : Blk (w2.alloc (.cells #[.bool (!xh), .int .i64 xk, .bool xh, .string xf, .string xd, .slice pg xg.length cg, .slice pb xb.length cb, .slice pc xc.length cc', .slice pr xr.length cr, .slice none 0 0, .slice none 0 0, .slice none 0 0, .int .u8 0] 82)).drew (w.heap.size + 2) 82 #[.bool (!xh), .int .i64 xk, .bool xh, .string xf, .string xd, .slice pg xg.length cg, .slice pb xb.length cb, .slice pc xc.length cc', .slice pr xr.length cr, .slice none 0 0, .slice none 0 0, .slice none 0 0, .int .u8 0] := by
    have := Blk.new w2 82 #[.bool (!xh), .int .i64 xk, .bool xh, .string xf, .string xd, .slice pg xg.length cg, .slice pb xb.length cb, .slice pc xc.length cc', .slice pr xr.length cr, .slice none 0 0, .slice none 0 0, .slice none 0 0, .int .u8 0]
    rw [hz1] at this
    exact this
  have HX4 := Lib.hid (HX2.out.grab (Y := fun j => j = w.heap.size + 1 ∨ j = w.heap.size + 2) hal4 Hn.out.2.2 (fun j e => e.imp id (fun e => ⟨by omega, by rw [e]; exact hr4.lt⟩)))
  have hs4 := Hs2.out.below hal4
  have Hs4 := Lib.hid hs4
  have Hr4 := Lib.hid hr4
  have hk4 := hs4.bb.cell
  unfold bkCl at hk4
  dsimp only at hk4
  clear hal4 hr4 hs4 Hs2 HX2
  generalize (w2.alloc (.cells #[.bool (!xh), .int .i64 xk, .bool xh, .string xf, .string xd, .slice pg xg.length cg, .slice pb xb.length cb, .slice pc xc.length cc', .slice pr xr.length cr, .slice none 0 0, .slice none 0 0, .slice none 0 0, .int .u8 0] 82)).drew = w4 at *
  have hgr1 : w.heap.size + 1 < w.heap.size + 2 := by omega
  clear hz1 hsb2 hbl2
  generalize w.heap.size + 2 = gr at *
  by_cases hz : bk = 90
  · subst hz
    go_upto_region 5 with (fail)
    have hr4 := Hr4.out.cell
    have hf4 := Hr4.out.frozen
    have hT5 : Touch (fun i => i = gr) w4 (w4.setCell ⟨gr, 12, none⟩ (.int .u8 bs)) := (Touch.refl (fun i => i = gr) w4).setCell (x := ⟨gr, 12, none⟩) (fun _ => rfl) _
    have hr5 := Hr4.out.set_ 12 (.int .u8 bs)
    simp only [List.setIfInBounds_toArray, List.set_cons_succ, List.set_cons_zero] at hr5
    have Hr5 := Lib.hid hr5
    have HX5 := Lib.hid (HX4.out.pass (hT5.mono (fun k _ e => .inr e)) hsb)
    have Hs5 := Lib.hid (Hs4.out.touch hT5 (by omega) (by omega) (fun i hi _ e => by omega))
    clear hT5 hr5 Hs4 HX4 Hr4
    go_upto_region 6 with (fail)
    generalize w4.setCell ⟨gr, 12, none⟩ (.int .u8 bs) = w5 at *
    clear hr4 hf4 hk4
    have hc5 := Hr5.out.cell
    have hf5 := Hr5.out.frozen
    have hk5 := Hs5.out.bb.cell
    have hb5 := Hs5.out.bo.cell
    have hg5 := Hs5.out.bo.frozen
    unfold bkCl at hk5
    unfold resZ at hb5
    dsimp only at hk5
    have hend := got_put' (G := fun j => gG E v sb w j ∧ j ≠ w.heap.size + 1) ⟨!xh, ⟨xk, xh, xf, xd, xg, xb, xc, xr⟩, [], [], [], bs⟩ ⟨⟨pg, cg, pb, cb, pc, cc', pr, cr⟩, none, 0, none, 0, none, 0⟩ Hs5.out.bo HX5.out (.inl rfl) ⟨(Hs5.out.l.keep (Kept.mono (S' := fun j => gG E v sb w j ∧ j ≠ w.heap.size + 1) _ (fun k _ hk => ⟨⟨hk.1.elim (fun e => .inl ⟨e, hk.2.1⟩) (fun e => .inr (.inl e)), hk.2.2⟩, by omega⟩))), SliceS.empty _ _ (by simp [maxLen]), SliceS.empty _ _ (by simp [maxLen]), SliceS.empty _ _ (by simp [maxLen])⟩ (fun _ _ e => e) hsb Hn.out.1 Hn.out.2.1
    go_wp2_with (first | (go_at_call 78; refine (Hen.out _).mono ?_; rintro e w6 ⟨rfl, rfl⟩) | (go_at_call 33; refine (Hfl.out _).mono ?_; rintro e w6 ⟨rfl, rfl⟩))
    obtain ⟨hK, hM, hC⟩ := hend
    have hcf := hC.cell
    unfold setRes resCells at hcf
    unfold setRes at hK hM
    (try dsimp only [List.length_nil] at hK)
    (try dsimp only [List.length_nil] at hM)
    (try dsimp only [List.length_nil] at hcf)
    have HK := Lib.hid hK
    have HM := Lib.hid hM
    clear hK hM hC hc5 hf5 hk5 hb5 hg5
    refine bodyPost_ret (v := .tuple #[.agg #[.bool (!xh), .int .i64 xk, .bool xh, .string xf, .string xd, .slice pg xg.length cg, .slice pb xb.length cb, .slice pc xc.length cc', .slice pr xr.length cr, .slice none 0 0, .slice none 0 0, .slice none 0 0, .int .u8 bs], .int .i64 0]) (by simp [results, Try.results41, go_sem, hcf]) rfl ?_
    unfold GotR
    (try dsimp only)
    rw [Hg.out, show readyV 90 bs = bs from (by simp [readyV])]
    exact ⟨⟨⟨pg, cg, pb, cb, pc, cc', pr, cr⟩, none, 0, none, 0, none, 0⟩, by simp [resArg, resCells], HK.out, HM.out⟩
  · have Hz := Lib.hid hz
    have hz' : (bk == 90) = false := by simpa using hz
    clear hz
    have Hr5 := Hr4
    have HX5 := HX4
    have Hs5 := Hs4
    clear Hs4 HX4 Hr4
    obtain ⟨w5, rfl⟩ : ∃ w5, w5 = w4 := ⟨_, rfl⟩
    go_upto_region 6 with (fail)
    clear hk4
    have hc5 := Hr5.out.cell
    have hf5 := Hr5.out.frozen
    have hk5 := Hs5.out.bb.cell
    have hb5 := Hs5.out.bo.cell
    have hg5 := Hs5.out.bo.frozen
    unfold bkCl at hk5
    unfold resZ at hb5
    dsimp only at hk5
    have hend := got_put' (G := fun j => gG E v sb w j ∧ j ≠ w.heap.size + 1) ⟨!xh, ⟨xk, xh, xf, xd, xg, xb, xc, xr⟩, [], [], [], 0⟩ ⟨⟨pg, cg, pb, cb, pc, cc', pr, cr⟩, none, 0, none, 0, none, 0⟩ Hs5.out.bo HX5.out (.inl rfl) ⟨(Hs5.out.l.keep (Kept.mono (S' := fun j => gG E v sb w j ∧ j ≠ w.heap.size + 1) _ (fun k _ hk => ⟨⟨hk.1.elim (fun e => .inl ⟨e, hk.2.1⟩) (fun e => .inr (.inl e)), hk.2.2⟩, by omega⟩))), SliceS.empty _ _ (by simp [maxLen]), SliceS.empty _ _ (by simp [maxLen]), SliceS.empty _ _ (by simp [maxLen])⟩ (fun _ _ e => e) hsb Hn.out.1 Hn.out.2.1
    go_wp2_with (first | (go_at_call 78; refine (Hen.out _).mono ?_; rintro e w6 ⟨rfl, rfl⟩) | (go_at_call 33; refine (Hfl.out _).mono ?_; rintro e w6 ⟨rfl, rfl⟩))
    obtain ⟨hK, hM, hC⟩ := hend
    have hcf := hC.cell
    unfold setRes resCells at hcf
    unfold setRes at hK hM
    (try dsimp only [List.length_nil] at hK)
    (try dsimp only [List.length_nil] at hM)
    (try dsimp only [List.length_nil] at hcf)
    have HK := Lib.hid hK
    have HM := Lib.hid hM
    clear hK hM hC hc5 hf5 hk5 hb5 hg5
    refine bodyPost_ret (v := .tuple #[.agg #[.bool (!xh), .int .i64 xk, .bool xh, .string xf, .string xd, .slice pg xg.length cg, .slice pb xb.length cb, .slice pc xc.length cc', .slice pr xr.length cr, .slice none 0 0, .slice none 0 0, .slice none 0 0, .int .u8 0], .int .i64 0]) (by simp [results, Try.results41, go_sem, hcf]) rfl ?_
    unfold GotR
    (try dsimp only)
    rw [Hg.out, show readyV bk bs = 0 from (by simp [readyV, Hz.out])]
    exact ⟨⟨⟨pg, cg, pb, cb, pc, cc', pr, cr⟩, none, 0, none, 0, none, 0⟩, by simp [resArg, resCells], HK.out, HM.out⟩

end Go.Proofs.Ytjfhpafaopeogaa
