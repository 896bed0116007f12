/-
  What becomes of a reply: Got, of the document, where it ends what stands first (layer 22).
-/
import Derived.Test.YtjfhpafaopeogaaMaI
namespace Go.Proofs.Ytjfhpafaopeogaa
open Go.RowKit
set_option linter.unusedVariables false
set_option linter.unusedSimpArgs false

set_option maxRecDepth 100000 in
set_option maxHeartbeats 10000000 in
theorem rgot_ends (B sb : Nat) (E : Nat → Prop) (x : EnV) (T : List EnV) (most : Nat) (v : Value) (b : BkV) (w : World) (h : QO 88 B w sb E (x :: T) most v) (hB : B ≤ w.heap.size) (hb0 : 0 ≤ b.kind) (hb1 : b.kind < 256) (ht : takesB x.kind b.kind = true) (hf : failsB x.kind b.kind = false) (he : endsB x.kind b.kind = true) :
    Calls Try.prog 41 #[.pointer (some ⟨sb, 0, none⟩), bkArg b] w (GotR 88 B sb E (x :: T) most v b.kind b.status w) := by
  have hsb := h.blk.lt
  have Hn := Lib.hid (And.intro h.noE (And.intro h.no (fun j hj => (h.own.row j hj).2 : ∀ j, rowOf v = some j → j < w.heap.size)))
  obtain ⟨W, hW⟩ : ∃ W, W = (w.alloc (.cells (bkCl b) 69)).alloc (.cells resZ 82) := ⟨_, rfl⟩
  obtain ⟨b0, o0, cv, a, hv, hq, ⟨c0, c1, c2, c3, c4, c5, c6, c7⟩, hs, hx, hz, hbl⟩ := rgot_start h hW
  have Hs1 := Lib.hid hs
  have HX1 := Lib.hid hx
  have Hg : Hid (gotV (x :: T) b.kind b.status = (⟨!x.hide, x, x :: T.take (ahead notSyn T), [], [], readyV b.kind b.status⟩, 0, T.drop (ahead notSyn T))) := Lib.hid (by simp [gotV, ht, hf, he])
  have Htq : Hid (∀ r, Calls Try.prog 45 #[.int .i64 x.kind, .int .u8 b.kind] (W.drewN r) fun e w' => e = .returned (.bool true) ∧ w' = W.drewN r) := Lib.hid (fun r => by
    have := takesR_any x.kind b.kind (W.drewN r) hb0 hb1
    rw [ht] at this
    exact this.mono (fun e w' h => ⟨h.1, h.2.symm⟩))
  have Hen := Lib.hid (fun w0 => endsR_any x.kind b.kind w0 hb0 hb1)
  have Hfl := Lib.hid (fun w0 => failsR_any x.kind b.kind w0 hb0 hb1)
  have Hfa := Lib.hid (fun k w0 => failsR_any k b.kind w0 hb0 hb1)
  rw [hf] at Hfl
  rw [he] at Hen
  have Hsm := Lib.hid (And.intro h.len h.lim)
  have hl0 : ((((x :: T).length : Nat) : Int) == 0) = false := by simp; omega
  have hl1 : (0 : Int) < ((x :: T).length : Int) := by simp
  have hTl : T.length ≤ 4096 := by have := h.len; have := h.lim; simp at *; omega
  generalize (x :: T).length = N at *
  have HW := Lib.hid hW
  have Hv := Lib.hid hv
  have Hbl := Lib.hid hbl
  clear h hs hx hW hv ht hf he hbl
  obtain ⟨bk, bs, bt, bn, bv, n, m, oa, oln, oc, ca, cln, cc, ra, rl, rc, fa, fl, fc⟩ := b
  obtain ⟨xk, xh, xf, xd, xg, xb, xc, xr⟩ := x
  obtain ⟨pg, cg, pb, cb, pc, cc', pr, cr⟩ := a
  have hk := Hs1.out.bb.cell
  unfold bkCl at HW hk
  unfold resZ at HW
  unfold bkArg
  dsimp only at *
  go_enter Try.func41, Try.ntmps41
  go_upto_region 1 with (fail)
  rw [← HW.out]
  clear HW
  go_quiet ((go_at_call 45; exact Calls.quiet_of_same (Htq.out _)))
  go_upto_region 3 with (fail)
  clear Htq
  have hz1 : (W.drewN nq).heap.size = w.heap.size + 2 := hz
  have Hs2 := Lib.hid (Hs1.out.below (bel_drewN W nq _ (Nat.le_refl _)))
  have HX2 := Lib.hid (HX1.out.still (bel_drewN W nq _ (Nat.le_refl _)) Hn.out.2.2)
  have hq2 : ∀ i, (W.drewN nq).cell? ⟨sb, i, none⟩ = (#[.slice (some ⟨b0, o0, none⟩) N cv, .int .i64 (most : Int)] : Array Value)[i]? := hq
  have d0 : (W.drewN nq).cell? ⟨b0, o0, none⟩ = _ := c0
  have d1 : (W.drewN nq).cell? ⟨b0, o0 + 1, none⟩ = _ := c1
  have d2 : (W.drewN nq).cell? ⟨b0, o0 + 2, none⟩ = _ := c2
  have d3 : (W.drewN nq).cell? ⟨b0, o0 + 3, none⟩ = _ := c3
  have d4 : (W.drewN nq).cell? ⟨b0, o0 + 4, none⟩ = _ := c4
  have d5 : (W.drewN nq).cell? ⟨b0, o0 + 5, none⟩ = _ := c5
  have d6 : (W.drewN nq).cell? ⟨b0, o0 + 6, none⟩ = _ := c6
  have d7 : (W.drewN nq).cell? ⟨b0, o0 + 7, none⟩ = _ := c7
  clear hq hk c0 c1 c2 c3 c4 c5 c6 c7 Hs1 HX1 hz
  generalize W.drewN nq = w2 at *
  have hsb2 : sb < w2.heap.size := by omega
  have hbl2 : b0 < w2.heap.size := by have := Hbl.out; omega
  have hN0 : 0 < N := by omega
  have halz : Below w2.heap.size w2 (w2.alloc (.cells #[.bool false, .int .i64 0, .bool false, .string ⟨#[]⟩, .string ⟨#[]⟩, .slice none 0 0, .slice none 0 0, .slice none 0 0, .slice none 0 0, .slice none 0 0, .slice none 0 0, .slice none 0 0, .int .u8 0] 82)) := (Below.refl _ _).alloc (Nat.le_refl _) _
  have qz : ∀ i, (w2.alloc (.cells #[.bool false, .int .i64 0, .bool false, .string ⟨#[]⟩, .string ⟨#[]⟩, .slice none 0 0, .slice none 0 0, .slice none 0 0, .slice none 0 0, .slice none 0 0, .slice none 0 0, .slice none 0 0, .int .u8 0] 82)).cell? ⟨sb, i, none⟩ = (#[.slice (some ⟨b0, o0, none⟩) N cv, .int .i64 (most : Int)] : Array Value)[i]? := fun i => (halz.cell (p := ⟨sb, i, none⟩) hsb2).trans (hq2 i)
  have z0 := (halz.cell (p := ⟨b0, o0, none⟩) hbl2).trans d0
  have z1 := (halz.cell (p := ⟨b0, o0 + 1, none⟩) hbl2).trans d1
  have z2 := (halz.cell (p := ⟨b0, o0 + 2, none⟩) hbl2).trans d2
  have z3 := (halz.cell (p := ⟨b0, o0 + 3, none⟩) hbl2).trans d3
  have z4 := (halz.cell (p := ⟨b0, o0 + 4, none⟩) hbl2).trans d4
  have z5 := (halz.cell (p := ⟨b0, o0 + 5, none⟩) hbl2).trans d5
  have z6 := (halz.cell (p := ⟨b0, o0 + 6, none⟩) hbl2).trans d6
  have z7 := (halz.cell (p := ⟨b0, o0 + 7, none⟩) hbl2).trans d7
  clear halz
  go_region
  clear qz z0 z1 z2 z3 z4 z5 z6 z7 hq2 d0 d1 d2 d3 d4 d5 d6 d7
  have hal4 : Below w2.heap.size w2 (w2.alloc (.cells #[.bool (!xh), .int .i64 xk, .bool xh, .string xf, .string xd, .slice pg xg.length cg, .slice pb xb.length cb, .slice pc xc.length cc', .slice pr xr.length cr, .slice none 0 0, .slice none 0 0, .slice none 0 0, .int .u8 0] 82)).drew := ((Below.refl _ _).alloc (Nat.le_refl _) _).drew
  have hr4 : Blk (w2.alloc (.cells #[.bool (!xh), .int .i64 xk, .bool xh, .string xf, .string xd, .slice pg xg.length cg, .slice pb xb.length cb, .slice pc xc.length cc', .slice pr xr.length cr, .slice none 0 0, .slice none 0 0, .slice none 0 0, .int .u8 0] 82)).drew (w.heap.size + 2) 82 #[.bool (!xh), .int .i64 xk, .bool xh, .string xf, .string xd, .slice pg xg.length cg, .slice pb xb.length cb, .slice pc xc.length cc', .slice pr xr.length cr, .slice none 0 0, .slice none 0 0, .slice none 0 0, .int .u8 0] := by
    have := Blk.new w2 82 #[.bool (!xh), .int .i64 xk, .bool xh, .string xf, .string xd, .slice pg xg.length cg, .slice pb xb.length cb, .slice pc xc.length cc', .slice pr xr.length cr, .slice none 0 0, .slice none 0 0, .slice none 0 0, .int .u8 0]
    rw [hz1] at this
    exact this
  have HX4 := Lib.hid (HX2.out.grab (Y := fun j => j = w.heap.size + 1 ∨ j = w.heap.size + 2) hal4 Hn.out.2.2 (fun j e => e.imp id (fun e => ⟨by omega, by rw [e]; exact hr4.lt⟩)))
  have hs4 := Hs2.out.below hal4
  have Hs4 := Lib.hid hs4
  have Hr4 := Lib.hid hr4
  have hk4 := hs4.bb.cell
  unfold bkCl at hk4
  dsimp only at hk4
  clear hal4 hr4 hs4 Hs2 HX2
  generalize (w2.alloc (.cells #[.bool (!xh), .int .i64 xk, .bool xh, .string xf, .string xd, .slice pg xg.length cg, .slice pb xb.length cb, .slice pc xc.length cc', .slice pr xr.length cr, .slice none 0 0, .slice none 0 0, .slice none 0 0, .int .u8 0] 82)).drew = w4 at *
  have hgr1 : w.heap.size + 1 < w.heap.size + 2 := by omega
  clear hz1 hsb2 hbl2
  generalize w.heap.size + 2 = gr at *
  by_cases hz : bk = 90
  · subst hz
    go_upto_region 5 with (fail)
    have hr4 := Hr4.out.cell
    have hf4 := Hr4.out.frozen
    have hT5 : Touch (fun i => i = gr) w4 (w4.setCell ⟨gr, 12, none⟩ (.int .u8 bs)) := (Touch.refl (fun i => i = gr) w4).setCell (x := ⟨gr, 12, none⟩) (fun _ => rfl) _
    have hr5 := Hr4.out.set_ 12 (.int .u8 bs)
    simp only [List.setIfInBounds_toArray, List.set_cons_succ, List.set_cons_zero] at hr5
    have Hr5 := Lib.hid hr5
    have HX5 := Lib.hid (HX4.out.pass (hT5.mono (fun k _ e => .inr e)) hsb)
    have Hs5 := Lib.hid (Hs4.out.touch hT5 (by omega) (by omega) (fun i hi _ e => by omega))
    clear hT5 hr5 Hs4 HX4 Hr4
    go_upto_region 6 with (fail)
    generalize w4.setCell ⟨gr, 12, none⟩ (.int .u8 bs) = w5 at *
    clear hr4 hf4 hk4
    have hc5 := Hr5.out.cell
    have hf5 := Hr5.out.frozen
    have hk5 := Hs5.out.bb.cell
    have hb5 := Hs5.out.bo.cell
    have hg5 := Hs5.out.bo.frozen
    unfold bkCl at hk5
    unfold resZ at hb5
    dsimp only at hk5
    have hhX := HX5.out.size
    obtain ⟨D, hD⟩ : ∃ D : Nat → Prop, D = (fun j => gG E v sb w j ∧ j ≠ w.heap.size + 1 ∧ j ≠ gr) := ⟨_, rfl⟩
    have HD := Lib.hid (show ∀ j, D j ↔ (gG E v sb w j ∧ j ≠ w.heap.size + 1 ∧ j ≠ gr) from fun j => by rw [hD])
    clear hD
    have HDf : Hid (∀ j, w.heap.size + 2 ≤ j → j ≠ gr → D j) := Lib.hid (fun j h1 h2 => (HD.out j).2 ⟨⟨.inr (.inr (by omega)), by omega⟩, by omega, h2⟩)
    have HP : Hid (Calls Try.prog 77 #[.pointer (some ⟨sb, 0, none⟩)] w5 fun e w' => ∃ a, e = .returned (.tuple #[enArg ⟨xk, xh, xf, xd, xg, xb, xc, xr⟩ a, .bool true]) ∧ EnL D w' ⟨xk, xh, xf, xd, xg, xb, xc, xr⟩ a ∧ OpX 88 B sb E T most v w (fun j => j = w.heap.size + 1 ∨ j = gr) w' ∧ Touch (fun i => i = sb) w5 w') := Lib.hid (by
      obtain ⟨E7, v7, hq7, hE7, hgo7⟩ := HX5.out.open Hn.out.2.2
      refine (rPop_strong B sb E7 ⟨xk, xh, xf, xd, xg, xb, xc, xr⟩ T most v7 w5 hq7 (by omega)).mono ?_
      rintro e w8 ⟨a8, rfl, hl8, hop8⟩
      exact ⟨a8, rfl, hl8.keep (Kept.mono _ (fun j _ hj => (HD.out j).2 ⟨⟨(hE7 j hj.1).2.2, hj.2.2⟩, fun e => (hE7 j hj.1).2.1 (.inl e), fun e => (hE7 j hj.1).2.1 (.inr e)⟩)), hgo7 _ _ (OpM.ofN hop8), opN_touch hop8⟩)
    go_upto_region 8 with (first | (go_at_call 78; refine (Hen.out _).mono ?_; rintro e w6 ⟨rfl, rfl⟩) | (go_at_call 77; refine HP.out.mono ?_; rintro e w7 ⟨⟨qg, dg, qb, db, qc, dc, qr, dr⟩, rfl, hl7, hx7, hT7⟩; unfold enArg; dsimp only at hl7 ⊢; have hz7 := hT7.size; have HX7 := Lib.hid hx7; have Hl7 := Lib.hid hl7; have Hs7 := Lib.hid (Hs5.out.touch hT7 (by omega) (by omega) (fun i _ hi e => hi e)); have Hr7 := Lib.hid (hT7.blk Hr5.out (by omega)); clear hl7 hx7 hT7 hc5 hf5 hk5 hb5 hg5))
    have hal8 : Below w7.heap.size w7 (w7.alloc (.cells #[.int .i64 xk, .bool xh, .string xf, .string xd, .slice qg xg.length dg, .slice qb xb.length db, .slice qc xc.length dc, .slice qr xr.length dr] 52)) := (Below.refl _ _).alloc (Nat.le_refl _) _
    have HE8 : Hid (Blk (w7.alloc (.cells #[.int .i64 xk, .bool xh, .string xf, .string xd, .slice qg xg.length dg, .slice qb xb.length db, .slice qc xc.length dc, .slice qr xr.length dr] 52)) w7.heap.size 52 #[.int .i64 xk, .bool xh, .string xf, .string xd, .slice qg xg.length dg, .slice qb xb.length db, .slice qc xc.length dc, .slice qr xr.length dr]) := Lib.hid (Blk.new _ _ _)
    have HX8 := Lib.hid (HX7.out.still hal8 Hn.out.2.2)
    have Hs8 := Lib.hid (Hs7.out.below hal8)
    have Hr8 := Lib.hid (Hr7.out.below hal8 Hr7.out.lt)
    have Hl8 := Lib.hid (Hl7.out.keep (Kept.all hal8))
    have hlr7 := Hr7.out.lt
    have hlt8 : w7.heap.size < (w7.alloc (.cells #[.int .i64 xk, .bool xh, .string xf, .string xd, .slice qg xg.length dg, .slice qb xb.length db, .slice qc xc.length dc, .slice qr xr.length dr] 52)).heap.size := by simp
    clear hal8 HX7 Hs7 Hr7 Hl7 HP
    generalize w7.alloc (.cells #[.int .i64 xk, .bool xh, .string xf, .string xd, .slice qg xg.length dg, .slice qb xb.length db, .slice qc xc.length dc, .slice qr xr.length dr] 52) = w8 at *
    have hge : gr < w7.heap.size := hlr7
    have hgs : sb < w7.heap.size := by omega
    clear hlr7 hz7
    generalize w7.heap.size = ge at *
    have he8 := HE8.out.cell
    have hat := ahead_le notSyn T
    have htl : (T.take (ahead notSyn T)).length ≤ 4096 := by rw [List.length_take]; omega
    have hbd : Below w8.heap.size w8 w8.drew := below_dropN (Below.refl _ _) (Nat.le_refl _)
    have hbB : Below w8.heap.size w8 (w8.drew.alloc (.cells #[.int .i64 xk, .bool xh, .string xf, .string xd, .slice qg xg.length dg, .slice qb xb.length db, .slice qc xc.length dc, .slice qr xr.length dr] 52)) := hbd.alloc (Nat.le_refl _) _
    have hzB : (w8.drew.alloc (.cells #[.int .i64 xk, .bool xh, .string xf, .string xd, .slice qg xg.length dg, .slice qb xb.length db, .slice qc xc.length dc, .slice qr xr.length dr] 52)).heap.size = w8.heap.size + 1 := by rw [World.size_alloc]; rfl
    have HXA := Lib.hid (HX8.out.still hbd Hn.out.2.2)
    have HXB := Lib.hid (HX8.out.grab (Y := fun j => (j = w.heap.size + 1 ∨ j = gr) ∨ j = w8.heap.size) hbB Hn.out.2.2 (fun j e => e.imp id (fun e => ⟨by omega, by omega⟩)))
    have HFA : Hid (Calls Try.prog 40 #[.pointer (some ⟨sb, 0, none⟩)] w8.drew fun e w' => ∃ vo, e = .returned vo ∧ OwnEn w8.heap.size D w' vo (T.take (ahead notSyn T)) ∧ OpX 88 B sb E (T.drop (ahead notSyn T)) most v w (fun j => j = w.heap.size + 1 ∨ j = gr) w' ∧ Touch (fun i => i = sb) w8.drew w') := Lib.hid (by
      obtain ⟨E7, v7, hq7, hE7, hgo7⟩ := HXA.out.open Hn.out.2.2
      refine (rflush_any B sb E7 T most v7 w8.drew hq7 (by show B ≤ w8.heap.size; omega)).mono ?_
      rintro e wF ⟨vo, rfl, ho8, hop8⟩
      refine ⟨vo, rfl, ho8.touch EnS.still (Touch.refl (fun _ => False) wF) (fun _ _ e => e) (fun j _ hj _ => ⟨?_, fun e => e⟩), hgo7 _ _ hop8, opM_touch hop8⟩
      refine (HD.out j).2 ⟨⟨?_, hj.2⟩, fun e => ?_, fun e => ?_⟩
      · rcases hj.1 with e | e | e
        · exact (hE7 j (.inl e.1)).2.2
        · exact (hE7 j (.inr e)).2.2
        · exact .inr (.inr (by have e' : w8.heap.size ≤ j := e; omega))
      · rcases hj.1 with e' | e' | e'
        · exact (hE7 j (.inl e'.1)).2.1 (.inl e)
        · exact (hE7 j (.inr e')).2.1 (.inl e)
        · have e'' : w8.heap.size ≤ j := e'; omega
      · rcases hj.1 with e' | e' | e'
        · exact (hE7 j (.inl e'.1)).2.1 (.inr e)
        · exact (hE7 j (.inr e')).2.1 (.inr e)
        · have e'' : w8.heap.size ≤ j := e'; omega)
    have HFB : Hid (Calls Try.prog 40 #[.pointer (some ⟨sb, 0, none⟩)] (w8.drew.alloc (.cells #[.int .i64 xk, .bool xh, .string xf, .string xd, .slice qg xg.length dg, .slice qb xb.length db, .slice qc xc.length dc, .slice qr xr.length dr] 52)) fun e w' => ∃ vo, e = .returned vo ∧ OwnEn (w8.heap.size + 1) (fun j => D j ∧ j ≠ w8.heap.size) w' vo (T.take (ahead notSyn T)) ∧ OpX 88 B sb E (T.drop (ahead notSyn T)) most v w (fun j => (j = w.heap.size + 1 ∨ j = gr) ∨ j = w8.heap.size) w' ∧ Touch (fun i => i = sb) (w8.drew.alloc (.cells #[.int .i64 xk, .bool xh, .string xf, .string xd, .slice qg xg.length dg, .slice qb xb.length db, .slice qc xc.length dc, .slice qr xr.length dr] 52)) w') := Lib.hid (by
      obtain ⟨E7, v7, hq7, hE7, hgo7⟩ := HXB.out.open Hn.out.2.2
      refine (rflush_any B sb E7 T most v7 _ hq7 (by omega)).mono ?_
      rintro e wF ⟨vo, rfl, ho8, hop8⟩
      rw [hzB] at ho8
      refine ⟨vo, rfl, ho8.touch EnS.still (Touch.refl (fun _ => False) wF) (fun _ _ e => e) (fun j _ hj _ => ⟨?_, fun e => e⟩), hgo7 _ _ hop8, opM_touch hop8⟩
      refine ⟨(HD.out j).2 ⟨⟨?_, hj.2⟩, fun e => ?_, fun e => ?_⟩, fun e => ?_⟩
      · rcases hj.1 with e | e | e
        · exact (hE7 j (.inl e.1)).2.2
        · exact (hE7 j (.inr e)).2.2
        · exact .inr (.inr (by omega))
      · rcases hj.1 with e' | e' | e'
        · exact (hE7 j (.inl e'.1)).2.1 (.inl (.inl e))
        · exact (hE7 j (.inr e')).2.1 (.inl (.inl e))
        · omega
      · rcases hj.1 with e' | e' | e'
        · exact (hE7 j (.inl e'.1)).2.1 (.inl (.inr e))
        · exact (hE7 j (.inr e')).2.1 (.inl (.inr e))
        · omega
      · rcases hj.1 with e' | e' | e'
        · exact (hE7 j (.inl e'.1)).2.1 (.inr e)
        · exact (hE7 j (.inr e')).2.1 (.inr e)
        · omega)
    generalize T.take (ahead notSyn T) = F at *
    obtain ⟨N1, hN⟩ : ∃ N, (⟨xk, xh, xf, xd, xg, xb, xc, xr⟩ :: F).length = N := ⟨_, rfl⟩
    have HN := Lib.hid hN
    have Hbd := Lib.hid hbd
    have HbB := Lib.hid hbB
    have HzB := Lib.hid hzB
    clear hN hbd hbB hzB hat
    have hr8 := Hr8.out.cell
    have hf8 := Hr8.out.frozen
    have hgl8 := Hr8.out.lt
    go_region_law (first
      | (refine rgn_appendEn rfl (.tmp 65) (.tmp 67) rfl w.heap.size D (.slice (some ⟨w8.heap.size, 0, none⟩) 1 1) [⟨xk, xh, xf, xd, xg, xb, xc, xr⟩] rfl HOB.out p11 F.length c11 F rfl HSB.out (by simp; omega) (by omega) ?_; intro v15 w15 ho15 hg15 hn15; have hT15 := Touch.of_row hg15; rw [rowOf_pos (by omega)] at hT15 hn15; have hz15 := hT15.size; simp only [List.cons_append, List.nil_append] at ho15; have HO15 := Lib.hid ho15; obtain ⟨p15, c15, hv15, _⟩ := ho15.slice EnS.still (S' := fun _ => True) (fun _ _ _ => trivial) (fun _ _ => trivial); rw [HN.out] at hv15; subst hv15; have HX15 := Lib.hid ((HXB11.out.pass (hT15.mono (fun k _ e => .inr (Option.some.inj e))) hsb).less (Y := fun j => j = w.heap.size + 1 ∨ j = gr) (fun j e => .inl e)); have Hr15 := Lib.hid (hT15.blk HrB11.out (fun e => by have := Option.some.inj e; omega)); have Hs15 := Lib.hid (HsB11.out.touch hT15 (fun e => by have := Option.some.inj e; omega) (fun e => by have := Option.some.inj e; omega) (fun i hi _ e => by have := Option.some.inj e; omega)); have hr15 := Hr15.out.cell; have hf15 := Hr15.out.frozen; have Hg15 : Hid (∀ k, rowOf (.slice p15 N1 c15) = some k → w.heap.size + 2 ≤ k ∧ k ≠ gr) := Lib.hid (fun k hk => by rcases hn15 k hk with e | e; (· have := Option.some.inj e; omega); (· omega)); clear ho15 hg15 hn15 hT15)
      | (refine rgn_appendEn rfl (.tmp 65) (.tmp 67) rfl w.heap.size D (.slice (some ⟨w11.heap.size, 0, none⟩) 1 1) [⟨xk, xh, xf, xd, xg, xb, xc, xr⟩] rfl HOA.out p11 F.length c11 F rfl HSA.out (by simp; omega) (by simp; omega) ?_; intro v15 w15 ho15 hg15 hn15; have hT15 := Touch.of_row hg15; rw [rowOf_pos (by omega)] at hT15 hn15; have hz15 := hT15.size; simp only [List.cons_append, List.nil_append] at ho15; have HO15 := Lib.hid ho15; obtain ⟨p15, c15, hv15, _⟩ := ho15.slice EnS.still (S' := fun _ => True) (fun _ _ _ => trivial) (fun _ _ => trivial); rw [HN.out] at hv15; subst hv15; have HX15 := Lib.hid ((HXA12.out.pass (hT15.mono (fun k _ e => .inr (Option.some.inj e))) hsb).less (Y := fun j => j = w.heap.size + 1 ∨ j = gr) (fun j e => .inl e)); have Hr15 := Lib.hid (hT15.blk HrA12.out (fun e => by have := Option.some.inj e; omega)); have Hs15 := Lib.hid (HsA12.out.touch hT15 (fun e => by have := Option.some.inj e; omega) (fun e => by have := Option.some.inj e; omega) (fun i hi _ e => by have := Option.some.inj e; omega)); have hr15 := Hr15.out.cell; have hf15 := Hr15.out.frozen; have Hg15 : Hid (∀ k, rowOf (.slice p15 N1 c15) = some k → w.heap.size + 2 ≤ k ∧ k ≠ gr) := Lib.hid (fun k hk => by rcases hn15 k hk with e | e; (· have := Option.some.inj e; omega); (· simp at e; omega)); clear ho15 hg15 hn15 hT15)
      | (refine rgn_call rfl 40 _ _ HFA.out (by go_simp) ?_; rintro e w11 ⟨v11, rfl, ho11, hx11, hT11⟩; refine ⟨_, rfl, ?_⟩; have hz11 : w8.heap.size ≤ w11.heap.size := hT11.size; have he11 := (hT11.blk (HE8.out.below Hbd.out HE8.out.lt) (by omega)).cell; have hl11 := (Hl8.out.keep (Kept.all Hbd.out)).keep (Kept.touch hT11 (fun k _ hk => ⟨hk, ((HD.out k).1 hk).1.2⟩)); have halA : Below w11.heap.size w11 (w11.alloc (.cells #[.int .i64 xk, .bool xh, .string xf, .string xd, .slice qg xg.length dg, .slice qb xb.length db, .slice qc xc.length dc, .slice qr xr.length dr] 52)) := (Below.refl _ _).alloc (Nat.le_refl _) _; have hzA : (w11.alloc (.cells #[.int .i64 xk, .bool xh, .string xf, .string xd, .slice qg xg.length dg, .slice qb xb.length db, .slice qc xc.length dc, .slice qr xr.length dr] 52)).heap.size = w11.heap.size + 1 := World.size_alloc _ _; have HXA12 := Lib.hid (hx11.grab (Y := fun j => (j = w.heap.size + 1 ∨ j = gr) ∨ j = w11.heap.size) halA Hn.out.2.2 (fun j e => e.imp id (fun e => ⟨by omega, by omega⟩))); have HrA12 := Lib.hid ((hT11.blk (Hr8.out.below Hbd.out Hr8.out.lt) (by omega)).below halA (by omega)); have HsA12 := Lib.hid (((Hs8.out.below Hbd.out).touch hT11 (by omega) (by omega) (fun i _ hi e => hi e)).below halA); have HOA : Hid (OwnEn w.heap.size D (w11.alloc (.cells #[.int .i64 xk, .bool xh, .string xf, .string xd, .slice qg xg.length dg, .slice qb xb.length db, .slice qc xc.length dc, .slice qr xr.length dr] 52)) (.slice (some ⟨w11.heap.size, 0, none⟩) 1 1) [⟨xk, xh, xf, xd, xg, xb, xc, xr⟩]) := Lib.hid ⟨[enCells ⟨xk, xh, xf, xd, xg, xb, xc, xr⟩ ⟨qg, dg, qb, db, qc, dc, qr, dr⟩], by simpa [enCells] using OwnR.new w.heap.size 52 8 w11 1 #[.int .i64 xk, .bool xh, .string xf, .string xd, .slice qg xg.length dg, .slice qb xb.length db, .slice qc xc.length dc, .slice qr xr.length dr] (by omega) (by simp [maxLen]) rfl (by omega), ⟨⟨rfl, ⟨qg, dg, qb, db, qc, dc, qr, dr⟩, rfl, (hl11.keep (Kept.mono w11 (fun k hk h => ⟨h, by rw [rowOf_pos (by omega)]; intro e; have := Option.some.inj e; omega⟩))).keep (Kept.all halA)⟩, trivial⟩⟩; have hrw11 := ho11.row; obtain ⟨p11, c11, hv11, hs11⟩ := ho11.slice EnS.still (S' := fun k => D k ∧ rowOf (.slice (some ⟨w11.heap.size, 0, none⟩) 1 1) ≠ some k) (fun k hk h => ⟨h, by rw [rowOf_pos (by omega)]; intro e; have := Option.some.inj e; omega⟩) (fun k hk => by have := hrw11 k hk; exact ⟨HDf.out k (by omega) (by omega), by rw [rowOf_pos (by omega)]; intro e; have := Option.some.inj e; omega⟩); subst hv11; have HSA := Lib.hid (hs11.below EnS.still halA); have hgr11 : gr < w11.heap.size := (by omega); clear hzA ho11 hx11 hT11 hrw11 hs11 hl11 halA)
      | (refine rgn_call rfl 40 _ _ HFB.out (by go_simp) ?_; rintro e w11 ⟨v11, rfl, ho11, hx11, hT11⟩; refine ⟨_, rfl, ?_⟩; have hz11 := hT11.size; rw [HzB.out] at hz11; have HXB11 := Lib.hid hx11; have HrB11 := Lib.hid (hT11.blk (Hr8.out.below HbB.out Hr8.out.lt) (by omega)); have HsB11 := Lib.hid ((Hs8.out.below HbB.out).touch hT11 (by omega) (by omega) (fun i _ hi e => hi e)); have HOB : Hid (OwnEn w.heap.size D w11 (.slice (some ⟨w8.heap.size, 0, none⟩) 1 1) [⟨xk, xh, xf, xd, xg, xb, xc, xr⟩]) := Lib.hid (OwnS.touch (S := D) EnS.still (⟨[enCells ⟨xk, xh, xf, xd, xg, xb, xc, xr⟩ ⟨qg, dg, qb, db, qc, dc, qr, dr⟩], by simpa [enCells] using OwnR.new w.heap.size 52 8 w8.drew 1 #[.int .i64 xk, .bool xh, .string xf, .string xd, .slice qg xg.length dg, .slice qb xb.length db, .slice qc xc.length dc, .slice qr xr.length dr] (by omega) (by simp [maxLen]) rfl (by show w.heap.size ≤ w8.heap.size; omega), ⟨⟨rfl, ⟨qg, dg, qb, db, qc, dc, qr, dr⟩, rfl, ((Hl8.out.keep (Kept.all Hbd.out)).keep (Kept.mono w8.drew (fun k hk h => ⟨h, by rw [rowOf_pos (by omega)]; intro e; have hk' : k < w8.heap.size := hk; have := Option.some.inj e; omega⟩))).keep (Kept.all ((Below.refl _ _).alloc (Nat.le_refl _) _))⟩, trivial⟩⟩ : OwnEn w.heap.size D (w8.drew.alloc (.cells #[.int .i64 xk, .bool xh, .string xf, .string xd, .slice qg xg.length dg, .slice qb xb.length db, .slice qc xc.length dc, .slice qr xr.length dr] 52)) (.slice (some ⟨w8.heap.size, 0, none⟩) 1 1) [⟨xk, xh, xf, xd, xg, xb, xc, xr⟩]) hT11 (fun k hk e => by rw [rowOf_pos (by omega)] at hk; have := Option.some.inj hk; omega) (fun k _ hk _ => ⟨hk, ((HD.out k).1 hk).1.2⟩)); have hrw11 := ho11.row; obtain ⟨p11, c11, hv11, hs11⟩ := ho11.slice EnS.still (S' := fun k => D k ∧ rowOf (.slice (some ⟨w8.heap.size, 0, none⟩) 1 1) ≠ some k) (fun k hk h => ⟨h.1, by rw [rowOf_pos (by omega)]; intro e; exact h.2 (Option.some.inj e).symm⟩) (fun k hk => by have := hrw11 k hk; exact ⟨HDf.out k (by omega) (by omega), by rw [rowOf_pos (by omega)]; intro e; have := Option.some.inj e; omega⟩); subst hv11; have HSB := Lib.hid hs11; clear ho11 hx11 hT11 hrw11 hs11))
    all_goals
      have hT16 : Touch (fun i => i = gr) w15 (w15.setCell ⟨gr, 9, none⟩ (.slice p15 N1 c15)) := (Touch.refl (fun i => i = gr) _).setCell (x := ⟨gr, 9, none⟩) (fun _ => rfl) _
      have hr16 := Hr15.out.set_ 9 (.slice p15 N1 c15)
      simp only [List.setIfInBounds_toArray, List.set_cons_succ, List.set_cons_zero] at hr16
      have HX16 := Lib.hid (HX15.out.pass (hT16.mono (fun k _ e => .inr e)) hsb)
      have Hs16 := Lib.hid (Hs15.out.touch hT16 (by omega) (by omega) (fun i hi _ e => by omega))
      have hen : SliceS 8 EnS (fun j => gG E v sb w j ∧ j ≠ w.heap.size + 1) (w15.setCell ⟨gr, 9, none⟩ (.slice p15 N1 c15)) [.slice p15 N1 c15] (⟨xk, xh, xf, xd, xg, xb, xc, xr⟩ :: F) := by
        have ho := OwnS.touch (S' := D) EnS.still HO15.out hT16 (fun k hk => (Hg15.out k hk).2) (fun k _ hk _ => ⟨hk, ((HD.out k).1 hk).2.2⟩)
        obtain ⟨pz, cz, ez, hz⟩ := ho.slice EnS.still (S' := fun j => gG E v sb w j ∧ j ≠ w.heap.size + 1) (fun k _ hk => ⟨((HD.out k).1 hk).1, ((HD.out k).1 hk).2.1⟩) (fun k hk => ⟨⟨.inr (.inr (by have := Hg15.out k hk; omega)), by have := Hg15.out k hk; omega⟩, by have := Hg15.out k hk; omega⟩)
        rw [← ez] at hz
        exact hz
      have Hl : Hid (ResL (fun j => gG E v sb w j ∧ j ≠ w.heap.size + 1) (w15.setCell ⟨gr, 9, none⟩ (.slice p15 N1 c15)) ⟨!xh, ⟨xk, xh, xf, xd, xg, xb, xc, xr⟩, ⟨xk, xh, xf, xd, xg, xb, xc, xr⟩ :: F, [], [], bs⟩ ⟨⟨pg, cg, pb, cb, pc, cc', pr, cr⟩, p15, c15, none, 0, none, 0⟩) := Lib.hid ⟨Hs16.out.l.keep (Kept.mono (S' := fun j => gG E v sb w j ∧ j ≠ w.heap.size + 1) _ (fun k _ hk => ⟨⟨hk.1.elim (fun e => .inl ⟨e, hk.2.1⟩) (fun e => .inr (.inl e)), hk.2.2⟩, by omega⟩)), by
        dsimp only
        rw [HN.out]
        exact hen, SliceS.empty _ _ (by simp [maxLen]), SliceS.empty _ _ (by simp [maxLen])⟩
      clear hT16 hen HO15 Hr15 HX15 Hs15 hr15 hf15 hr8 hf8 Hg15 he8
      generalize w15.setCell ⟨gr, 9, none⟩ (.slice p15 N1 c15) = w16 at *
      have hc16 := hr16.cell
      have hb16 := Hs16.out.bo.cell
      have hf16 := Hs16.out.bo.frozen
      unfold resZ at hb16
      have hend := got_put' (G := fun j => gG E v sb w j ∧ j ≠ w.heap.size + 1) _ _ Hs16.out.bo HX16.out (.inl rfl) Hl.out (fun _ _ e => e) hsb Hn.out.1 Hn.out.2.1
      go_wp2_with fail
      obtain ⟨hK, hM, hC⟩ := hend
      have hcf := hC.cell
      unfold setRes resCells at hcf
      unfold setRes at hK hM
      (try dsimp only [List.length_nil] at hK)
      (try dsimp only [List.length_nil] at hM)
      (try dsimp only [List.length_nil] at hcf)
      rw [HN.out] at hK hM hcf
      have HK := Lib.hid hK
      have HM := Lib.hid hM
      clear hK hM hC hc16 hb16 hf16 hr16
      refine bodyPost_ret (v := .tuple #[.agg #[.bool (!xh), .int .i64 xk, .bool xh, .string xf, .string xd, .slice pg xg.length cg, .slice pb xb.length cb, .slice pc xc.length cc', .slice pr xr.length cr, .slice p15 N1 c15, .slice none 0 0, .slice none 0 0, .int .u8 bs], .int .i64 0]) (by simp [results, Try.results41, go_sem, hcf]) rfl ?_
      unfold GotR
      (try dsimp only)
      rw [Hg.out, show readyV 90 bs = bs from (by simp [readyV])]
      exact ⟨⟨⟨pg, cg, pb, cb, pc, cc', pr, cr⟩, p15, c15, none, 0, none, 0⟩, by
        have hN := HN.out
        dsimp only [resArg, resCells]
        rw [hN]
        rfl, HK.out, HM.out⟩
  · have Hz := Lib.hid hz
    have hz' : (bk == 90) = false := by simpa using hz
    clear hz
    have Hr5 := Hr4
    have HX5 := HX4
    have Hs5 := Hs4
    clear Hs4 HX4 Hr4
    obtain ⟨w5, rfl⟩ : ∃ w5, w5 = w4 := ⟨_, rfl⟩
    go_upto_region 6 with (fail)
    clear hk4
    have hc5 := Hr5.out.cell
    have hf5 := Hr5.out.frozen
    have hk5 := Hs5.out.bb.cell
    have hb5 := Hs5.out.bo.cell
    have hg5 := Hs5.out.bo.frozen
    unfold bkCl at hk5
    unfold resZ at hb5
    dsimp only at hk5
    have hhX := HX5.out.size
    obtain ⟨D, hD⟩ : ∃ D : Nat → Prop, D = (fun j => gG E v sb w j ∧ j ≠ w.heap.size + 1 ∧ j ≠ gr) := ⟨_, rfl⟩
    have HD := Lib.hid (show ∀ j, D j ↔ (gG E v sb w j ∧ j ≠ w.heap.size + 1 ∧ j ≠ gr) from fun j => by rw [hD])
    clear hD
    have HDf : Hid (∀ j, w.heap.size + 2 ≤ j → j ≠ gr → D j) := Lib.hid (fun j h1 h2 => (HD.out j).2 ⟨⟨.inr (.inr (by omega)), by omega⟩, by omega, h2⟩)
    have HP : Hid (Calls Try.prog 77 #[.pointer (some ⟨sb, 0, none⟩)] w5 fun e w' => ∃ a, e = .returned (.tuple #[enArg ⟨xk, xh, xf, xd, xg, xb, xc, xr⟩ a, .bool true]) ∧ EnL D w' ⟨xk, xh, xf, xd, xg, xb, xc, xr⟩ a ∧ OpX 88 B sb E T most v w (fun j => j = w.heap.size + 1 ∨ j = gr) w' ∧ Touch (fun i => i = sb) w5 w') := Lib.hid (by
      obtain ⟨E7, v7, hq7, hE7, hgo7⟩ := HX5.out.open Hn.out.2.2
      refine (rPop_strong B sb E7 ⟨xk, xh, xf, xd, xg, xb, xc, xr⟩ T most v7 w5 hq7 (by omega)).mono ?_
      rintro e w8 ⟨a8, rfl, hl8, hop8⟩
      exact ⟨a8, rfl, hl8.keep (Kept.mono _ (fun j _ hj => (HD.out j).2 ⟨⟨(hE7 j hj.1).2.2, hj.2.2⟩, fun e => (hE7 j hj.1).2.1 (.inl e), fun e => (hE7 j hj.1).2.1 (.inr e)⟩)), hgo7 _ _ (OpM.ofN hop8), opN_touch hop8⟩)
    go_upto_region 8 with (first | (go_at_call 78; refine (Hen.out _).mono ?_; rintro e w6 ⟨rfl, rfl⟩) | (go_at_call 77; refine HP.out.mono ?_; rintro e w7 ⟨⟨qg, dg, qb, db, qc, dc, qr, dr⟩, rfl, hl7, hx7, hT7⟩; unfold enArg; dsimp only at hl7 ⊢; have hz7 := hT7.size; have HX7 := Lib.hid hx7; have Hl7 := Lib.hid hl7; have Hs7 := Lib.hid (Hs5.out.touch hT7 (by omega) (by omega) (fun i _ hi e => hi e)); have Hr7 := Lib.hid (hT7.blk Hr5.out (by omega)); clear hl7 hx7 hT7 hc5 hf5 hk5 hb5 hg5))
    have hal8 : Below w7.heap.size w7 (w7.alloc (.cells #[.int .i64 xk, .bool xh, .string xf, .string xd, .slice qg xg.length dg, .slice qb xb.length db, .slice qc xc.length dc, .slice qr xr.length dr] 52)) := (Below.refl _ _).alloc (Nat.le_refl _) _
    have HE8 : Hid (Blk (w7.alloc (.cells #[.int .i64 xk, .bool xh, .string xf, .string xd, .slice qg xg.length dg, .slice qb xb.length db, .slice qc xc.length dc, .slice qr xr.length dr] 52)) w7.heap.size 52 #[.int .i64 xk, .bool xh, .string xf, .string xd, .slice qg xg.length dg, .slice qb xb.length db, .slice qc xc.length dc, .slice qr xr.length dr]) := Lib.hid (Blk.new _ _ _)
    have HX8 := Lib.hid (HX7.out.still hal8 Hn.out.2.2)
    have Hs8 := Lib.hid (Hs7.out.below hal8)
    have Hr8 := Lib.hid (Hr7.out.below hal8 Hr7.out.lt)
    have Hl8 := Lib.hid (Hl7.out.keep (Kept.all hal8))
    have hlr7 := Hr7.out.lt
    have hlt8 : w7.heap.size < (w7.alloc (.cells #[.int .i64 xk, .bool xh, .string xf, .string xd, .slice qg xg.length dg, .slice qb xb.length db, .slice qc xc.length dc, .slice qr xr.length dr] 52)).heap.size := by simp
    clear hal8 HX7 Hs7 Hr7 Hl7 HP
    generalize w7.alloc (.cells #[.int .i64 xk, .bool xh, .string xf, .string xd, .slice qg xg.length dg, .slice qb xb.length db, .slice qc xc.length dc, .slice qr xr.length dr] 52) = w8 at *
    have hge : gr < w7.heap.size := hlr7
    have hgs : sb < w7.heap.size := by omega
    clear hlr7 hz7
    generalize w7.heap.size = ge at *
    have he8 := HE8.out.cell
    have hat := ahead_le notSyn T
    have htl : (T.take (ahead notSyn T)).length ≤ 4096 := by rw [List.length_take]; omega
    have hbd : Below w8.heap.size w8 w8.drew := below_dropN (Below.refl _ _) (Nat.le_refl _)
    have hbB : Below w8.heap.size w8 (w8.drew.alloc (.cells #[.int .i64 xk, .bool xh, .string xf, .string xd, .slice qg xg.length dg, .slice qb xb.length db, .slice qc xc.length dc, .slice qr xr.length dr] 52)) := hbd.alloc (Nat.le_refl _) _
    have hzB : (w8.drew.alloc (.cells #[.int .i64 xk, .bool xh, .string xf, .string xd, .slice qg xg.length dg, .slice qb xb.length db, .slice qc xc.length dc, .slice qr xr.length dr] 52)).heap.size = w8.heap.size + 1 := by rw [World.size_alloc]; rfl
    have HXA := Lib.hid (HX8.out.still hbd Hn.out.2.2)
    have HXB := Lib.hid (HX8.out.grab (Y := fun j => (j = w.heap.size + 1 ∨ j = gr) ∨ j = w8.heap.size) hbB Hn.out.2.2 (fun j e => e.imp id (fun e => ⟨by omega, by omega⟩)))
    have HFA : Hid (Calls Try.prog 40 #[.pointer (some ⟨sb, 0, none⟩)] w8.drew fun e w' => ∃ vo, e = .returned vo ∧ OwnEn w8.heap.size D w' vo (T.take (ahead notSyn T)) ∧ OpX 88 B sb E (T.drop (ahead notSyn T)) most v w (fun j => j = w.heap.size + 1 ∨ j = gr) w' ∧ Touch (fun i => i = sb) w8.drew w') := Lib.hid (by
      obtain ⟨E7, v7, hq7, hE7, hgo7⟩ := HXA.out.open Hn.out.2.2
      refine (rflush_any B sb E7 T most v7 w8.drew hq7 (by show B ≤ w8.heap.size; omega)).mono ?_
      rintro e wF ⟨vo, rfl, ho8, hop8⟩
      refine ⟨vo, rfl, ho8.touch EnS.still (Touch.refl (fun _ => False) wF) (fun _ _ e => e) (fun j _ hj _ => ⟨?_, fun e => e⟩), hgo7 _ _ hop8, opM_touch hop8⟩
      refine (HD.out j).2 ⟨⟨?_, hj.2⟩, fun e => ?_, fun e => ?_⟩
      · rcases hj.1 with e | e | e
        · exact (hE7 j (.inl e.1)).2.2
        · exact (hE7 j (.inr e)).2.2
        · exact .inr (.inr (by have e' : w8.heap.size ≤ j := e; omega))
      · rcases hj.1 with e' | e' | e'
        · exact (hE7 j (.inl e'.1)).2.1 (.inl e)
        · exact (hE7 j (.inr e')).2.1 (.inl e)
        · have e'' : w8.heap.size ≤ j := e'; omega
      · rcases hj.1 with e' | e' | e'
        · exact (hE7 j (.inl e'.1)).2.1 (.inr e)
        · exact (hE7 j (.inr e')).2.1 (.inr e)
        · have e'' : w8.heap.size ≤ j := e'; omega)
    have HFB : Hid (Calls Try.prog 40 #[.pointer (some ⟨sb, 0, none⟩)] (w8.drew.alloc (.cells #[.int .i64 xk, .bool xh, .string xf, .string xd, .slice qg xg.length dg, .slice qb xb.length db, .slice qc xc.length dc, .slice qr xr.length dr] 52)) fun e w' => ∃ vo, e = .returned vo ∧ OwnEn (w8.heap.size + 1) (fun j => D j ∧ j ≠ w8.heap.size) w' vo (T.take (ahead notSyn T)) ∧ OpX 88 B sb E (T.drop (ahead notSyn T)) most v w (fun j => (j = w.heap.size + 1 ∨ j = gr) ∨ j = w8.heap.size) w' ∧ Touch (fun i => i = sb) (w8.drew.alloc (.cells #[.int .i64 xk, .bool xh, .string xf, .string xd, .slice qg xg.length dg, .slice qb xb.length db, .slice qc xc.length dc, .slice qr xr.length dr] 52)) w') := Lib.hid (by
      obtain ⟨E7, v7, hq7, hE7, hgo7⟩ := HXB.out.open Hn.out.2.2
      refine (rflush_any B sb E7 T most v7 _ hq7 (by omega)).mono ?_
      rintro e wF ⟨vo, rfl, ho8, hop8⟩
      rw [hzB] at ho8
      refine ⟨vo, rfl, ho8.touch EnS.still (Touch.refl (fun _ => False) wF) (fun _ _ e => e) (fun j _ hj _ => ⟨?_, fun e => e⟩), hgo7 _ _ hop8, opM_touch hop8⟩
      refine ⟨(HD.out j).2 ⟨⟨?_, hj.2⟩, fun e => ?_, fun e => ?_⟩, fun e => ?_⟩
      · rcases hj.1 with e | e | e
        · exact (hE7 j (.inl e.1)).2.2
        · exact (hE7 j (.inr e)).2.2
        · exact .inr (.inr (by omega))
      · rcases hj.1 with e' | e' | e'
        · exact (hE7 j (.inl e'.1)).2.1 (.inl (.inl e))
        · exact (hE7 j (.inr e')).2.1 (.inl (.inl e))
        · omega
      · rcases hj.1 with e' | e' | e'
        · exact (hE7 j (.inl e'.1)).2.1 (.inl (.inr e))
        · exact (hE7 j (.inr e')).2.1 (.inl (.inr e))
        · omega
      · rcases hj.1 with e' | e' | e'
        · exact (hE7 j (.inl e'.1)).2.1 (.inr e)
        · exact (hE7 j (.inr e')).2.1 (.inr e)
        · omega)
    generalize T.take (ahead notSyn T) = F at *
    obtain ⟨N1, hN⟩ : ∃ N, (⟨xk, xh, xf, xd, xg, xb, xc, xr⟩ :: F).length = N := ⟨_, rfl⟩
    have HN := Lib.hid hN
    have Hbd := Lib.hid hbd
    have HbB := Lib.hid hbB
    have HzB := Lib.hid hzB
    clear hN hbd hbB hzB hat
    have hr8 := Hr8.out.cell
    have hf8 := Hr8.out.frozen
    have hgl8 := Hr8.out.lt
    go_region_law (first
      | (refine rgn_appendEn rfl (.tmp 65) (.tmp 67) rfl w.heap.size D (.slice (some ⟨w8.heap.size, 0, none⟩) 1 1) [⟨xk, xh, xf, xd, xg, xb, xc, xr⟩] rfl HOB.out p11 F.length c11 F rfl HSB.out (by simp; omega) (by omega) ?_; intro v15 w15 ho15 hg15 hn15; have hT15 := Touch.of_row hg15; rw [rowOf_pos (by omega)] at hT15 hn15; have hz15 := hT15.size; simp only [List.cons_append, List.nil_append] at ho15; have HO15 := Lib.hid ho15; obtain ⟨p15, c15, hv15, _⟩ := ho15.slice EnS.still (S' := fun _ => True) (fun _ _ _ => trivial) (fun _ _ => trivial); rw [HN.out] at hv15; subst hv15; have HX15 := Lib.hid ((HXB11.out.pass (hT15.mono (fun k _ e => .inr (Option.some.inj e))) hsb).less (Y := fun j => j = w.heap.size + 1 ∨ j = gr) (fun j e => .inl e)); have Hr15 := Lib.hid (hT15.blk HrB11.out (fun e => by have := Option.some.inj e; omega)); have Hs15 := Lib.hid (HsB11.out.touch hT15 (fun e => by have := Option.some.inj e; omega) (fun e => by have := Option.some.inj e; omega) (fun i hi _ e => by have := Option.some.inj e; omega)); have hr15 := Hr15.out.cell; have hf15 := Hr15.out.frozen; have Hg15 : Hid (∀ k, rowOf (.slice p15 N1 c15) = some k → w.heap.size + 2 ≤ k ∧ k ≠ gr) := Lib.hid (fun k hk => by rcases hn15 k hk with e | e; (· have := Option.some.inj e; omega); (· omega)); clear ho15 hg15 hn15 hT15)
      | (refine rgn_appendEn rfl (.tmp 65) (.tmp 67) rfl w.heap.size D (.slice (some ⟨w11.heap.size, 0, none⟩) 1 1) [⟨xk, xh, xf, xd, xg, xb, xc, xr⟩] rfl HOA.out p11 F.length c11 F rfl HSA.out (by simp; omega) (by simp; omega) ?_; intro v15 w15 ho15 hg15 hn15; have hT15 := Touch.of_row hg15; rw [rowOf_pos (by omega)] at hT15 hn15; have hz15 := hT15.size; simp only [List.cons_append, List.nil_append] at ho15; have HO15 := Lib.hid ho15; obtain ⟨p15, c15, hv15, _⟩ := ho15.slice EnS.still (S' := fun _ => True) (fun _ _ _ => trivial) (fun _ _ => trivial); rw [HN.out] at hv15; subst hv15; have HX15 := Lib.hid ((HXA12.out.pass (hT15.mono (fun k _ e => .inr (Option.some.inj e))) hsb).less (Y := fun j => j = w.heap.size + 1 ∨ j = gr) (fun j e => .inl e)); have Hr15 := Lib.hid (hT15.blk HrA12.out (fun e => by have := Option.some.inj e; omega)); have Hs15 := Lib.hid (HsA12.out.touch hT15 (fun e => by have := Option.some.inj e; omega) (fun e => by have := Option.some.inj e; omega) (fun i hi _ e => by have := Option.some.inj e; omega)); have hr15 := Hr15.out.cell; have hf15 := Hr15.out.frozen; have Hg15 : Hid (∀ k, rowOf (.slice p15 N1 c15) = some k → w.heap.size + 2 ≤ k ∧ k ≠ gr) := Lib.hid (fun k hk => by rcases hn15 k hk with e | e; (· have := Option.some.inj e; omega); (· simp at e; omega)); clear ho15 hg15 hn15 hT15)
      | (refine rgn_call rfl 40 _ _ HFA.out (by go_simp) ?_; rintro e w11 ⟨v11, rfl, ho11, hx11, hT11⟩; refine ⟨_, rfl, ?_⟩; have hz11 : w8.heap.size ≤ w11.heap.size := hT11.size; have he11 := (hT11.blk (HE8.out.below Hbd.out HE8.out.lt) (by omega)).cell; have hl11 := (Hl8.out.keep (Kept.all Hbd.out)).keep (Kept.touch hT11 (fun k _ hk => ⟨hk, ((HD.out k).1 hk).1.2⟩)); have halA : Below w11.heap.size w11 (w11.alloc (.cells #[.int .i64 xk, .bool xh, .string xf, .string xd, .slice qg xg.length dg, .slice qb xb.length db, .slice qc xc.length dc, .slice qr xr.length dr] 52)) := (Below.refl _ _).alloc (Nat.le_refl _) _; have hzA : (w11.alloc (.cells #[.int .i64 xk, .bool xh, .string xf, .string xd, .slice qg xg.length dg, .slice qb xb.length db, .slice qc xc.length dc, .slice qr xr.length dr] 52)).heap.size = w11.heap.size + 1 := World.size_alloc _ _; have HXA12 := Lib.hid (hx11.grab (Y := fun j => (j = w.heap.size + 1 ∨ j = gr) ∨ j = w11.heap.size) halA Hn.out.2.2 (fun j e => e.imp id (fun e => ⟨by omega, by omega⟩))); have HrA12 := Lib.hid ((hT11.blk (Hr8.out.below Hbd.out Hr8.out.lt) (by omega)).below halA (by omega)); have HsA12 := Lib.hid (((Hs8.out.below Hbd.out).touch hT11 (by omega) (by omega) (fun i _ hi e => hi e)).below halA); have HOA : Hid (OwnEn w.heap.size D (w11.alloc (.cells #[.int .i64 xk, .bool xh, .string xf, .string xd, .slice qg xg.length dg, .slice qb xb.length db, .slice qc xc.length dc, .slice qr xr.length dr] 52)) (.slice (some ⟨w11.heap.size, 0, none⟩) 1 1) [⟨xk, xh, xf, xd, xg, xb, xc, xr⟩]) := Lib.hid ⟨[enCells ⟨xk, xh, xf, xd, xg, xb, xc, xr⟩ ⟨qg, dg, qb, db, qc, dc, qr, dr⟩], by simpa [enCells] using OwnR.new w.heap.size 52 8 w11 1 #[.int .i64 xk, .bool xh, .string xf, .string xd, .slice qg xg.length dg, .slice qb xb.length db, .slice qc xc.length dc, .slice qr xr.length dr] (by omega) (by simp [maxLen]) rfl (by omega), ⟨⟨rfl, ⟨qg, dg, qb, db, qc, dc, qr, dr⟩, rfl, (hl11.keep (Kept.mono w11 (fun k hk h => ⟨h, by rw [rowOf_pos (by omega)]; intro e; have := Option.some.inj e; omega⟩))).keep (Kept.all halA)⟩, trivial⟩⟩; have hrw11 := ho11.row; obtain ⟨p11, c11, hv11, hs11⟩ := ho11.slice EnS.still (S' := fun k => D k ∧ rowOf (.slice (some ⟨w11.heap.size, 0, none⟩) 1 1) ≠ some k) (fun k hk h => ⟨h, by rw [rowOf_pos (by omega)]; intro e; have := Option.some.inj e; omega⟩) (fun k hk => by have := hrw11 k hk; exact ⟨HDf.out k (by omega) (by omega), by rw [rowOf_pos (by omega)]; intro e; have := Option.some.inj e; omega⟩); subst hv11; have HSA := Lib.hid (hs11.below EnS.still halA); have hgr11 : gr < w11.heap.size := (by omega); clear hzA ho11 hx11 hT11 hrw11 hs11 hl11 halA)
      | (refine rgn_call rfl 40 _ _ HFB.out (by go_simp) ?_; rintro e w11 ⟨v11, rfl, ho11, hx11, hT11⟩; refine ⟨_, rfl, ?_⟩; have hz11 := hT11.size; rw [HzB.out] at hz11; have HXB11 := Lib.hid hx11; have HrB11 := Lib.hid (hT11.blk (Hr8.out.below HbB.out Hr8.out.lt) (by omega)); have HsB11 := Lib.hid ((Hs8.out.below HbB.out).touch hT11 (by omega) (by omega) (fun i _ hi e => hi e)); have HOB : Hid (OwnEn w.heap.size D w11 (.slice (some ⟨w8.heap.size, 0, none⟩) 1 1) [⟨xk, xh, xf, xd, xg, xb, xc, xr⟩]) := Lib.hid (OwnS.touch (S := D) EnS.still (⟨[enCells ⟨xk, xh, xf, xd, xg, xb, xc, xr⟩ ⟨qg, dg, qb, db, qc, dc, qr, dr⟩], by simpa [enCells] using OwnR.new w.heap.size 52 8 w8.drew 1 #[.int .i64 xk, .bool xh, .string xf, .string xd, .slice qg xg.length dg, .slice qb xb.length db, .slice qc xc.length dc, .slice qr xr.length dr] (by omega) (by simp [maxLen]) rfl (by show w.heap.size ≤ w8.heap.size; omega), ⟨⟨rfl, ⟨qg, dg, qb, db, qc, dc, qr, dr⟩, rfl, ((Hl8.out.keep (Kept.all Hbd.out)).keep (Kept.mono w8.drew (fun k hk h => ⟨h, by rw [rowOf_pos (by omega)]; intro e; have hk' : k < w8.heap.size := hk; have := Option.some.inj e; omega⟩))).keep (Kept.all ((Below.refl _ _).alloc (Nat.le_refl _) _))⟩, trivial⟩⟩ : OwnEn w.heap.size D (w8.drew.alloc (.cells #[.int .i64 xk, .bool xh, .string xf, .string xd, .slice qg xg.length dg, .slice qb xb.length db, .slice qc xc.length dc, .slice qr xr.length dr] 52)) (.slice (some ⟨w8.heap.size, 0, none⟩) 1 1) [⟨xk, xh, xf, xd, xg, xb, xc, xr⟩]) hT11 (fun k hk e => by rw [rowOf_pos (by omega)] at hk; have := Option.some.inj hk; omega) (fun k _ hk _ => ⟨hk, ((HD.out k).1 hk).1.2⟩)); have hrw11 := ho11.row; obtain ⟨p11, c11, hv11, hs11⟩ := ho11.slice EnS.still (S' := fun k => D k ∧ rowOf (.slice (some ⟨w8.heap.size, 0, none⟩) 1 1) ≠ some k) (fun k hk h => ⟨h.1, by rw [rowOf_pos (by omega)]; intro e; exact h.2 (Option.some.inj e).symm⟩) (fun k hk => by have := hrw11 k hk; exact ⟨HDf.out k (by omega) (by omega), by rw [rowOf_pos (by omega)]; intro e; have := Option.some.inj e; omega⟩); subst hv11; have HSB := Lib.hid hs11; clear ho11 hx11 hT11 hrw11 hs11))
    all_goals
      have hT16 : Touch (fun i => i = gr) w15 (w15.setCell ⟨gr, 9, none⟩ (.slice p15 N1 c15)) := (Touch.refl (fun i => i = gr) _).setCell (x := ⟨gr, 9, none⟩) (fun _ => rfl) _
      have hr16 := Hr15.out.set_ 9 (.slice p15 N1 c15)
      simp only [List.setIfInBounds_toArray, List.set_cons_succ, List.set_cons_zero] at hr16
      have HX16 := Lib.hid (HX15.out.pass (hT16.mono (fun k _ e => .inr e)) hsb)
      have Hs16 := Lib.hid (Hs15.out.touch hT16 (by omega) (by omega) (fun i hi _ e => by omega))
      have hen : SliceS 8 EnS (fun j => gG E v sb w j ∧ j ≠ w.heap.size + 1) (w15.setCell ⟨gr, 9, none⟩ (.slice p15 N1 c15)) [.slice p15 N1 c15] (⟨xk, xh, xf, xd, xg, xb, xc, xr⟩ :: F) := by
        have ho := OwnS.touch (S' := D) EnS.still HO15.out hT16 (fun k hk => (Hg15.out k hk).2) (fun k _ hk _ => ⟨hk, ((HD.out k).1 hk).2.2⟩)
        obtain ⟨pz, cz, ez, hz⟩ := ho.slice EnS.still (S' := fun j => gG E v sb w j ∧ j ≠ w.heap.size + 1) (fun k _ hk => ⟨((HD.out k).1 hk).1, ((HD.out k).1 hk).2.1⟩) (fun k hk => ⟨⟨.inr (.inr (by have := Hg15.out k hk; omega)), by have := Hg15.out k hk; omega⟩, by have := Hg15.out k hk; omega⟩)
        rw [← ez] at hz
        exact hz
      have Hl : Hid (ResL (fun j => gG E v sb w j ∧ j ≠ w.heap.size + 1) (w15.setCell ⟨gr, 9, none⟩ (.slice p15 N1 c15)) ⟨!xh, ⟨xk, xh, xf, xd, xg, xb, xc, xr⟩, ⟨xk, xh, xf, xd, xg, xb, xc, xr⟩ :: F, [], [], 0⟩ ⟨⟨pg, cg, pb, cb, pc, cc', pr, cr⟩, p15, c15, none, 0, none, 0⟩) := Lib.hid ⟨Hs16.out.l.keep (Kept.mono (S' := fun j => gG E v sb w j ∧ j ≠ w.heap.size + 1) _ (fun k _ hk => ⟨⟨hk.1.elim (fun e => .inl ⟨e, hk.2.1⟩) (fun e => .inr (.inl e)), hk.2.2⟩, by omega⟩)), by
        dsimp only
        rw [HN.out]
        exact hen, SliceS.empty _ _ (by simp [maxLen]), SliceS.empty _ _ (by simp [maxLen])⟩
      clear hT16 hen HO15 Hr15 HX15 Hs15 hr15 hf15 hr8 hf8 Hg15 he8
      generalize w15.setCell ⟨gr, 9, none⟩ (.slice p15 N1 c15) = w16 at *
      have hc16 := hr16.cell
      have hb16 := Hs16.out.bo.cell
      have hf16 := Hs16.out.bo.frozen
      unfold resZ at hb16
      have hend := got_put' (G := fun j => gG E v sb w j ∧ j ≠ w.heap.size + 1) _ _ Hs16.out.bo HX16.out (.inl rfl) Hl.out (fun _ _ e => e) hsb Hn.out.1 Hn.out.2.1
      go_wp2_with fail
      obtain ⟨hK, hM, hC⟩ := hend
      have hcf := hC.cell
      unfold setRes resCells at hcf
      unfold setRes at hK hM
      (try dsimp only [List.length_nil] at hK)
      (try dsimp only [List.length_nil] at hM)
      (try dsimp only [List.length_nil] at hcf)
      rw [HN.out] at hK hM hcf
      have HK := Lib.hid hK
      have HM := Lib.hid hM
      clear hK hM hC hc16 hb16 hf16 hr16
      refine bodyPost_ret (v := .tuple #[.agg #[.bool (!xh), .int .i64 xk, .bool xh, .string xf, .string xd, .slice pg xg.length cg, .slice pb xb.length cb, .slice pc xc.length cc', .slice pr xr.length cr, .slice p15 N1 c15, .slice none 0 0, .slice none 0 0, .int .u8 0], .int .i64 0]) (by simp [results, Try.results41, go_sem, hcf]) rfl ?_
      unfold GotR
      (try dsimp only)
      rw [Hg.out, show readyV bk bs = 0 from (by simp [readyV, Hz.out])]
      exact ⟨⟨⟨pg, cg, pb, cb, pc, cc', pr, cr⟩, p15, c15, none, 0, none, 0⟩, by
        have hN := HN.out
        dsimp only [resArg, resCells]
        rw [hN]
        rfl, HK.out, HM.out⟩

end Go.Proofs.Ytjfhpafaopeogaa
