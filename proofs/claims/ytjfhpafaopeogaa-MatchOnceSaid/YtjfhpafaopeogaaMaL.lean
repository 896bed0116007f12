/-
  What becomes of a reply: Got, of the document, where it fails what stands first (layer 22).
-/
import Derived.Test.YtjfhpafaopeogaaMaI
namespace Go.Proofs.Ytjfhpafaopeogaa
open Go.RowKit
set_option linter.unusedVariables false
set_option linter.unusedSimpArgs false

set_option maxRecDepth 100000 in
set_option maxHeartbeats 10000000 in
theorem rgot_fails (B sb : Nat) (E : Nat → Prop) (x : EnV) (T : List EnV) (most : Nat) (v : Value) (b : BkV) (w : World) (h : QO 88 B w sb E (x :: T) most v) (hB : B ≤ w.heap.size) (hb0 : 0 ≤ b.kind) (hb1 : b.kind < 256) (ht : takesB x.kind b.kind = true) (hf : failsB x.kind b.kind = true) (he : endsB x.kind b.kind = false) :
    Calls Try.prog 41 #[.pointer (some ⟨sb, 0, none⟩), bkArg b] w (GotR 88 B sb E (x :: T) most v b.kind b.status w) := by
  have hsb := h.blk.lt
  have Hn := Lib.hid (And.intro h.noE (And.intro h.no (fun j hj => (h.own.row j hj).2 : ∀ j, rowOf v = some j → j < w.heap.size)))
  obtain ⟨W, hW⟩ : ∃ W, W = (w.alloc (.cells (bkCl b) 69)).alloc (.cells resZ 82) := ⟨_, rfl⟩
  obtain ⟨b0, o0, cv, a, hv, hq, ⟨c0, c1, c2, c3, c4, c5, c6, c7⟩, hs, hx, hz, hbl⟩ := rgot_start h hW
  have Hs1 := Lib.hid hs
  have HX1 := Lib.hid hx
  have Hg : Hid (gotV (x :: T) b.kind b.status = (insteadV ⟨!x.hide, x, (T.drop (ahead isSync T)).take (ahead notSyn (T.drop (ahead isSync T))), [x], T.take (ahead isSync T), readyV b.kind b.status⟩ b.kind, 0, (T.drop (ahead isSync T)).drop (ahead notSyn (T.drop (ahead isSync T))))) := Lib.hid (by simp [gotV, ht, hf])
  have h69 := fails_kind hf
  have Htq : Hid (∀ r, Calls Try.prog 45 #[.int .i64 x.kind, .int .u8 b.kind] (W.drewN r) fun e w' => e = .returned (.bool true) ∧ w' = W.drewN r) := Lib.hid (fun r => by
    have := takesR_any x.kind b.kind (W.drewN r) hb0 hb1
    rw [ht] at this
    exact this.mono (fun e w' h => ⟨h.1, h.2.symm⟩))
  have Hen := Lib.hid (fun w0 => endsR_any x.kind b.kind w0 hb0 hb1)
  have Hfl := Lib.hid (fun w0 => failsR_any x.kind b.kind w0 hb0 hb1)
  have Hfa := Lib.hid (fun k w0 => failsR_any k b.kind w0 hb0 hb1)
  rw [hf] at Hfl
  rw [he] at Hen
  have Hsm := Lib.hid (And.intro h.len h.lim)
  have hl0 : ((((x :: T).length : Nat) : Int) == 0) = false := by simp; omega
  have hl1 : (0 : Int) < ((x :: T).length : Int) := by simp
  have hTl : T.length ≤ 4096 := by have := h.len; have := h.lim; simp at *; omega
  generalize (x :: T).length = N at *
  have HW := Lib.hid hW
  have Hv := Lib.hid hv
  have Hbl := Lib.hid hbl
  clear h hs hx hW hv ht hf he hbl
  obtain ⟨bk, bs, bt, bn, bv, n, m, oa, oln, oc, ca, cln, cc, ra, rl, rc, fa, fl, fc⟩ := b
  obtain ⟨xk, xh, xf, xd, xg, xb, xc, xr⟩ := x
  obtain ⟨pg, cg, pb, cb, pc, cc', pr, cr⟩ := a
  have hk := Hs1.out.bb.cell
  unfold bkCl at HW hk
  unfold resZ at HW
  unfold bkArg
  dsimp only at *
  subst h69
  go_enter Try.func41, Try.ntmps41
  go_upto_region 1 with (fail)
  rw [← HW.out]
  clear HW
  go_quiet ((go_at_call 45; exact Calls.quiet_of_same (Htq.out _)))
  go_upto_region 3 with (fail)
  clear Htq
  have hz1 : (W.drewN nq).heap.size = w.heap.size + 2 := hz
  have Hs2 := Lib.hid (Hs1.out.below (bel_drewN W nq _ (Nat.le_refl _)))
  have HX2 := Lib.hid (HX1.out.still (bel_drewN W nq _ (Nat.le_refl _)) Hn.out.2.2)
  have hq2 : ∀ i, (W.drewN nq).cell? ⟨sb, i, none⟩ = (#[.slice (some ⟨b0, o0, none⟩) N cv, .int .i64 (most : Int)] : Array Value)[i]? := hq
  have d0 : (W.drewN nq).cell? ⟨b0, o0, none⟩ = _ := c0
  have d1 : (W.drewN nq).cell? ⟨b0, o0 + 1, none⟩ = _ := c1
  have d2 : (W.drewN nq).cell? ⟨b0, o0 + 2, none⟩ = _ := c2
  have d3 : (W.drewN nq).cell? ⟨b0, o0 + 3, none⟩ = _ := c3
  have d4 : (W.drewN nq).cell? ⟨b0, o0 + 4, none⟩ = _ := c4
  have d5 : (W.drewN nq).cell? ⟨b0, o0 + 5, none⟩ = _ := c5
  have d6 : (W.drewN nq).cell? ⟨b0, o0 + 6, none⟩ = _ := c6
  have d7 : (W.drewN nq).cell? ⟨b0, o0 + 7, none⟩ = _ := c7
  clear hq hk c0 c1 c2 c3 c4 c5 c6 c7 Hs1 HX1 hz
  generalize W.drewN nq = w2 at *
  have hsb2 : sb < w2.heap.size := by omega
  have hbl2 : b0 < w2.heap.size := by have := Hbl.out; omega
  have hN0 : 0 < N := by omega
  have halz : Below w2.heap.size w2 (w2.alloc (.cells #[.bool false, .int .i64 0, .bool false, .string ⟨#[]⟩, .string ⟨#[]⟩, .slice none 0 0, .slice none 0 0, .slice none 0 0, .slice none 0 0, .slice none 0 0, .slice none 0 0, .slice none 0 0, .int .u8 0] 82)) := (Below.refl _ _).alloc (Nat.le_refl _) _
  have qz : ∀ i, (w2.alloc (.cells #[.bool false, .int .i64 0, .bool false, .string ⟨#[]⟩, .string ⟨#[]⟩, .slice none 0 0, .slice none 0 0, .slice none 0 0, .slice none 0 0, .slice none 0 0, .slice none 0 0, .slice none 0 0, .int .u8 0] 82)).cell? ⟨sb, i, none⟩ = (#[.slice (some ⟨b0, o0, none⟩) N cv, .int .i64 (most : Int)] : Array Value)[i]? := fun i => (halz.cell (p := ⟨sb, i, none⟩) hsb2).trans (hq2 i)
  have z0 := (halz.cell (p := ⟨b0, o0, none⟩) hbl2).trans d0
  have z1 := (halz.cell (p := ⟨b0, o0 + 1, none⟩) hbl2).trans d1
  have z2 := (halz.cell (p := ⟨b0, o0 + 2, none⟩) hbl2).trans d2
  have z3 := (halz.cell (p := ⟨b0, o0 + 3, none⟩) hbl2).trans d3
  have z4 := (halz.cell (p := ⟨b0, o0 + 4, none⟩) hbl2).trans d4
  have z5 := (halz.cell (p := ⟨b0, o0 + 5, none⟩) hbl2).trans d5
  have z6 := (halz.cell (p := ⟨b0, o0 + 6, none⟩) hbl2).trans d6
  have z7 := (halz.cell (p := ⟨b0, o0 + 7, none⟩) hbl2).trans d7
  clear halz
  go_region
  clear qz z0 z1 z2 z3 z4 z5 z6 z7 hq2 d0 d1 d2 d3 d4 d5 d6 d7
  have hal4 : Below w2.heap.size w2 (w2.alloc (.cells #[.bool (!xh), .int .i64 xk, .bool xh, .string xf, .string xd, .slice pg xg.length cg, .slice pb xb.length cb, .slice pc xc.length cc', .slice pr xr.length cr, .slice none 0 0, .slice none 0 0, .slice none 0 0, .int .u8 0] 82)).drew := ((Below.refl _ _).alloc (Nat.le_refl _) _).drew
  have hr4 : Blk (w2.alloc (.cells #[.bool (!xh), .int .i64 xk, .bool xh, .string xf, .string xd, .slice pg xg.length cg, .slice pb xb.length cb, .slice pc xc.length cc', .slice pr xr.length cr, .slice none 0 0, .slice none 0 0, .slice none 0 0, .int .u8 0] 82)).drew (w.heap.size + 2) 82 #[.bool (!xh), .int .i64 xk, .bool xh, .string xf, .string xd, .slice pg xg.length cg, .slice pb xb.length cb, .slice pc xc.length cc', .slice pr xr.length cr, .slice none 0 0, .slice none 0 0, .slice none 0 0, .int .u8 0] := by
    have := Blk.new w2 82 #[.bool (!xh), .int .i64 xk, .bool xh, .string xf, .string xd, .slice pg xg.length cg, .slice pb xb.length cb, .slice pc xc.length cc', .slice pr xr.length cr, .slice none 0 0, .slice none 0 0, .slice none 0 0, .int .u8 0]
    rw [hz1] at this
    exact this
  have HX4 := Lib.hid (HX2.out.grab (Y := fun j => j = w.heap.size + 1 ∨ j = w.heap.size + 2) hal4 Hn.out.2.2 (fun j e => e.imp id (fun e => ⟨by omega, by rw [e]; exact hr4.lt⟩)))
  have hs4 := Hs2.out.below hal4
  have Hs4 := Lib.hid hs4
  have Hr4 := Lib.hid hr4
  have hk4 := hs4.bb.cell
  unfold bkCl at hk4
  dsimp only at hk4
  clear hal4 hr4 hs4 Hs2 HX2
  generalize (w2.alloc (.cells #[.bool (!xh), .int .i64 xk, .bool xh, .string xf, .string xd, .slice pg xg.length cg, .slice pb xb.length cb, .slice pc xc.length cc', .slice pr xr.length cr, .slice none 0 0, .slice none 0 0, .slice none 0 0, .int .u8 0] 82)).drew = w4 at *
  have hgr1 : w.heap.size + 1 < w.heap.size + 2 := by omega
  clear hz1 hsb2 hbl2
  generalize w.heap.size + 2 = gr at *
  have hz' : ((69 : Int) == 90) = false := by decide
  have Hr5 := Hr4
  have HX5 := HX4
  have Hs5 := Hs4
  clear Hs4 HX4 Hr4
  obtain ⟨w5, rfl⟩ : ∃ w5, w5 = w4 := ⟨_, rfl⟩
  go_upto_region 6 with (fail)
  clear hk4
  have hc5 := Hr5.out.cell
  have hf5 := Hr5.out.frozen
  have hk5 := Hs5.out.bb.cell
  have hb5 := Hs5.out.bo.cell
  have hg5 := Hs5.out.bo.frozen
  unfold bkCl at hk5
  unfold resZ at hb5
  dsimp only at hk5
  have hhX := HX5.out.size
  obtain ⟨D, hD⟩ : ∃ D : Nat → Prop, D = (fun j => gG E v sb w j ∧ j ≠ w.heap.size + 1 ∧ j ≠ gr) := ⟨_, rfl⟩
  have HD := Lib.hid (show ∀ j, D j ↔ (gG E v sb w j ∧ j ≠ w.heap.size + 1 ∧ j ≠ gr) from fun j => by rw [hD])
  clear hD
  have HDf : Hid (∀ j, w.heap.size + 2 ≤ j → j ≠ gr → D j) := Lib.hid (fun j h1 h2 => (HD.out j).2 ⟨⟨.inr (.inr (by omega)), by omega⟩, by omega, h2⟩)
  have HP : Hid (Calls Try.prog 77 #[.pointer (some ⟨sb, 0, none⟩)] w5 fun e w' => ∃ a, e = .returned (.tuple #[enArg ⟨xk, xh, xf, xd, xg, xb, xc, xr⟩ a, .bool true]) ∧ EnL D w' ⟨xk, xh, xf, xd, xg, xb, xc, xr⟩ a ∧ OpX 88 B sb E T most v w (fun j => j = w.heap.size + 1 ∨ j = gr) w' ∧ Touch (fun i => i = sb) w5 w') := Lib.hid (by
    obtain ⟨E7, v7, hq7, hE7, hgo7⟩ := HX5.out.open Hn.out.2.2
    refine (rPop_strong B sb E7 ⟨xk, xh, xf, xd, xg, xb, xc, xr⟩ T most v7 w5 hq7 (by omega)).mono ?_
    rintro e w8 ⟨a8, rfl, hl8, hop8⟩
    exact ⟨a8, rfl, hl8.keep (Kept.mono _ (fun j _ hj => (HD.out j).2 ⟨⟨(hE7 j hj.1).2.2, hj.2.2⟩, fun e => (hE7 j hj.1).2.1 (.inl e), fun e => (hE7 j hj.1).2.1 (.inr e)⟩)), hgo7 _ _ (OpM.ofN hop8), opN_touch hop8⟩)
  have HEF : Hid True := Lib.hid trivial
  go_upto_region 11 with (first | (go_at_call 78; refine (Hen.out _).mono ?_; rintro e w6 ⟨rfl, rfl⟩) | (go_at_call 33; refine (Hfl.out _).mono ?_; rintro e w6 ⟨rfl, rfl⟩) | (go_at_call 77; refine HP.out.mono ?_; rintro e w7 ⟨⟨qg, dg, qb, db, qc, dc, qr, dr⟩, rfl, hl7, hx7, hT7⟩; unfold enArg; dsimp only at hl7 ⊢; have hz7 := hT7.size; have HX7 := Lib.hid hx7; have Hl7 := Lib.hid hl7; have Hs7 := Lib.hid (Hs5.out.touch hT7 (by omega) (by omega) (fun i _ hi e => hi e)); have Hr7 := Lib.hid (hT7.blk Hr5.out (by omega)); clear hl7 hx7 hT7 hc5 hf5 hk5 hb5 hg5))
  have hal8 : Below w7.heap.size w7 (w7.alloc (.cells #[.int .i64 xk, .bool xh, .string xf, .string xd, .slice qg xg.length dg, .slice qb xb.length db, .slice qc xc.length dc, .slice qr xr.length dr] 52)) := (Below.refl _ _).alloc (Nat.le_refl _) _
  have HE8 : Hid (Blk (w7.alloc (.cells #[.int .i64 xk, .bool xh, .string xf, .string xd, .slice qg xg.length dg, .slice qb xb.length db, .slice qc xc.length dc, .slice qr xr.length dr] 52)) w7.heap.size 52 #[.int .i64 xk, .bool xh, .string xf, .string xd, .slice qg xg.length dg, .slice qb xb.length db, .slice qc xc.length dc, .slice qr xr.length dr]) := Lib.hid (Blk.new _ _ _)
  have HX8 := Lib.hid (HX7.out.grab (Y := fun j => (j = w.heap.size + 1 ∨ j = gr) ∨ j = w7.heap.size) hal8 Hn.out.2.2 (fun j e => e.imp id (fun e => ⟨by omega, by rw [e]; simp⟩)))
  have Hs8 := Lib.hid (Hs7.out.below hal8)
  have Hr8 := Lib.hid (Hr7.out.below hal8 Hr7.out.lt)
  have Hl8 := Lib.hid (Hl7.out.keep (Kept.all hal8))
  have hlr7 := Hr7.out.lt
  have hlt8 : w7.heap.size < (w7.alloc (.cells #[.int .i64 xk, .bool xh, .string xf, .string xd, .slice qg xg.length dg, .slice qb xb.length db, .slice qc xc.length dc, .slice qr xr.length dr] 52)).heap.size := by simp
  clear hal8 HX7 Hs7 Hr7 Hl7 HP
  generalize w7.alloc (.cells #[.int .i64 xk, .bool xh, .string xf, .string xd, .slice qg xg.length dg, .slice qb xb.length db, .slice qc xc.length dc, .slice qr xr.length dr] 52) = w8 at *
  have hge : gr < w7.heap.size := hlr7
  have hgs : sb < w7.heap.size := by omega
  clear hlr7 hz7
  generalize w7.heap.size = ge at *
  have he8 := HE8.out.cell
  have hr8 := Hr8.out.cell
  have hf8 := Hr8.out.frozen
  have hl8 := Hr8.out.lt
  go_upto_region 12 with (fail)
  have hT9 : Touch (fun i => i = gr) w8 (w8.setCell ⟨gr, 10, none⟩ (.slice (some ⟨w8.heap.size, 0, none⟩) 1 1)) := (Touch.refl (fun i => i = gr) _).setCell (x := ⟨gr, 10, none⟩) (fun _ => rfl) _
  have hr9 := Hr8.out.set_ 10 (.slice (some ⟨w8.heap.size, 0, none⟩) 1 1)
  simp only [List.setIfInBounds_toArray, List.set_cons_succ, List.set_cons_zero] at hr9
  have Hr9 := Lib.hid hr9
  have HX9 := Lib.hid (HX8.out.pass (hT9.mono (fun k _ e => .inl (.inr e))) hsb)
  have Hs9 := Lib.hid (Hs8.out.touch hT9 (by omega) (by omega) (fun i hi _ e => by omega))
  have HE9 := Lib.hid (hT9.blk HE8.out (by omega))
  have Hl9 := Lib.hid (Hl8.out.keep (Kept.touch hT9 (fun k _ hk => ⟨hk, ((HD.out k).1 hk).2.2⟩)))
  have hz9 : (w8.setCell ⟨gr, 10, none⟩ (.slice (some ⟨w8.heap.size, 0, none⟩) 1 1)).heap.size = w8.heap.size := size_set _ _ _
  clear hr8 hf8 hT9 hr9 he8 HX8 Hr8 Hs8 HE8 Hl8
  generalize w8.setCell ⟨gr, 10, none⟩ (.slice (some ⟨w8.heap.size, 0, none⟩) 1 1) = w9 at *
  have hz9' := hz9.symm
  rw [hz9'] at Hr9 ⊢
  clear hz9'
  have hal9 : Below w9.heap.size w9 (w9.alloc (.cells #[.int .i64 xk, .bool xh, .string xf, .string xd, .slice qg xg.length dg, .slice qb xb.length db, .slice qc xc.length dc, .slice qr xr.length dr] 52)) := (Below.refl _ _).alloc (Nat.le_refl _) _
  have Hr10 := Lib.hid (Hr9.out.below hal9 Hr9.out.lt)
  have HX10 := Lib.hid (HX9.out.still hal9 Hn.out.2.2)
  have Hs10 := Lib.hid (Hs9.out.below hal9)
  have HE10 := Lib.hid (HE9.out.below hal9 HE9.out.lt)
  have Hfd10 : Hid (SliceS 8 EnS D (w9.alloc (.cells #[.int .i64 xk, .bool xh, .string xf, .string xd, .slice qg xg.length dg, .slice qb xb.length db, .slice qc xc.length dc, .slice qr xr.length dr] 52)) [.slice (some ⟨w9.heap.size, 0, none⟩) 1 1] [⟨xk, xh, xf, xd, xg, xb, xc, xr⟩]) := Lib.hid
      (SliceS.new1 (S := D) EnS.still w9 52 #[.int .i64 xk, .bool xh, .string xf, .string xd, .slice qg xg.length dg, .slice qb xb.length db, .slice qc xc.length dc, .slice qr xr.length dr] ⟨xk, xh, xf, xd, xg, xb, xc, xr⟩ ⟨⟨qg, dg, qb, db, qc, dc, qr, dr⟩, rfl, Hl9.out⟩ rfl (fun k _ hk => hk) (HDf.out _ (by omega) (by omega)))
  have hz10 : (w9.alloc (.cells #[.int .i64 xk, .bool xh, .string xf, .string xd, .slice qg xg.length dg, .slice qb xb.length db, .slice qc xc.length dc, .slice qr xr.length dr] 52)).heap.size = w9.heap.size + 1 := World.size_alloc _ _
  clear hal9 Hr9 HX9 Hs9 HE9 Hl9
  generalize w9.alloc (.cells #[.int .i64 xk, .bool xh, .string xf, .string xd, .slice qg xg.length dg, .slice qb xb.length db, .slice qc xc.length dc, .slice qr xr.length dr] 52) = w10 at *
  generalize w9.heap.size = g9 at *
  have hg9 : gr < g9 := by omega
  have hg9' : ge < g9 := by omega
  have hz10' : g9 < w10.heap.size := by omega
  clear hz9 hl8 hz10
  have Hsk : Hid (Calls Try.prog 79 #[.pointer (some ⟨sb, 0, none⟩)] w10 fun e w' => ∃ p c, e = .returned (.slice p (ahead isSync T) c) ∧ SliceS 8 EnS (fun j => D j ∧ j ≠ ge) w' [.slice p (ahead isSync T) c] (T.take (ahead isSync T)) ∧ OpX 88 B sb E (T.drop (ahead isSync T)) most v w (fun j => (j = w.heap.size + 1 ∨ j = gr) ∨ j = ge) w' ∧ Touch (fun i => i = sb) w10 w') := Lib.hid (by
    obtain ⟨E7, v7, hq7, hE7, hgo7⟩ := HX10.out.open Hn.out.2.2
    refine (rSkip_strong B sb E7 T most v7 w10 hq7 (by omega)).mono ?_
    rintro e wS ⟨p, n', c', rfl, hl8, hop8⟩
    have hn' : n' = ahead isSync T := by
      have := hl8.len.1
      have h2 := ahead_le isSync T
      rw [List.length_take] at this
      omega
    rw [hn'] at hl8 ⊢
    refine ⟨p, c', rfl, hl8.weak EnS.still (fun j _ hj => ?_), hgo7 _ _ (OpM.ofN hop8), opN_touch hop8⟩
    rcases hj.1 with e | e
    · have h3 := hE7 j e.1
      exact ⟨(HD.out j).2 ⟨⟨h3.2.2, hj.2⟩, fun e' => h3.2.1 (.inl (.inl e')), fun e' => h3.2.1 (.inl (.inr e'))⟩, fun e' => h3.2.1 (.inr e')⟩
    · exact ⟨HDf.out j (by omega) (by omega), by omega⟩)
  have hkl := ahead_le isSync T
  have Hkt : Hid ((T.take (ahead isSync T)).length = ahead isSync T) := Lib.hid (by rw [List.length_take]; omega)
  generalize hM : T.drop (ahead isSync T) = M at *
  have hMl : M.length ≤ 4096 := by rw [← hM, List.length_drop]; omega
  generalize hDr : T.take (ahead isSync T) = Dr at *
  generalize ahead isSync T = kk at *
  clear hM hDr hkl
  have hr10 := Hr10.out.cell
  have hf10 := Hr10.out.frozen
  go_upto_region 13 with (go_at_call 79; refine Hsk.out.mono ?_; rintro e w11 ⟨p11, c11, rfl, hd11, hx11, hT11⟩; have hz11 := hT11.size; have HX11 := Lib.hid (hx11.less (Y := fun j => j = w.heap.size + 1 ∨ j = gr) (fun j e => .inl e)); have Hd11 := Lib.hid hd11; have Hs11 := Lib.hid (Hs10.out.touch hT11 (by omega) (by omega) (fun i _ hi e => hi e)); have Hr11 := Lib.hid (hT11.blk Hr10.out (by omega)); have HE11 := Lib.hid (hT11.blk HE10.out (by omega)); have Hfd11 := Lib.hid ((SliceS.still EnS.still) _ _ _ _ _ _ Hfd10.out (Kept.touch hT11 (fun k _ hk => ⟨hk, ((HD.out k).1 hk).1.2⟩))); have hr11 := Hr11.out.cell; have hf11 := Hr11.out.frozen; clear hx11 hd11 hT11 hr10 hf10)
  have hT12 : Touch (fun i => i = gr) w11 (w11.setCell ⟨gr, 11, none⟩ (.slice p11 kk c11)) := (Touch.refl (fun i => i = gr) _).setCell (x := ⟨gr, 11, none⟩) (fun _ => rfl) _
  have hr12 := Hr11.out.set_ 11 (.slice p11 kk c11)
  simp only [List.setIfInBounds_toArray, List.set_cons_succ, List.set_cons_zero] at hr12
  have Hr12 : Hid (Blk (w11.setCell ⟨gr, 11, none⟩ (.slice p11 kk c11)) gr 82 (resCells ⟨!xh, ⟨xk, xh, xf, xd, xg, xb, xc, xr⟩, [], [⟨xk, xh, xf, xd, xg, xb, xc, xr⟩], Dr, 0⟩ ⟨⟨pg, cg, pb, cb, pc, cc', pr, cr⟩, none, 0, some ⟨g9, 0, none⟩, 1, p11, c11⟩)) := Lib.hid (by
    unfold resCells
    dsimp only
    rw [Hkt.out]
    exact hr12)
  have Hc12 := Lib.hid hr12
  have HX12 := Lib.hid (HX11.out.pass (hT12.mono (fun k _ e => .inr e)) hsb)
  have Hs12 := Lib.hid (Hs11.out.touch hT12 (by omega) (by omega) (fun i hi _ e => by omega))
  have HE12 := Lib.hid (hT12.blk HE11.out (by omega))
  have hKD : ∀ k, k < w11.heap.size → D k → D k ∧ ¬ k = gr := fun k _ hk => ⟨hk, ((HD.out k).1 hk).2.2⟩
  have Hfd12 := Lib.hid ((SliceS.still EnS.still) _ _ _ _ _ _ Hfd11.out (Kept.touch hT12 hKD))
  have Hd12 := Lib.hid ((SliceS.still EnS.still) _ _ _ _ _ _ Hd11.out (Kept.touch (S' := D) hT12 (fun k h hk => hKD k h hk.1)))
  have hz12 : (w11.setCell ⟨gr, 11, none⟩ (.slice p11 kk c11)).heap.size = w11.heap.size := size_set _ _ _
  clear hT12 hr12 hKD hr11 hf11 Hr11 HX11 Hs11 Hfd11 Hd11 Hsk HX10 Hs10 Hr10 Hfd10 HE10 HE11
  generalize w11.setCell ⟨gr, 11, none⟩ (.slice p11 kk c11) = w12 at *
  have hz12' : g9 < w12.heap.size := by omega
  clear hz12 hz11
  have Hnm12 := Lib.hid (Hs12.out.l.keep (S' := D) (Kept.mono _ (fun k _ hk => (HD.out k).2 ⟨⟨hk.1.elim (fun e => .inl ⟨e, hk.2.1⟩) (fun e => .inr (.inl e)), hk.2.2⟩, by omega, by omega⟩)))
  have hrest := insteadV_rest ⟨!xh, ⟨xk, xh, xf, xd, xg, xb, xc, xr⟩, [], [⟨xk, xh, xf, xd, xg, xb, xc, xr⟩], Dr, 0⟩ 69
  have Hge : Hid (∀ F, insteadV ⟨!xh, ⟨xk, xh, xf, xd, xg, xb, xc, xr⟩, F, [⟨xk, xh, xf, xd, xg, xb, xc, xr⟩], Dr, 0⟩ 69 = ⟨(insteadV ⟨!xh, ⟨xk, xh, xf, xd, xg, xb, xc, xr⟩, [], [⟨xk, xh, xf, xd, xg, xb, xc, xr⟩], Dr, 0⟩ 69).shw, (insteadV ⟨!xh, ⟨xk, xh, xf, xd, xg, xb, xc, xr⟩, [], [⟨xk, xh, xf, xd, xg, xb, xc, xr⟩], Dr, 0⟩ 69).name, F, [⟨xk, xh, xf, xd, xg, xb, xc, xr⟩], Dr, 0⟩) := Lib.hid (fun F => insteadV_ended _ _ F [] _ _ _ _)
  have hi12 := HE12.out.cell
  have hc12 := Hc12.out.cell
  have hf12 := Hc12.out.frozen
  have hk12 := Hs12.out.bb.cell
  unfold bkCl at hk12
  dsimp only at hk12
  have hlt12 := Hc12.out.lt
  obtain ⟨r', hr'⟩ : ∃ r', insteadV ⟨!xh, ⟨xk, xh, xf, xd, xg, xb, xc, xr⟩, [], [⟨xk, xh, xf, xd, xg, xb, xc, xr⟩], Dr, 0⟩ 69 = r' := ⟨_, rfl⟩
  rw [hr'] at hrest
  have Hge2 : Hid (∀ F, insteadV ⟨!xh, ⟨xk, xh, xf, xd, xg, xb, xc, xr⟩, F, [⟨xk, xh, xf, xd, xg, xb, xc, xr⟩], Dr, 0⟩ 69 = ⟨r'.shw, r'.name, F, [⟨xk, xh, xf, xd, xg, xb, xc, xr⟩], Dr, 0⟩) := Lib.hid (fun F => by rw [← hr']; exact Hge.out F)
  have Hr' := Lib.hid hr'
  have Hrest := Lib.hid hrest
  clear hr' hrest Hge
  cases xh with
  | false =>
    go_quiet (fail)
    go_upto_region 15 with (fail)
    have hin : r' = ⟨!false, ⟨xk, false, xf, xd, xg, xb, xc, xr⟩, [], [⟨xk, false, xf, xd, xg, xb, xc, xr⟩], Dr, 0⟩ := by rw [← Hr'.out]; cases Dr <;> simp [insteadV]
    have hbd12 := bel_drewN w12 nq _ (Nat.le_refl _)
    have HU : Hid (∃ a', Blk (w12.drewN nq) gr 82 (resCells r' ⟨a', none, 0, some ⟨g9, 0, none⟩, 1, p11, c11⟩) ∧ EnL D (w12.drewN nq) r'.name a' ∧ Touch (fun i => i = gr) w12 (w12.drewN nq)) := Lib.hid ⟨_, by rw [hin]; exact Hr12.out.drewN nq, by rw [hin]; exact Hnm12.out.keep (Kept.all hbd12), Touch.of_below hbd12⟩
    clear hc12 hf12 hi12 hk12 hin hbd12
    generalize w12.drewN nq = w14 at *
    obtain ⟨a', hc14, hl14, hT14⟩ := HU.out
    obtain ⟨sg, fg, sb', fb, sc, fc', sr, fr⟩ := a'
    have HX14 := Lib.hid (HX12.out.pass (hT14.mono (fun k _ e => .inr e)) hsb)
    have Hs14 := Lib.hid (Hs12.out.touch hT14 (by omega) (by omega) (fun i hi _ e => by omega))
    have hKD : ∀ k, k < w12.heap.size → D k → D k ∧ ¬ k = gr := fun k _ hk => ⟨hk, ((HD.out k).1 hk).2.2⟩
    have Hfd14 := Lib.hid ((SliceS.still EnS.still) _ _ _ _ _ _ Hfd12.out (Kept.touch hT14 hKD))
    have Hd14 := Lib.hid ((SliceS.still EnS.still) _ _ _ _ _ _ Hd12.out (Kept.touch hT14 hKD))
    have hz14 := hT14.size
    have hrest := Hrest.out
    clear HU Hrest Hr' hT14 hKD Hfd12 Hd12 Hs12 HX12 Hr12 Hc12 HE12 Hnm12
    (try clear Hin)
    obtain ⟨sh', ⟨zk, zh, zf, zd, zg, zb, zc, zr⟩, en', fd', Dr', rd'⟩ := r'
    obtain ⟨h1, h2, h3, h4⟩ := hrest
    dsimp only at h1 h2 h3 h4
    subst h1 h2 h4
    rw [h3] at hc14
    have hr14 : Blk w14 gr 82 #[.bool sh', .int .i64 zk, .bool zh, .string zf, .string zd, .slice sg zg.length fg, .slice sb' zb.length fb, .slice sc zc.length fc', .slice sr zr.length fr, .slice none 0 0, .slice (some ⟨g9, 0, none⟩) 1 1, .slice p11 kk c11, .int .u8 0] := by
      unfold resCells at hc14
      dsimp only at hc14
      rw [Hkt.out] at hc14
      exact hc14
    have Hr14 := Lib.hid hr14
    have Hl14 := Lib.hid hl14
    clear hc14 hl14 h3
    have HFl : Hid (Calls Try.prog 40 #[.pointer (some ⟨sb, 0, none⟩)] w14 fun e w' => ∃ vo, e = .returned vo ∧ OwnEn w14.heap.size D w' vo (M.take (ahead notSyn M)) ∧ OpX 88 B sb E (M.drop (ahead notSyn M)) most v w (fun j => j = w.heap.size + 1 ∨ j = gr) w' ∧ Touch (fun i => i = sb) w14 w') := Lib.hid (by
      obtain ⟨E7, v7, hq7, hE7, hgo7⟩ := HX14.out.open Hn.out.2.2
      refine (rflush_any B sb E7 M most v7 w14 hq7 (by omega)).mono ?_
      rintro e wF ⟨vo, rfl, ho8, hop8⟩
      refine ⟨vo, rfl, ho8.touch EnS.still (Touch.refl (fun _ => False) wF) (fun _ _ e => e) (fun j _ hj _ => ⟨?_, fun e => e⟩), hgo7 _ _ hop8, opM_touch hop8⟩
      refine (HD.out j).2 ⟨⟨?_, hj.2⟩, fun e => ?_, fun e => ?_⟩
      · rcases hj.1 with e | e | e
        · exact (hE7 j (.inl e.1)).2.2
        · exact (hE7 j (.inr e)).2.2
        · exact .inr (.inr (by omega))
      · rcases hj.1 with e' | e' | e'
        · exact (hE7 j (.inl e'.1)).2.1 (.inl e)
        · exact (hE7 j (.inr e')).2.1 (.inl e)
        · omega
      · rcases hj.1 with e' | e' | e'
        · exact (hE7 j (.inl e'.1)).2.1 (.inr e)
        · exact (hE7 j (.inr e')).2.1 (.inr e)
        · omega)
    generalize M.take (ahead notSyn M) = F at *
    go_upto_region 16 with (go_at_call 40; refine HFl.out.mono ?_; rintro e w15 ⟨v15, rfl, ho15, hx15, hT15⟩; have hz15 := hT15.size; have HX15 := Lib.hid hx15; have HO15 := Lib.hid ho15; have Hs15 := Lib.hid (Hs14.out.touch hT15 (by omega) (by omega) (fun i _ hi e => hi e)); have Hr15 := Lib.hid (hT15.blk Hr14.out (by omega)); have hr15 := Hr15.out.cell; have hf15 := Hr15.out.frozen; have hKS : ∀ k, k < w14.heap.size → D k → D k ∧ ¬ k = sb := (fun k _ hk => ⟨hk, ((HD.out k).1 hk).1.2⟩); have Hl15 := Lib.hid (Hl14.out.keep (Kept.touch hT15 hKS)); have Hfd15 := Lib.hid ((SliceS.still EnS.still) _ _ _ _ _ _ Hfd14.out (Kept.touch hT15 hKS)); have Hd15 := Lib.hid ((SliceS.still EnS.still) _ _ _ _ _ _ Hd14.out (Kept.touch hT15 hKS)); obtain ⟨p15, c15, hv15, _⟩ := ho15.slice EnS.still (S' := fun _ => True) (fun _ _ _ => trivial) (fun _ _ => trivial); subst hv15; clear ho15 hx15 hT15 hKS)
    have hT16 : Touch (fun i => i = gr) w15 (w15.setCell ⟨gr, 9, none⟩ (.slice p15 F.length c15)) := (Touch.refl (fun i => i = gr) _).setCell (x := ⟨gr, 9, none⟩) (fun _ => rfl) _
    have hr16 := Hr15.out.set_ 9 (.slice p15 F.length c15)
    simp only [List.setIfInBounds_toArray, List.set_cons_succ, List.set_cons_zero] at hr16
    have HX16 := Lib.hid (HX15.out.pass (hT16.mono (fun k _ e => .inr e)) hsb)
    have Hs16 := Lib.hid (Hs15.out.touch hT16 (by omega) (by omega) (fun i hi _ e => by omega))
    have hKD : ∀ k, k < w15.heap.size → D k → (gG E v sb w k ∧ k ≠ w.heap.size + 1) ∧ ¬ k = gr := fun k _ hk => ⟨⟨((HD.out k).1 hk).1, ((HD.out k).1 hk).2.1⟩, ((HD.out k).1 hk).2.2⟩
    have hnm := Hl15.out.keep (Kept.touch hT16 hKD)
    have hfd := (SliceS.still EnS.still) _ _ _ _ _ _ Hfd15.out (Kept.touch hT16 hKD)
    have hdr := (SliceS.still EnS.still) _ _ _ _ _ _ Hd15.out (Kept.touch hT16 hKD)
    have hrw15 := HO15.out.row
    have hen : SliceS 8 EnS (fun j => gG E v sb w j ∧ j ≠ w.heap.size + 1) (w15.setCell ⟨gr, 9, none⟩ (.slice p15 F.length c15)) [.slice p15 F.length c15] F := by
      have ho := OwnS.touch (S' := D) EnS.still HO15.out hT16 (fun k hk e => by have := (hrw15 k hk).1; omega) (fun k _ hk _ => ⟨hk, ((HD.out k).1 hk).2.2⟩)
      obtain ⟨pz, cz, ez, hz⟩ := ho.slice EnS.still (S' := fun j => gG E v sb w j ∧ j ≠ w.heap.size + 1) (fun k _ hk => ⟨((HD.out k).1 hk).1, ((HD.out k).1 hk).2.1⟩) (fun k hk => by have := (hrw15 k hk).1; exact ⟨⟨.inr (.inr (by omega)), by omega⟩, by omega⟩)
      rw [← ez] at hz
      exact hz
    have Hl : Hid (ResL (fun j => gG E v sb w j ∧ j ≠ w.heap.size + 1) (w15.setCell ⟨gr, 9, none⟩ (.slice p15 F.length c15)) ⟨sh', ⟨zk, zh, zf, zd, zg, zb, zc, zr⟩, F, [⟨xk, false, xf, xd, xg, xb, xc, xr⟩], Dr, 0⟩ ⟨⟨sg, fg, sb', fb, sc, fc', sr, fr⟩, p15, c15, some ⟨g9, 0, none⟩, 1, p11, c11⟩) := Lib.hid ⟨hnm, hen, hfd, by
      dsimp only
      rw [Hkt.out]
      exact hdr⟩
    clear hT16 hKD hnm hfd hdr hen hrw15 HO15 Hr15 HX15 Hs15 hr15 hf15 Hl15 Hfd15 Hd15 Hr14 Hl14 HX14 Hs14 Hfd14 Hd14 HFl
    generalize w15.setCell ⟨gr, 9, none⟩ (.slice p15 F.length c15) = w16 at *
    have hc16 := hr16.cell
    have hb16 := Hs16.out.bo.cell
    have hf16 := Hs16.out.bo.frozen
    unfold resZ at hb16
    have hend := got_put' (G := fun j => gG E v sb w j ∧ j ≠ w.heap.size + 1) _ _ Hs16.out.bo HX16.out (.inl rfl) Hl.out (fun _ _ e => e) hsb Hn.out.1 Hn.out.2.1
    go_wp2_with fail
    obtain ⟨hK, hM, hC⟩ := hend
    have hcf := hC.cell
    unfold setRes resCells at hcf
    unfold setRes at hK hM
    dsimp only [List.length_cons, List.length_nil, Nat.reduceAdd, Nat.zero_add] at hcf hK hM
    rw [Hkt.out] at hK hM hcf
    have HK := Lib.hid hK
    have HM := Lib.hid hM
    clear hK hM hC hc16 hb16 hf16 hr16
    refine bodyPost_ret (v := .tuple #[.agg #[.bool sh', .int .i64 zk, .bool zh, .string zf, .string zd, .slice sg zg.length fg, .slice sb' zb.length fb, .slice sc zc.length fc', .slice sr zr.length fr, .slice p15 F.length c15, .slice (some ⟨g9, 0, none⟩) 1 1, .slice p11 kk c11, .int .u8 0], .int .i64 0]) (by simp [results, Try.results41, go_sem, hcf]) rfl ?_
    unfold GotR
    (try dsimp only)
    rw [Hg.out, show readyV 69 bs = 0 from (by simp [readyV])]
    dsimp only
    rw [Hge2.out]
    exact ⟨⟨⟨sg, fg, sb', fb, sc, fc', sr, fr⟩, p15, c15, some ⟨g9, 0, none⟩, 1, p11, c11⟩, by
      dsimp only [resArg, resCells]
      rw [Hkt.out]
      rfl, HK.out, HM.out⟩
  | true =>
    cases Dr with
    | nil =>
      obtain rfl : kk = 0 := Hkt.out.symm
      go_quiet (fail)
      go_upto_region 15 with (fail)
      have hin : r' = ⟨!true, ⟨xk, true, xf, xd, xg, xb, xc, xr⟩, [], [⟨xk, true, xf, xd, xg, xb, xc, xr⟩], [], 0⟩ := by rw [← Hr'.out]; simp [insteadV]
      have hbd12 := bel_drewN w12 nq _ (Nat.le_refl _)
      have HU : Hid (∃ a', Blk (w12.drewN nq) gr 82 (resCells r' ⟨a', none, 0, some ⟨g9, 0, none⟩, 1, p11, c11⟩) ∧ EnL D (w12.drewN nq) r'.name a' ∧ Touch (fun i => i = gr) w12 (w12.drewN nq)) := Lib.hid ⟨_, by rw [hin]; exact Hr12.out.drewN nq, by rw [hin]; exact Hnm12.out.keep (Kept.all hbd12), Touch.of_below hbd12⟩
      clear hc12 hf12 hi12 hk12 hin hbd12
      generalize w12.drewN nq = w14 at *
      obtain ⟨a', hc14, hl14, hT14⟩ := HU.out
      obtain ⟨sg, fg, sb', fb, sc, fc', sr, fr⟩ := a'
      have HX14 := Lib.hid (HX12.out.pass (hT14.mono (fun k _ e => .inr e)) hsb)
      have Hs14 := Lib.hid (Hs12.out.touch hT14 (by omega) (by omega) (fun i hi _ e => by omega))
      have hKD : ∀ k, k < w12.heap.size → D k → D k ∧ ¬ k = gr := fun k _ hk => ⟨hk, ((HD.out k).1 hk).2.2⟩
      have Hfd14 := Lib.hid ((SliceS.still EnS.still) _ _ _ _ _ _ Hfd12.out (Kept.touch hT14 hKD))
      have Hd14 := Lib.hid ((SliceS.still EnS.still) _ _ _ _ _ _ Hd12.out (Kept.touch hT14 hKD))
      have hz14 := hT14.size
      have hrest := Hrest.out
      clear HU Hrest Hr' hT14 hKD Hfd12 Hd12 Hs12 HX12 Hr12 Hc12 HE12 Hnm12
      (try clear Hin)
      obtain ⟨sh', ⟨zk, zh, zf, zd, zg, zb, zc, zr⟩, en', fd', Dr', rd'⟩ := r'
      obtain ⟨h1, h2, h3, h4⟩ := hrest
      dsimp only at h1 h2 h3 h4
      subst h1 h2 h4
      rw [h3] at hc14
      have hr14 : Blk w14 gr 82 #[.bool sh', .int .i64 zk, .bool zh, .string zf, .string zd, .slice sg zg.length fg, .slice sb' zb.length fb, .slice sc zc.length fc', .slice sr zr.length fr, .slice none 0 0, .slice (some ⟨g9, 0, none⟩) 1 1, .slice p11 0 c11, .int .u8 0] := by
        unfold resCells at hc14
        dsimp only at hc14
        rw [Hkt.out] at hc14
        exact hc14
      have Hr14 := Lib.hid hr14
      have Hl14 := Lib.hid hl14
      clear hc14 hl14 h3
      have HFl : Hid (Calls Try.prog 40 #[.pointer (some ⟨sb, 0, none⟩)] w14 fun e w' => ∃ vo, e = .returned vo ∧ OwnEn w14.heap.size D w' vo (M.take (ahead notSyn M)) ∧ OpX 88 B sb E (M.drop (ahead notSyn M)) most v w (fun j => j = w.heap.size + 1 ∨ j = gr) w' ∧ Touch (fun i => i = sb) w14 w') := Lib.hid (by
        obtain ⟨E7, v7, hq7, hE7, hgo7⟩ := HX14.out.open Hn.out.2.2
        refine (rflush_any B sb E7 M most v7 w14 hq7 (by omega)).mono ?_
        rintro e wF ⟨vo, rfl, ho8, hop8⟩
        refine ⟨vo, rfl, ho8.touch EnS.still (Touch.refl (fun _ => False) wF) (fun _ _ e => e) (fun j _ hj _ => ⟨?_, fun e => e⟩), hgo7 _ _ hop8, opM_touch hop8⟩
        refine (HD.out j).2 ⟨⟨?_, hj.2⟩, fun e => ?_, fun e => ?_⟩
        · rcases hj.1 with e | e | e
          · exact (hE7 j (.inl e.1)).2.2
          · exact (hE7 j (.inr e)).2.2
          · exact .inr (.inr (by omega))
        · rcases hj.1 with e' | e' | e'
          · exact (hE7 j (.inl e'.1)).2.1 (.inl e)
          · exact (hE7 j (.inr e')).2.1 (.inl e)
          · omega
        · rcases hj.1 with e' | e' | e'
          · exact (hE7 j (.inl e'.1)).2.1 (.inr e)
          · exact (hE7 j (.inr e')).2.1 (.inr e)
          · omega)
      generalize M.take (ahead notSyn M) = F at *
      go_upto_region 16 with (go_at_call 40; refine HFl.out.mono ?_; rintro e w15 ⟨v15, rfl, ho15, hx15, hT15⟩; have hz15 := hT15.size; have HX15 := Lib.hid hx15; have HO15 := Lib.hid ho15; have Hs15 := Lib.hid (Hs14.out.touch hT15 (by omega) (by omega) (fun i _ hi e => hi e)); have Hr15 := Lib.hid (hT15.blk Hr14.out (by omega)); have hr15 := Hr15.out.cell; have hf15 := Hr15.out.frozen; have hKS : ∀ k, k < w14.heap.size → D k → D k ∧ ¬ k = sb := (fun k _ hk => ⟨hk, ((HD.out k).1 hk).1.2⟩); have Hl15 := Lib.hid (Hl14.out.keep (Kept.touch hT15 hKS)); have Hfd15 := Lib.hid ((SliceS.still EnS.still) _ _ _ _ _ _ Hfd14.out (Kept.touch hT15 hKS)); have Hd15 := Lib.hid ((SliceS.still EnS.still) _ _ _ _ _ _ Hd14.out (Kept.touch hT15 hKS)); obtain ⟨p15, c15, hv15, _⟩ := ho15.slice EnS.still (S' := fun _ => True) (fun _ _ _ => trivial) (fun _ _ => trivial); subst hv15; clear ho15 hx15 hT15 hKS)
      have hT16 : Touch (fun i => i = gr) w15 (w15.setCell ⟨gr, 9, none⟩ (.slice p15 F.length c15)) := (Touch.refl (fun i => i = gr) _).setCell (x := ⟨gr, 9, none⟩) (fun _ => rfl) _
      have hr16 := Hr15.out.set_ 9 (.slice p15 F.length c15)
      simp only [List.setIfInBounds_toArray, List.set_cons_succ, List.set_cons_zero] at hr16
      have HX16 := Lib.hid (HX15.out.pass (hT16.mono (fun k _ e => .inr e)) hsb)
      have Hs16 := Lib.hid (Hs15.out.touch hT16 (by omega) (by omega) (fun i hi _ e => by omega))
      have hKD : ∀ k, k < w15.heap.size → D k → (gG E v sb w k ∧ k ≠ w.heap.size + 1) ∧ ¬ k = gr := fun k _ hk => ⟨⟨((HD.out k).1 hk).1, ((HD.out k).1 hk).2.1⟩, ((HD.out k).1 hk).2.2⟩
      have hnm := Hl15.out.keep (Kept.touch hT16 hKD)
      have hfd := (SliceS.still EnS.still) _ _ _ _ _ _ Hfd15.out (Kept.touch hT16 hKD)
      have hdr := (SliceS.still EnS.still) _ _ _ _ _ _ Hd15.out (Kept.touch hT16 hKD)
      have hrw15 := HO15.out.row
      have hen : SliceS 8 EnS (fun j => gG E v sb w j ∧ j ≠ w.heap.size + 1) (w15.setCell ⟨gr, 9, none⟩ (.slice p15 F.length c15)) [.slice p15 F.length c15] F := by
        have ho := OwnS.touch (S' := D) EnS.still HO15.out hT16 (fun k hk e => by have := (hrw15 k hk).1; omega) (fun k _ hk _ => ⟨hk, ((HD.out k).1 hk).2.2⟩)
        obtain ⟨pz, cz, ez, hz⟩ := ho.slice EnS.still (S' := fun j => gG E v sb w j ∧ j ≠ w.heap.size + 1) (fun k _ hk => ⟨((HD.out k).1 hk).1, ((HD.out k).1 hk).2.1⟩) (fun k hk => by have := (hrw15 k hk).1; exact ⟨⟨.inr (.inr (by omega)), by omega⟩, by omega⟩)
        rw [← ez] at hz
        exact hz
      have Hl : Hid (ResL (fun j => gG E v sb w j ∧ j ≠ w.heap.size + 1) (w15.setCell ⟨gr, 9, none⟩ (.slice p15 F.length c15)) ⟨sh', ⟨zk, zh, zf, zd, zg, zb, zc, zr⟩, F, [⟨xk, true, xf, xd, xg, xb, xc, xr⟩], [], 0⟩ ⟨⟨sg, fg, sb', fb, sc, fc', sr, fr⟩, p15, c15, some ⟨g9, 0, none⟩, 1, p11, c11⟩) := Lib.hid ⟨hnm, hen, hfd, by
        dsimp only
        rw [Hkt.out]
        exact hdr⟩
      clear hT16 hKD hnm hfd hdr hen hrw15 HO15 Hr15 HX15 Hs15 hr15 hf15 Hl15 Hfd15 Hd15 Hr14 Hl14 HX14 Hs14 Hfd14 Hd14 HFl
      generalize w15.setCell ⟨gr, 9, none⟩ (.slice p15 F.length c15) = w16 at *
      have hc16 := hr16.cell
      have hb16 := Hs16.out.bo.cell
      have hf16 := Hs16.out.bo.frozen
      unfold resZ at hb16
      have hend := got_put' (G := fun j => gG E v sb w j ∧ j ≠ w.heap.size + 1) _ _ Hs16.out.bo HX16.out (.inl rfl) Hl.out (fun _ _ e => e) hsb Hn.out.1 Hn.out.2.1
      go_wp2_with fail
      obtain ⟨hK, hM, hC⟩ := hend
      have hcf := hC.cell
      unfold setRes resCells at hcf
      unfold setRes at hK hM
      dsimp only [List.length_cons, List.length_nil, Nat.reduceAdd, Nat.zero_add] at hcf hK hM
      (try rw [Hkt.out] at hK hM hcf)
      have HK := Lib.hid hK
      have HM := Lib.hid hM
      clear hK hM hC hc16 hb16 hf16 hr16
      refine bodyPost_ret (v := .tuple #[.agg #[.bool sh', .int .i64 zk, .bool zh, .string zf, .string zd, .slice sg zg.length fg, .slice sb' zb.length fb, .slice sc zc.length fc', .slice sr zr.length fr, .slice p15 F.length c15, .slice (some ⟨g9, 0, none⟩) 1 1, .slice p11 0 c11, .int .u8 0], .int .i64 0]) (by simp [results, Try.results41, go_sem, hcf]) rfl ?_
      unfold GotR
      (try dsimp only)
      rw [Hg.out, show readyV 69 bs = 0 from (by simp [readyV])]
      dsimp only
      rw [Hge2.out]
      exact ⟨⟨⟨sg, fg, sb', fb, sc, fc', sr, fr⟩, p15, c15, some ⟨g9, 0, none⟩, 1, p11, c11⟩, by
        dsimp only [resArg, resCells]
        rw [Hkt.out]
        rfl, HK.out, HM.out⟩
    | cons d l =>
      obtain ⟨bb, oo, ad, rfl, hS, hbl, hL, c0, c1, c2, c3, c4, c5, c6, c7⟩ := en_at (by rw [← Hkt.out] at Hd12; exact Hd12.out) (k := 0) (by simp)
      simp only [List.getElem_cons_zero, Nat.zero_mul, Nat.add_zero] at c0 c1 c2 c3 c4 c5 c6 c7 hL
      have hl1 : (0 : Int) < (kk : Int) := by have := Hkt.out; simp at this; omega
      have hl2 : 0 < kk := by omega
      have HL := Lib.hid hL
      have Hfy : Hid (∀ r, Calls Try.prog 33 #[.int .i64 d.kind, .int .u8 69] (w12.drewN r) fun e w' => e = .returned (.bool (failsB d.kind 69)) ∧ w' = w12.drewN r) := Lib.hid (fun r => (Hfa.out d.kind (w12.drewN r)).mono (fun e w' h => ⟨h.1, h.2.symm⟩))
      clear hL hS
      have Hin : Hid (r' = if (!d.hide && failsB d.kind 69) = true then ⟨true, d, [], [⟨xk, true, xf, xd, xg, xb, xc, xr⟩], d :: l, 0⟩ else ⟨!true, ⟨xk, true, xf, xd, xg, xb, xc, xr⟩, [], [⟨xk, true, xf, xd, xg, xb, xc, xr⟩], d :: l, 0⟩) := Lib.hid (by rw [← Hr'.out]; simp [insteadV])
      obtain ⟨yk, yh, yf, yd, yg, yb, yc, yr⟩ := d
      obtain ⟨rg, eg, rb, eb, rc, ec, rr, er⟩ := ad
      dsimp only at c0 c1 c2 c3 c4 c5 c6 c7 Hin Hfy
      cases yh with
      | true =>
        go_quiet (fail)
        go_upto_region 15 with (fail)
        have hin := Hin.out
        simp only [Bool.not_true, Bool.false_and, Bool.false_eq_true, if_false] at hin
        have hbd12 := bel_drewN w12 nq _ (Nat.le_refl _)
        have HU : Hid (∃ a', Blk (w12.drewN nq) gr 82 (resCells r' ⟨a', none, 0, some ⟨g9, 0, none⟩, 1, some ⟨bb, oo, none⟩, c11⟩) ∧ EnL D (w12.drewN nq) r'.name a' ∧ Touch (fun i => i = gr) w12 (w12.drewN nq)) := Lib.hid ⟨_, by rw [hin]; exact Hr12.out.drewN nq, by rw [hin]; exact Hnm12.out.keep (Kept.all hbd12), Touch.of_below hbd12⟩
        clear hc12 hf12 hi12 hk12 hin hbd12 c0 c1 c2 c3 c4 c5 c6 c7
        generalize w12.drewN nq = w14 at *
        obtain ⟨a', hc14, hl14, hT14⟩ := HU.out
        obtain ⟨sg, fg, sb', fb, sc, fc', sr, fr⟩ := a'
        have HX14 := Lib.hid (HX12.out.pass (hT14.mono (fun k _ e => .inr e)) hsb)
        have Hs14 := Lib.hid (Hs12.out.touch hT14 (by omega) (by omega) (fun i hi _ e => by omega))
        have hKD : ∀ k, k < w12.heap.size → D k → D k ∧ ¬ k = gr := fun k _ hk => ⟨hk, ((HD.out k).1 hk).2.2⟩
        have Hfd14 := Lib.hid ((SliceS.still EnS.still) _ _ _ _ _ _ Hfd12.out (Kept.touch hT14 hKD))
        have Hd14 := Lib.hid ((SliceS.still EnS.still) _ _ _ _ _ _ Hd12.out (Kept.touch hT14 hKD))
        have hz14 := hT14.size
        have hrest := Hrest.out
        clear HU Hrest Hr' hT14 hKD Hfd12 Hd12 Hs12 HX12 Hr12 Hc12 HE12 Hnm12
        (try clear Hin)
        obtain ⟨sh', ⟨zk, zh, zf, zd, zg, zb, zc, zr⟩, en', fd', Dr', rd'⟩ := r'
        obtain ⟨h1, h2, h3, h4⟩ := hrest
        dsimp only at h1 h2 h3 h4
        subst h1 h2 h4
        rw [h3] at hc14
        have hr14 : Blk w14 gr 82 #[.bool sh', .int .i64 zk, .bool zh, .string zf, .string zd, .slice sg zg.length fg, .slice sb' zb.length fb, .slice sc zc.length fc', .slice sr zr.length fr, .slice none 0 0, .slice (some ⟨g9, 0, none⟩) 1 1, .slice (some ⟨bb, oo, none⟩) kk c11, .int .u8 0] := by
          unfold resCells at hc14
          dsimp only at hc14
          rw [Hkt.out] at hc14
          exact hc14
        have Hr14 := Lib.hid hr14
        have Hl14 := Lib.hid hl14
        clear hc14 hl14 h3
        have HFl : Hid (Calls Try.prog 40 #[.pointer (some ⟨sb, 0, none⟩)] w14 fun e w' => ∃ vo, e = .returned vo ∧ OwnEn w14.heap.size D w' vo (M.take (ahead notSyn M)) ∧ OpX 88 B sb E (M.drop (ahead notSyn M)) most v w (fun j => j = w.heap.size + 1 ∨ j = gr) w' ∧ Touch (fun i => i = sb) w14 w') := Lib.hid (by
          obtain ⟨E7, v7, hq7, hE7, hgo7⟩ := HX14.out.open Hn.out.2.2
          refine (rflush_any B sb E7 M most v7 w14 hq7 (by omega)).mono ?_
          rintro e wF ⟨vo, rfl, ho8, hop8⟩
          refine ⟨vo, rfl, ho8.touch EnS.still (Touch.refl (fun _ => False) wF) (fun _ _ e => e) (fun j _ hj _ => ⟨?_, fun e => e⟩), hgo7 _ _ hop8, opM_touch hop8⟩
          refine (HD.out j).2 ⟨⟨?_, hj.2⟩, fun e => ?_, fun e => ?_⟩
          · rcases hj.1 with e | e | e
            · exact (hE7 j (.inl e.1)).2.2
            · exact (hE7 j (.inr e)).2.2
            · exact .inr (.inr (by omega))
          · rcases hj.1 with e' | e' | e'
            · exact (hE7 j (.inl e'.1)).2.1 (.inl e)
            · exact (hE7 j (.inr e')).2.1 (.inl e)
            · omega
          · rcases hj.1 with e' | e' | e'
            · exact (hE7 j (.inl e'.1)).2.1 (.inr e)
            · exact (hE7 j (.inr e')).2.1 (.inr e)
            · omega)
        generalize M.take (ahead notSyn M) = F at *
        go_upto_region 16 with (go_at_call 40; refine HFl.out.mono ?_; rintro e w15 ⟨v15, rfl, ho15, hx15, hT15⟩; have hz15 := hT15.size; have HX15 := Lib.hid hx15; have HO15 := Lib.hid ho15; have Hs15 := Lib.hid (Hs14.out.touch hT15 (by omega) (by omega) (fun i _ hi e => hi e)); have Hr15 := Lib.hid (hT15.blk Hr14.out (by omega)); have hr15 := Hr15.out.cell; have hf15 := Hr15.out.frozen; have hKS : ∀ k, k < w14.heap.size → D k → D k ∧ ¬ k = sb := (fun k _ hk => ⟨hk, ((HD.out k).1 hk).1.2⟩); have Hl15 := Lib.hid (Hl14.out.keep (Kept.touch hT15 hKS)); have Hfd15 := Lib.hid ((SliceS.still EnS.still) _ _ _ _ _ _ Hfd14.out (Kept.touch hT15 hKS)); have Hd15 := Lib.hid ((SliceS.still EnS.still) _ _ _ _ _ _ Hd14.out (Kept.touch hT15 hKS)); obtain ⟨p15, c15, hv15, _⟩ := ho15.slice EnS.still (S' := fun _ => True) (fun _ _ _ => trivial) (fun _ _ => trivial); subst hv15; clear ho15 hx15 hT15 hKS)
        have hT16 : Touch (fun i => i = gr) w15 (w15.setCell ⟨gr, 9, none⟩ (.slice p15 F.length c15)) := (Touch.refl (fun i => i = gr) _).setCell (x := ⟨gr, 9, none⟩) (fun _ => rfl) _
        have hr16 := Hr15.out.set_ 9 (.slice p15 F.length c15)
        simp only [List.setIfInBounds_toArray, List.set_cons_succ, List.set_cons_zero] at hr16
        have HX16 := Lib.hid (HX15.out.pass (hT16.mono (fun k _ e => .inr e)) hsb)
        have Hs16 := Lib.hid (Hs15.out.touch hT16 (by omega) (by omega) (fun i hi _ e => by omega))
        have hKD : ∀ k, k < w15.heap.size → D k → (gG E v sb w k ∧ k ≠ w.heap.size + 1) ∧ ¬ k = gr := fun k _ hk => ⟨⟨((HD.out k).1 hk).1, ((HD.out k).1 hk).2.1⟩, ((HD.out k).1 hk).2.2⟩
        have hnm := Hl15.out.keep (Kept.touch hT16 hKD)
        have hfd := (SliceS.still EnS.still) _ _ _ _ _ _ Hfd15.out (Kept.touch hT16 hKD)
        have hdr := (SliceS.still EnS.still) _ _ _ _ _ _ Hd15.out (Kept.touch hT16 hKD)
        have hrw15 := HO15.out.row
        have hen : SliceS 8 EnS (fun j => gG E v sb w j ∧ j ≠ w.heap.size + 1) (w15.setCell ⟨gr, 9, none⟩ (.slice p15 F.length c15)) [.slice p15 F.length c15] F := by
          have ho := OwnS.touch (S' := D) EnS.still HO15.out hT16 (fun k hk e => by have := (hrw15 k hk).1; omega) (fun k _ hk _ => ⟨hk, ((HD.out k).1 hk).2.2⟩)
          obtain ⟨pz, cz, ez, hz⟩ := ho.slice EnS.still (S' := fun j => gG E v sb w j ∧ j ≠ w.heap.size + 1) (fun k _ hk => ⟨((HD.out k).1 hk).1, ((HD.out k).1 hk).2.1⟩) (fun k hk => by have := (hrw15 k hk).1; exact ⟨⟨.inr (.inr (by omega)), by omega⟩, by omega⟩)
          rw [← ez] at hz
          exact hz
        have Hl : Hid (ResL (fun j => gG E v sb w j ∧ j ≠ w.heap.size + 1) (w15.setCell ⟨gr, 9, none⟩ (.slice p15 F.length c15)) ⟨sh', ⟨zk, zh, zf, zd, zg, zb, zc, zr⟩, F, [⟨xk, true, xf, xd, xg, xb, xc, xr⟩], ⟨yk, true, yf, yd, yg, yb, yc, yr⟩ :: l, 0⟩ ⟨⟨sg, fg, sb', fb, sc, fc', sr, fr⟩, p15, c15, some ⟨g9, 0, none⟩, 1, (some ⟨bb, oo, none⟩), c11⟩) := Lib.hid ⟨hnm, hen, hfd, by
          dsimp only
          rw [Hkt.out]
          exact hdr⟩
        clear hT16 hKD hnm hfd hdr hen hrw15 HO15 Hr15 HX15 Hs15 hr15 hf15 Hl15 Hfd15 Hd15 Hr14 Hl14 HX14 Hs14 Hfd14 Hd14 HFl
        generalize w15.setCell ⟨gr, 9, none⟩ (.slice p15 F.length c15) = w16 at *
        have hc16 := hr16.cell
        have hb16 := Hs16.out.bo.cell
        have hf16 := Hs16.out.bo.frozen
        unfold resZ at hb16
        have hend := got_put' (G := fun j => gG E v sb w j ∧ j ≠ w.heap.size + 1) _ _ Hs16.out.bo HX16.out (.inl rfl) Hl.out (fun _ _ e => e) hsb Hn.out.1 Hn.out.2.1
        go_wp2_with fail
        obtain ⟨hK, hM, hC⟩ := hend
        have hcf := hC.cell
        unfold setRes resCells at hcf
        unfold setRes at hK hM
        dsimp only [List.length_cons, List.length_nil, Nat.reduceAdd, Nat.zero_add] at hcf hK hM
        have hll : l.length + 1 = kk := Hkt.out
        rw [hll] at hK hM hcf
        clear hll
        have HK := Lib.hid hK
        have HM := Lib.hid hM
        clear hK hM hC hc16 hb16 hf16 hr16
        refine bodyPost_ret (v := .tuple #[.agg #[.bool sh', .int .i64 zk, .bool zh, .string zf, .string zd, .slice sg zg.length fg, .slice sb' zb.length fb, .slice sc zc.length fc', .slice sr zr.length fr, .slice p15 F.length c15, .slice (some ⟨g9, 0, none⟩) 1 1, .slice (some ⟨bb, oo, none⟩) kk c11, .int .u8 0], .int .i64 0]) (by simp [results, Try.results41, go_sem, hcf]) rfl ?_
        unfold GotR
        (try dsimp only)
        rw [Hg.out, show readyV 69 bs = 0 from (by simp [readyV])]
        dsimp only
        rw [Hge2.out]
        exact ⟨⟨⟨sg, fg, sb', fb, sc, fc', sr, fr⟩, p15, c15, some ⟨g9, 0, none⟩, 1, (some ⟨bb, oo, none⟩), c11⟩, by
          dsimp only [resArg, resCells]
          rw [Hkt.out]
          rfl, HK.out, HM.out⟩
      | false =>
        cases hfy : failsB yk 69 with
        | false =>
          rw [hfy] at Hfy
          go_quiet ((go_at_call 33; exact Calls.quiet_of_same (Hfy.out _)))
          go_upto_region 15 with (fail)
          have hin := Hin.out
          rw [hfy] at hin
          simp only [Bool.and_false, Bool.false_eq_true, if_false] at hin
          have hbd12 := bel_drewN w12 nq _ (Nat.le_refl _)
          have HU : Hid (∃ a', Blk (w12.drewN nq) gr 82 (resCells r' ⟨a', none, 0, some ⟨g9, 0, none⟩, 1, some ⟨bb, oo, none⟩, c11⟩) ∧ EnL D (w12.drewN nq) r'.name a' ∧ Touch (fun i => i = gr) w12 (w12.drewN nq)) := Lib.hid ⟨_, by rw [hin]; exact Hr12.out.drewN nq, by rw [hin]; exact Hnm12.out.keep (Kept.all hbd12), Touch.of_below hbd12⟩
          clear hc12 hf12 hi12 hk12 hin hbd12 c0 c1 c2 c3 c4 c5 c6 c7
          generalize w12.drewN nq = w14 at *
          obtain ⟨a', hc14, hl14, hT14⟩ := HU.out
          obtain ⟨sg, fg, sb', fb, sc, fc', sr, fr⟩ := a'
          have HX14 := Lib.hid (HX12.out.pass (hT14.mono (fun k _ e => .inr e)) hsb)
          have Hs14 := Lib.hid (Hs12.out.touch hT14 (by omega) (by omega) (fun i hi _ e => by omega))
          have hKD : ∀ k, k < w12.heap.size → D k → D k ∧ ¬ k = gr := fun k _ hk => ⟨hk, ((HD.out k).1 hk).2.2⟩
          have Hfd14 := Lib.hid ((SliceS.still EnS.still) _ _ _ _ _ _ Hfd12.out (Kept.touch hT14 hKD))
          have Hd14 := Lib.hid ((SliceS.still EnS.still) _ _ _ _ _ _ Hd12.out (Kept.touch hT14 hKD))
          have hz14 := hT14.size
          have hrest := Hrest.out
          clear HU Hrest Hr' hT14 hKD Hfd12 Hd12 Hs12 HX12 Hr12 Hc12 HE12 Hnm12
          (try clear Hin)
          obtain ⟨sh', ⟨zk, zh, zf, zd, zg, zb, zc, zr⟩, en', fd', Dr', rd'⟩ := r'
          obtain ⟨h1, h2, h3, h4⟩ := hrest
          dsimp only at h1 h2 h3 h4
          subst h1 h2 h4
          rw [h3] at hc14
          have hr14 : Blk w14 gr 82 #[.bool sh', .int .i64 zk, .bool zh, .string zf, .string zd, .slice sg zg.length fg, .slice sb' zb.length fb, .slice sc zc.length fc', .slice sr zr.length fr, .slice none 0 0, .slice (some ⟨g9, 0, none⟩) 1 1, .slice (some ⟨bb, oo, none⟩) kk c11, .int .u8 0] := by
            unfold resCells at hc14
            dsimp only at hc14
            rw [Hkt.out] at hc14
            exact hc14
          have Hr14 := Lib.hid hr14
          have Hl14 := Lib.hid hl14
          clear hc14 hl14 h3
          have HFl : Hid (Calls Try.prog 40 #[.pointer (some ⟨sb, 0, none⟩)] w14 fun e w' => ∃ vo, e = .returned vo ∧ OwnEn w14.heap.size D w' vo (M.take (ahead notSyn M)) ∧ OpX 88 B sb E (M.drop (ahead notSyn M)) most v w (fun j => j = w.heap.size + 1 ∨ j = gr) w' ∧ Touch (fun i => i = sb) w14 w') := Lib.hid (by
            obtain ⟨E7, v7, hq7, hE7, hgo7⟩ := HX14.out.open Hn.out.2.2
            refine (rflush_any B sb E7 M most v7 w14 hq7 (by omega)).mono ?_
            rintro e wF ⟨vo, rfl, ho8, hop8⟩
            refine ⟨vo, rfl, ho8.touch EnS.still (Touch.refl (fun _ => False) wF) (fun _ _ e => e) (fun j _ hj _ => ⟨?_, fun e => e⟩), hgo7 _ _ hop8, opM_touch hop8⟩
            refine (HD.out j).2 ⟨⟨?_, hj.2⟩, fun e => ?_, fun e => ?_⟩
            · rcases hj.1 with e | e | e
              · exact (hE7 j (.inl e.1)).2.2
              · exact (hE7 j (.inr e)).2.2
              · exact .inr (.inr (by omega))
            · rcases hj.1 with e' | e' | e'
              · exact (hE7 j (.inl e'.1)).2.1 (.inl e)
              · exact (hE7 j (.inr e')).2.1 (.inl e)
              · omega
            · rcases hj.1 with e' | e' | e'
              · exact (hE7 j (.inl e'.1)).2.1 (.inr e)
              · exact (hE7 j (.inr e')).2.1 (.inr e)
              · omega)
          generalize M.take (ahead notSyn M) = F at *
          go_upto_region 16 with (go_at_call 40; refine HFl.out.mono ?_; rintro e w15 ⟨v15, rfl, ho15, hx15, hT15⟩; have hz15 := hT15.size; have HX15 := Lib.hid hx15; have HO15 := Lib.hid ho15; have Hs15 := Lib.hid (Hs14.out.touch hT15 (by omega) (by omega) (fun i _ hi e => hi e)); have Hr15 := Lib.hid (hT15.blk Hr14.out (by omega)); have hr15 := Hr15.out.cell; have hf15 := Hr15.out.frozen; have hKS : ∀ k, k < w14.heap.size → D k → D k ∧ ¬ k = sb := (fun k _ hk => ⟨hk, ((HD.out k).1 hk).1.2⟩); have Hl15 := Lib.hid (Hl14.out.keep (Kept.touch hT15 hKS)); have Hfd15 := Lib.hid ((SliceS.still EnS.still) _ _ _ _ _ _ Hfd14.out (Kept.touch hT15 hKS)); have Hd15 := Lib.hid ((SliceS.still EnS.still) _ _ _ _ _ _ Hd14.out (Kept.touch hT15 hKS)); obtain ⟨p15, c15, hv15, _⟩ := ho15.slice EnS.still (S' := fun _ => True) (fun _ _ _ => trivial) (fun _ _ => trivial); subst hv15; clear ho15 hx15 hT15 hKS)
          have hT16 : Touch (fun i => i = gr) w15 (w15.setCell ⟨gr, 9, none⟩ (.slice p15 F.length c15)) := (Touch.refl (fun i => i = gr) _).setCell (x := ⟨gr, 9, none⟩) (fun _ => rfl) _
          have hr16 := Hr15.out.set_ 9 (.slice p15 F.length c15)
          simp only [List.setIfInBounds_toArray, List.set_cons_succ, List.set_cons_zero] at hr16
          have HX16 := Lib.hid (HX15.out.pass (hT16.mono (fun k _ e => .inr e)) hsb)
          have Hs16 := Lib.hid (Hs15.out.touch hT16 (by omega) (by omega) (fun i hi _ e => by omega))
          have hKD : ∀ k, k < w15.heap.size → D k → (gG E v sb w k ∧ k ≠ w.heap.size + 1) ∧ ¬ k = gr := fun k _ hk => ⟨⟨((HD.out k).1 hk).1, ((HD.out k).1 hk).2.1⟩, ((HD.out k).1 hk).2.2⟩
          have hnm := Hl15.out.keep (Kept.touch hT16 hKD)
          have hfd := (SliceS.still EnS.still) _ _ _ _ _ _ Hfd15.out (Kept.touch hT16 hKD)
          have hdr := (SliceS.still EnS.still) _ _ _ _ _ _ Hd15.out (Kept.touch hT16 hKD)
          have hrw15 := HO15.out.row
          have hen : SliceS 8 EnS (fun j => gG E v sb w j ∧ j ≠ w.heap.size + 1) (w15.setCell ⟨gr, 9, none⟩ (.slice p15 F.length c15)) [.slice p15 F.length c15] F := by
            have ho := OwnS.touch (S' := D) EnS.still HO15.out hT16 (fun k hk e => by have := (hrw15 k hk).1; omega) (fun k _ hk _ => ⟨hk, ((HD.out k).1 hk).2.2⟩)
            obtain ⟨pz, cz, ez, hz⟩ := ho.slice EnS.still (S' := fun j => gG E v sb w j ∧ j ≠ w.heap.size + 1) (fun k _ hk => ⟨((HD.out k).1 hk).1, ((HD.out k).1 hk).2.1⟩) (fun k hk => by have := (hrw15 k hk).1; exact ⟨⟨.inr (.inr (by omega)), by omega⟩, by omega⟩)
            rw [← ez] at hz
            exact hz
          have Hl : Hid (ResL (fun j => gG E v sb w j ∧ j ≠ w.heap.size + 1) (w15.setCell ⟨gr, 9, none⟩ (.slice p15 F.length c15)) ⟨sh', ⟨zk, zh, zf, zd, zg, zb, zc, zr⟩, F, [⟨xk, true, xf, xd, xg, xb, xc, xr⟩], ⟨yk, false, yf, yd, yg, yb, yc, yr⟩ :: l, 0⟩ ⟨⟨sg, fg, sb', fb, sc, fc', sr, fr⟩, p15, c15, some ⟨g9, 0, none⟩, 1, (some ⟨bb, oo, none⟩), c11⟩) := Lib.hid ⟨hnm, hen, hfd, by
            dsimp only
            rw [Hkt.out]
            exact hdr⟩
          clear hT16 hKD hnm hfd hdr hen hrw15 HO15 Hr15 HX15 Hs15 hr15 hf15 Hl15 Hfd15 Hd15 Hr14 Hl14 HX14 Hs14 Hfd14 Hd14 HFl
          generalize w15.setCell ⟨gr, 9, none⟩ (.slice p15 F.length c15) = w16 at *
          have hc16 := hr16.cell
          have hb16 := Hs16.out.bo.cell
          have hf16 := Hs16.out.bo.frozen
          unfold resZ at hb16
          have hend := got_put' (G := fun j => gG E v sb w j ∧ j ≠ w.heap.size + 1) _ _ Hs16.out.bo HX16.out (.inl rfl) Hl.out (fun _ _ e => e) hsb Hn.out.1 Hn.out.2.1
          go_wp2_with fail
          obtain ⟨hK, hM, hC⟩ := hend
          have hcf := hC.cell
          unfold setRes resCells at hcf
          unfold setRes at hK hM
          dsimp only [List.length_cons, List.length_nil, Nat.reduceAdd, Nat.zero_add] at hcf hK hM
          have hll : l.length + 1 = kk := Hkt.out
          rw [hll] at hK hM hcf
          clear hll
          have HK := Lib.hid hK
          have HM := Lib.hid hM
          clear hK hM hC hc16 hb16 hf16 hr16
          refine bodyPost_ret (v := .tuple #[.agg #[.bool sh', .int .i64 zk, .bool zh, .string zf, .string zd, .slice sg zg.length fg, .slice sb' zb.length fb, .slice sc zc.length fc', .slice sr zr.length fr, .slice p15 F.length c15, .slice (some ⟨g9, 0, none⟩) 1 1, .slice (some ⟨bb, oo, none⟩) kk c11, .int .u8 0], .int .i64 0]) (by simp [results, Try.results41, go_sem, hcf]) rfl ?_
          unfold GotR
          (try dsimp only)
          rw [Hg.out, show readyV 69 bs = 0 from (by simp [readyV])]
          dsimp only
          rw [Hge2.out]
          exact ⟨⟨⟨sg, fg, sb', fb, sc, fc', sr, fr⟩, p15, c15, some ⟨g9, 0, none⟩, 1, (some ⟨bb, oo, none⟩), c11⟩, by
            dsimp only [resArg, resCells]
            rw [Hkt.out]
            rfl, HK.out, HM.out⟩
        | true =>
          rw [hfy] at Hfy
          go_quiet ((go_at_call 33; exact Calls.quiet_of_same (Hfy.out _)))
          go_upto_region 14 with (fail)
          have hin := Hin.out
          rw [hfy] at hin
          simp only [Bool.not_false, Bool.and_true, if_true] at hin
          have hbd12 := bel_drewN w12 nq _ (Nat.le_refl _)
          have HT13 := Lib.hid (Touch.of_below (p := fun i => i = gr) hbd12)
          have Hr13 := Lib.hid (Hr12.out.drewN nq)
          have HL13 := Lib.hid (HL.out.keep (Kept.all hbd12))
          have hc13 : ∀ i, (w12.drewN nq).cell? ⟨gr, i, none⟩ = _ := hc12
          have hf13 : ∀ i, (w12.drewN nq).frozen? ⟨gr, i, none⟩ = false := hf12
          have e0 : (w12.drewN nq).cell? _ = _ := c0
          have e1 : (w12.drewN nq).cell? _ = _ := c1
          have e2 : (w12.drewN nq).cell? _ = _ := c2
          have e3 : (w12.drewN nq).cell? _ = _ := c3
          have e4 : (w12.drewN nq).cell? _ = _ := c4
          have e5 : (w12.drewN nq).cell? _ = _ := c5
          have e6 : (w12.drewN nq).cell? _ = _ := c6
          have e7 : (w12.drewN nq).cell? _ = _ := c7
          clear hc12 hf12 hi12 hk12 hbd12 c0 c1 c2 c3 c4 c5 c6 c7
          generalize w12.drewN nq = w13 at *
          go_upto_region 15 with (fail)
          have hT3 := setNm_touch w13 gr ⟨yk, false, yf, yd, yg, yb, yc, yr⟩ ⟨rg, eg, rb, eb, rc, ec, rr, er⟩
          have hr3 := setNm_blk ⟨yk, false, yf, yd, yg, yb, yc, yr⟩ ⟨rg, eg, rb, eb, rc, ec, rr, er⟩ Hr13.out
          have HU : Hid (∃ a', Blk (setNm w13 gr ⟨yk, false, yf, yd, yg, yb, yc, yr⟩ ⟨rg, eg, rb, eb, rc, ec, rr, er⟩) gr 82 (resCells r' ⟨a', none, 0, some ⟨g9, 0, none⟩, 1, some ⟨bb, oo, none⟩, c11⟩) ∧ EnL D (setNm w13 gr ⟨yk, false, yf, yd, yg, yb, yc, yr⟩ ⟨rg, eg, rb, eb, rc, ec, rr, er⟩) r'.name a' ∧ Touch (fun i => i = gr) w12 (setNm w13 gr ⟨yk, false, yf, yd, yg, yb, yc, yr⟩ ⟨rg, eg, rb, eb, rc, ec, rr, er⟩)) := Lib.hid ⟨_, by rw [hin]; exact hr3, by rw [hin]; exact HL13.out.keep (Kept.touch hT3 (fun k _ hk => ⟨hk, ((HD.out k).1 hk).2.2⟩)), HT13.out.trans hT3⟩
          clear hin hT3 hr3 hc13 hf13 e0 e1 e2 e3 e4 e5 e6 e7
          unfold setNm at HU
          dsimp only at HU
          generalize (((((((((w13.setCell ⟨gr, 1, none⟩ (.int .i64 yk)).setCell ⟨gr, 2, none⟩ (.bool false)).setCell ⟨gr, 3, none⟩ (.string yf)).setCell ⟨gr, 4, none⟩ (.string yd)).setCell ⟨gr, 5, none⟩ (.slice rg yg.length eg)).setCell ⟨gr, 6, none⟩ (.slice rb yb.length eb)).setCell ⟨gr, 7, none⟩ (.slice rc yc.length ec)).setCell ⟨gr, 8, none⟩ (.slice rr yr.length er)).setCell ⟨gr, 0, none⟩ (.bool true)) = w14 at *
          obtain ⟨a', hc14, hl14, hT14⟩ := HU.out
          obtain ⟨sg, fg, sb', fb, sc, fc', sr, fr⟩ := a'
          have HX14 := Lib.hid (HX12.out.pass (hT14.mono (fun k _ e => .inr e)) hsb)
          have Hs14 := Lib.hid (Hs12.out.touch hT14 (by omega) (by omega) (fun i hi _ e => by omega))
          have hKD : ∀ k, k < w12.heap.size → D k → D k ∧ ¬ k = gr := fun k _ hk => ⟨hk, ((HD.out k).1 hk).2.2⟩
          have Hfd14 := Lib.hid ((SliceS.still EnS.still) _ _ _ _ _ _ Hfd12.out (Kept.touch hT14 hKD))
          have Hd14 := Lib.hid ((SliceS.still EnS.still) _ _ _ _ _ _ Hd12.out (Kept.touch hT14 hKD))
          have hz14 := hT14.size
          have hrest := Hrest.out
          clear HU Hrest Hr' hT14 hKD Hfd12 Hd12 Hs12 HX12 Hr12 Hc12 HE12 Hnm12
          (try clear Hin)
          obtain ⟨sh', ⟨zk, zh, zf, zd, zg, zb, zc, zr⟩, en', fd', Dr', rd'⟩ := r'
          obtain ⟨h1, h2, h3, h4⟩ := hrest
          dsimp only at h1 h2 h3 h4
          subst h1 h2 h4
          rw [h3] at hc14
          have hr14 : Blk w14 gr 82 #[.bool sh', .int .i64 zk, .bool zh, .string zf, .string zd, .slice sg zg.length fg, .slice sb' zb.length fb, .slice sc zc.length fc', .slice sr zr.length fr, .slice none 0 0, .slice (some ⟨g9, 0, none⟩) 1 1, .slice (some ⟨bb, oo, none⟩) kk c11, .int .u8 0] := by
            unfold resCells at hc14
            dsimp only at hc14
            rw [Hkt.out] at hc14
            exact hc14
          have Hr14 := Lib.hid hr14
          have Hl14 := Lib.hid hl14
          clear hc14 hl14 h3
          have HFl : Hid (Calls Try.prog 40 #[.pointer (some ⟨sb, 0, none⟩)] w14 fun e w' => ∃ vo, e = .returned vo ∧ OwnEn w14.heap.size D w' vo (M.take (ahead notSyn M)) ∧ OpX 88 B sb E (M.drop (ahead notSyn M)) most v w (fun j => j = w.heap.size + 1 ∨ j = gr) w' ∧ Touch (fun i => i = sb) w14 w') := Lib.hid (by
            obtain ⟨E7, v7, hq7, hE7, hgo7⟩ := HX14.out.open Hn.out.2.2
            refine (rflush_any B sb E7 M most v7 w14 hq7 (by omega)).mono ?_
            rintro e wF ⟨vo, rfl, ho8, hop8⟩
            refine ⟨vo, rfl, ho8.touch EnS.still (Touch.refl (fun _ => False) wF) (fun _ _ e => e) (fun j _ hj _ => ⟨?_, fun e => e⟩), hgo7 _ _ hop8, opM_touch hop8⟩
            refine (HD.out j).2 ⟨⟨?_, hj.2⟩, fun e => ?_, fun e => ?_⟩
            · rcases hj.1 with e | e | e
              · exact (hE7 j (.inl e.1)).2.2
              · exact (hE7 j (.inr e)).2.2
              · exact .inr (.inr (by omega))
            · rcases hj.1 with e' | e' | e'
              · exact (hE7 j (.inl e'.1)).2.1 (.inl e)
              · exact (hE7 j (.inr e')).2.1 (.inl e)
              · omega
            · rcases hj.1 with e' | e' | e'
              · exact (hE7 j (.inl e'.1)).2.1 (.inr e)
              · exact (hE7 j (.inr e')).2.1 (.inr e)
              · omega)
          generalize M.take (ahead notSyn M) = F at *
          go_upto_region 16 with (go_at_call 40; refine HFl.out.mono ?_; rintro e w15 ⟨v15, rfl, ho15, hx15, hT15⟩; have hz15 := hT15.size; have HX15 := Lib.hid hx15; have HO15 := Lib.hid ho15; have Hs15 := Lib.hid (Hs14.out.touch hT15 (by omega) (by omega) (fun i _ hi e => hi e)); have Hr15 := Lib.hid (hT15.blk Hr14.out (by omega)); have hr15 := Hr15.out.cell; have hf15 := Hr15.out.frozen; have hKS : ∀ k, k < w14.heap.size → D k → D k ∧ ¬ k = sb := (fun k _ hk => ⟨hk, ((HD.out k).1 hk).1.2⟩); have Hl15 := Lib.hid (Hl14.out.keep (Kept.touch hT15 hKS)); have Hfd15 := Lib.hid ((SliceS.still EnS.still) _ _ _ _ _ _ Hfd14.out (Kept.touch hT15 hKS)); have Hd15 := Lib.hid ((SliceS.still EnS.still) _ _ _ _ _ _ Hd14.out (Kept.touch hT15 hKS)); obtain ⟨p15, c15, hv15, _⟩ := ho15.slice EnS.still (S' := fun _ => True) (fun _ _ _ => trivial) (fun _ _ => trivial); subst hv15; clear ho15 hx15 hT15 hKS)
          have hT16 : Touch (fun i => i = gr) w15 (w15.setCell ⟨gr, 9, none⟩ (.slice p15 F.length c15)) := (Touch.refl (fun i => i = gr) _).setCell (x := ⟨gr, 9, none⟩) (fun _ => rfl) _
          have hr16 := Hr15.out.set_ 9 (.slice p15 F.length c15)
          simp only [List.setIfInBounds_toArray, List.set_cons_succ, List.set_cons_zero] at hr16
          have HX16 := Lib.hid (HX15.out.pass (hT16.mono (fun k _ e => .inr e)) hsb)
          have Hs16 := Lib.hid (Hs15.out.touch hT16 (by omega) (by omega) (fun i hi _ e => by omega))
          have hKD : ∀ k, k < w15.heap.size → D k → (gG E v sb w k ∧ k ≠ w.heap.size + 1) ∧ ¬ k = gr := fun k _ hk => ⟨⟨((HD.out k).1 hk).1, ((HD.out k).1 hk).2.1⟩, ((HD.out k).1 hk).2.2⟩
          have hnm := Hl15.out.keep (Kept.touch hT16 hKD)
          have hfd := (SliceS.still EnS.still) _ _ _ _ _ _ Hfd15.out (Kept.touch hT16 hKD)
          have hdr := (SliceS.still EnS.still) _ _ _ _ _ _ Hd15.out (Kept.touch hT16 hKD)
          have hrw15 := HO15.out.row
          have hen : SliceS 8 EnS (fun j => gG E v sb w j ∧ j ≠ w.heap.size + 1) (w15.setCell ⟨gr, 9, none⟩ (.slice p15 F.length c15)) [.slice p15 F.length c15] F := by
            have ho := OwnS.touch (S' := D) EnS.still HO15.out hT16 (fun k hk e => by have := (hrw15 k hk).1; omega) (fun k _ hk _ => ⟨hk, ((HD.out k).1 hk).2.2⟩)
            obtain ⟨pz, cz, ez, hz⟩ := ho.slice EnS.still (S' := fun j => gG E v sb w j ∧ j ≠ w.heap.size + 1) (fun k _ hk => ⟨((HD.out k).1 hk).1, ((HD.out k).1 hk).2.1⟩) (fun k hk => by have := (hrw15 k hk).1; exact ⟨⟨.inr (.inr (by omega)), by omega⟩, by omega⟩)
            rw [← ez] at hz
            exact hz
          have Hl : Hid (ResL (fun j => gG E v sb w j ∧ j ≠ w.heap.size + 1) (w15.setCell ⟨gr, 9, none⟩ (.slice p15 F.length c15)) ⟨sh', ⟨zk, zh, zf, zd, zg, zb, zc, zr⟩, F, [⟨xk, true, xf, xd, xg, xb, xc, xr⟩], ⟨yk, false, yf, yd, yg, yb, yc, yr⟩ :: l, 0⟩ ⟨⟨sg, fg, sb', fb, sc, fc', sr, fr⟩, p15, c15, some ⟨g9, 0, none⟩, 1, (some ⟨bb, oo, none⟩), c11⟩) := Lib.hid ⟨hnm, hen, hfd, by
            dsimp only
            rw [Hkt.out]
            exact hdr⟩
          clear hT16 hKD hnm hfd hdr hen hrw15 HO15 Hr15 HX15 Hs15 hr15 hf15 Hl15 Hfd15 Hd15 Hr14 Hl14 HX14 Hs14 Hfd14 Hd14 HFl
          generalize w15.setCell ⟨gr, 9, none⟩ (.slice p15 F.length c15) = w16 at *
          have hc16 := hr16.cell
          have hb16 := Hs16.out.bo.cell
          have hf16 := Hs16.out.bo.frozen
          unfold resZ at hb16
          have hend := got_put' (G := fun j => gG E v sb w j ∧ j ≠ w.heap.size + 1) _ _ Hs16.out.bo HX16.out (.inl rfl) Hl.out (fun _ _ e => e) hsb Hn.out.1 Hn.out.2.1
          go_wp2_with fail
          obtain ⟨hK, hM, hC⟩ := hend
          have hcf := hC.cell
          unfold setRes resCells at hcf
          unfold setRes at hK hM
          dsimp only [List.length_cons, List.length_nil, Nat.reduceAdd, Nat.zero_add] at hcf hK hM
          have hll : l.length + 1 = kk := Hkt.out
          rw [hll] at hK hM hcf
          clear hll
          have HK := Lib.hid hK
          have HM := Lib.hid hM
          clear hK hM hC hc16 hb16 hf16 hr16
          refine bodyPost_ret (v := .tuple #[.agg #[.bool sh', .int .i64 zk, .bool zh, .string zf, .string zd, .slice sg zg.length fg, .slice sb' zb.length fb, .slice sc zc.length fc', .slice sr zr.length fr, .slice p15 F.length c15, .slice (some ⟨g9, 0, none⟩) 1 1, .slice (some ⟨bb, oo, none⟩) kk c11, .int .u8 0], .int .i64 0]) (by simp [results, Try.results41, go_sem, hcf]) rfl ?_
          unfold GotR
          (try dsimp only)
          rw [Hg.out, show readyV 69 bs = 0 from (by simp [readyV])]
          dsimp only
          rw [Hge2.out]
          exact ⟨⟨⟨sg, fg, sb', fb, sc, fc', sr, fr⟩, p15, c15, some ⟨g9, 0, none⟩, 1, (some ⟨bb, oo, none⟩), c11⟩, by
            dsimp only [resArg, resCells]
            rw [Hkt.out]
            rfl, HK.out, HM.out⟩

end Go.Proofs.Ytjfhpafaopeogaa
