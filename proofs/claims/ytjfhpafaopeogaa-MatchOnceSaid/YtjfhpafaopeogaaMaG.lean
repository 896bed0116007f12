/-
  A fault of what is hidden, told in the place of what stands behind it: instead (layer 22).
-/
import Derived.Test.YtjfhpafaopeogaaMaC
namespace Go.Proofs.Ytjfhpafaopeogaa
open Go.RowKit
set_option linter.unusedVariables false
set_option linter.unusedSimpArgs false

theorem insteadV_rest (r : ResV) (k : Int) : (insteadV r k).ended = r.ended ∧ (insteadV r k).failed = r.failed ∧ (insteadV r k).dropped = r.dropped ∧ (insteadV r k).ready = r.ready := by
  obtain ⟨sh, na, en, fd, dr, rdy⟩ := r
  unfold insteadV
  cases dr with
  | nil => exact ⟨rfl, rfl, rfl, rfl⟩
  | cons d l =>
    dsimp only
    split
    · exact ⟨rfl, rfl, rfl, rfl⟩
    · exact ⟨rfl, rfl, rfl, rfl⟩

theorem insteadV_ended (sh : Bool) (x : EnV) (e e' : List EnV) (f d : List EnV) (y k : Int) :
    insteadV ⟨sh, x, e, f, d, y⟩ k = ⟨(insteadV ⟨sh, x, e', f, d, y⟩ k).shw, (insteadV ⟨sh, x, e', f, d, y⟩ k).name, e, f, d, y⟩ := by
  unfold insteadV
  cases d with
  | nil => rfl
  | cons d l =>
    dsimp only
    split <;> rfl

theorem fails_kind {k c : Int} (h : failsB k c = true) : c = 69 := by
  unfold failsB at h
  simp at h
  exact h.1.1
theorem fails_ends {k c : Int} (h : failsB k c = true) : endsB k c = false := by
  rw [fails_kind h]
  unfold endsB
  rcases kind_cases k with rfl | rfl | rfl | rfl | rfl | rfl | rfl | rfl | rfl | hk
  case inr.inr.inr.inr.inr.inr.inr.inr.inr => rw [rowT_none hk]; decide
  all_goals decide
theorem fails_takes {k c : Int} (h : failsB k c = true) : takesB k c = true := by
  unfold failsB at h
  simp at h
  exact h.2

/-- Another name is stored into a result. -/
abbrev setNm (w : World) (g : Nat) (x : EnV) (a : EnP) : World :=
  (((((((((w.setCell ⟨g, 1, none⟩ (.int .i64 x.kind)).setCell ⟨g, 2, none⟩ (.bool x.hide)).setCell ⟨g, 3, none⟩ (.string x.frm)).setCell ⟨g, 4, none⟩ (.string x.dst)).setCell ⟨g, 5, none⟩ (.slice a.pg x.good.length a.cg)).setCell ⟨g, 6, none⟩ (.slice a.pb x.bad.length a.cb)).setCell ⟨g, 7, none⟩ (.slice a.pc x.cache.length a.cc)).setCell ⟨g, 8, none⟩ (.slice a.pr x.reply.length a.cr)).setCell ⟨g, 0, none⟩ (.bool true))
theorem setNm_touch (w : World) (g : Nat) (x : EnV) (a : EnP) : Touch (fun k => k = g) w (setNm w g x a) :=
  ((((((((((Touch.refl (fun k => k = g) w).setCell (x := ⟨g, 1, none⟩) (fun _ => rfl) _).setCell (x := ⟨g, 2, none⟩) (fun _ => rfl) _).setCell (x := ⟨g, 3, none⟩) (fun _ => rfl) _).setCell (x := ⟨g, 4, none⟩) (fun _ => rfl) _).setCell (x := ⟨g, 5, none⟩) (fun _ => rfl) _).setCell (x := ⟨g, 6, none⟩) (fun _ => rfl) _).setCell (x := ⟨g, 7, none⟩) (fun _ => rfl) _).setCell (x := ⟨g, 8, none⟩) (fun _ => rfl) _).setCell (x := ⟨g, 0, none⟩) (fun _ => rfl) _)
theorem setNm_blk {t : TypeId} {w : World} {g : Nat} {r : ResV} {p : ResP} (x : EnV) (a : EnP) (h : Blk w g t (resCells r p)) : Blk (setNm w g x a) g t (resCells ⟨true, x, r.ended, r.failed, r.dropped, r.ready⟩ { p with a := a }) := by
  unfold resCells at *
  have h8 := (((((((((h.set_ 1 (.int .i64 x.kind)).set_ 2 (.bool x.hide)).set_ 3 (.string x.frm)).set_ 4 (.string x.dst)).set_ 5 (.slice a.pg x.good.length a.cg)).set_ 6 (.slice a.pb x.bad.length a.cb)).set_ 7 (.slice a.pc x.cache.length a.cc)).set_ 8 (.slice a.pr x.reply.length a.cr)).set_ 0 (.bool true))
  simpa using h8

/-- What 'instead' leaves. -/
def InsR (t : TypeId) (gr : Nat) (G : Nat → Prop) (r : ResV) (p : ResP) (k : Int) (w : World) (e : Ending) (w' : World) : Prop :=
  (∃ z, e = .returned z) ∧ ∃ a, Blk w' gr t (resCells (insteadV r k) { p with a := a }) ∧ EnL G w' (insteadV r k).name a ∧ Touch (fun i => i = gr) w w'

set_option maxRecDepth 100000 in
set_option maxHeartbeats 4000000 in
theorem instead_any (gr : Nat) (G : Nat → Prop) (r : ResV) (p : ResP) (b : BkV) (w : World) (hr : Blk w gr 62 (resCells r p)) (hn : EnL G w r.name p.a) (hd : SliceS 8 EnS G w [.slice p.pd r.dropped.length p.cd] r.dropped) (hG : ¬ G gr) :
    Calls Try.prog 75 #[.pointer (some ⟨gr, 0, none⟩), bkArg b] w (InsR 62 gr G r p b.kind w) := by
  have hlt := hr.lt
  have hbW : Below w.heap.size w (w.alloc (.cells (bkCl b) 69)) := (Below.refl _ _).alloc (Nat.le_refl _) _
  have hk0 : Blk (w.alloc (.cells (bkCl b) 69)) w.heap.size 69 (bkCl b) := Blk.new _ _ _
  have hr0 := hr.below hbW hr.lt
  have hn0 := hn.keep (Kept.all hbW)
  have hd0 := hd.below EnS.still hbW
  have hT0 := Touch.of_below (p := fun i => i = gr) hbW
  have hz0 : w.heap.size < (w.alloc (.cells (bkCl b) 69)).heap.size := by simp
  have Hfl := Lib.hid (fun d w0 => fails_any d b.kind w0)
  obtain ⟨bk, bs, bt, bn, bv, n, m, oa, oln, oc, ca, cln, cc, ra, rl, rc, fa, fl, fc⟩ := b
  obtain ⟨sh, ⟨xk, xh, xf, xd, xg, xb, xc, xr⟩, en, fd, dr, rdy⟩ := r
  obtain ⟨⟨pg, cg, pb, cb, pc, cc', pr, cr⟩, pe, ce, pf, cf, pd, cd⟩ := p
  unfold bkArg
  unfold bkCl at *
  dsimp only at *
  have Hr0 := Lib.hid hr0
  have Hn0 := Lib.hid hn0
  have Hd0 := Lib.hid hd0
  have HT0 := Lib.hid hT0
  have hc0 := hr0.cell
  have hf0 := hr0.frozen
  have hk := hk0.cell
  have Hk0 := Lib.hid hk0
  unfold resCells at hc0
  dsimp only at hc0
  clear hr hn hd hr0 hn0 hd0 hT0 hbW hk0
  go_enter Try.func75, Try.ntmps75
  go_upto_region 1 with (fail)
  generalize w.alloc (.cells #[.int .u8 bk, .int .u8 bs, .string bt, .string bn, .string bv, .int .i64 n, .int .i64 m, .slice oa oln oc, .slice ca cln cc, .slice ra rl rc, .slice fa fl fc] 69) = w0 at *
  cases xh with
  | false =>
    go_wp2_with fail
    refine bodyPost_ret (v := .tuple #[]) (by simp [results, Try.results75, go_sem]) rfl ?_
    have hin : insteadV ⟨sh, ⟨xk, false, xf, xd, xg, xb, xc, xr⟩, en, fd, dr, rdy⟩ bk = ⟨sh, ⟨xk, false, xf, xd, xg, xb, xc, xr⟩, en, fd, dr, rdy⟩ := by cases dr <;> simp [insteadV]
    unfold InsR
    rw [hin]
    exact ⟨⟨_, rfl⟩, _, Hr0.out, Hn0.out, HT0.out⟩
  | true =>
    cases dr with
    | nil =>
      simp only [List.length_nil] at hc0
      go_wp2_with fail
      refine bodyPost_ret (v := .tuple #[]) (by simp [results, Try.results75, go_sem]) rfl ?_
      exact ⟨⟨_, rfl⟩, _, by simpa [insteadV] using Hr0.out, by simpa [insteadV] using Hn0.out, HT0.out⟩
    | cons d l =>
      obtain ⟨bb, oo, a, rfl, hS, hbl, hL, c0, c1, c2, c3, c4, c5, c6, c7⟩ := en_at Hd0.out (k := 0) (by simp)
      simp only [List.getElem_cons_zero, Nat.zero_mul, Nat.add_zero] at c0 c1 c2 c3 c4 c5 c6 c7 hL
      have hl0 : ((((d :: l).length : Nat) : Int) == 0) = false := by simp; omega
      have hl1 : (0 : Int) < ((d :: l).length : Int) := by simp
      obtain ⟨N, hN⟩ : ∃ N, (d :: l).length = N := ⟨_, rfl⟩
      rw [hN] at hc0 hl0 hl1
      have HL := Lib.hid hL
      have Hin : Hid (insteadV ⟨sh, ⟨xk, true, xf, xd, xg, xb, xc, xr⟩, en, fd, d :: l, rdy⟩ bk = if (!d.hide && failsB d.kind bk) = true then ⟨true, d, en, fd, d :: l, rdy⟩ else ⟨sh, ⟨xk, true, xf, xd, xg, xb, xc, xr⟩, en, fd, d :: l, rdy⟩) := Lib.hid (by simp [insteadV])
      have HN := Lib.hid hN
      clear hL hS hN
      obtain ⟨yk, yh, yf, yd, yg, yb, yc, yr⟩ := d
      obtain ⟨qg, dg, qb, db, qc, dc, qr, dr⟩ := a
      dsimp only at c0 c1 c2 c3 c4 c5 c6 c7 Hin
      have Hfy := Lib.hid (fun w0 => Hfl.out yk w0)
      go_upto_region 3 with (fail)
      have hal : Below w0.heap.size w0 (w0.alloc (.cells #[.int .i64 yk, .bool yh, .string yf, .string yd, .slice qg yg.length dg, .slice qb yb.length db, .slice qc yc.length dc, .slice qr yr.length dr] 52)) := (Below.refl _ _).alloc (Nat.le_refl _) _
      have HE1 : Hid (Blk (w0.alloc (.cells #[.int .i64 yk, .bool yh, .string yf, .string yd, .slice qg yg.length dg, .slice qb yb.length db, .slice qc yc.length dc, .slice qr yr.length dr] 52)) w0.heap.size 52 #[.int .i64 yk, .bool yh, .string yf, .string yd, .slice qg yg.length dg, .slice qb yb.length db, .slice qc yc.length dc, .slice qr yr.length dr]) := Lib.hid (Blk.new _ _ _)
      have Hr1 := Lib.hid (Hr0.out.below hal Hr0.out.lt)
      have Hk1 := Lib.hid (Hk0.out.below hal Hk0.out.lt)
      have Hn1 := Lib.hid (Hn0.out.keep (Kept.all hal))
      have HL1 := Lib.hid (HL.out.keep (Kept.all hal))
      have HT1 := Lib.hid (HT0.out.trans (Touch.of_below (hal.mono (Nat.le_refl _))))
      have hgl := Hr0.out.lt
      have hwl := Hk0.out.lt
      clear hal hc0 hf0 hk c0 c1 c2 c3 c4 c5 c6 c7 Hr0 Hk0 Hn0 HL HT0 Hd0
      generalize w0.alloc (.cells #[.int .i64 yk, .bool yh, .string yf, .string yd, .slice qg yg.length dg, .slice qb yb.length db, .slice qc yc.length dc, .slice qr yr.length dr] 52) = w1 at *
      generalize w0.heap.size = gn at *
      have he1 := HE1.out.cell
      have hk1 := Hk1.out.cell
      have hc1 := Hr1.out.cell
      have hf1 := Hr1.out.frozen
      unfold resCells at hc1
      dsimp only at hc1
      rw [HN.out] at hc1
      cases yh with
      | true =>
        have hin := Hin.out
        simp only [Bool.not_true, Bool.false_and, Bool.false_eq_true, if_false] at hin
        have Hin' := Lib.hid hin
        clear hin Hin
        go_wp2_with fail
        refine bodyPost_ret (v := .tuple #[]) (by simp [results, Try.results75, go_sem]) rfl ?_
        unfold InsR
        rw [Hin'.out]
        exact ⟨⟨_, rfl⟩, _, Hr1.out, Hn1.out, HT1.out⟩
      | false =>
        cases hfy : failsB yk bk with
        | false =>
          rw [hfy] at Hfy
          have hin := Hin.out
          rw [hfy] at hin
          simp only [Bool.and_false, Bool.false_eq_true, if_false] at hin
          have Hin' := Lib.hid hin
          clear hin Hin
          go_wp2_with (go_at_call 72; refine (Hfy.out _).mono ?_; rintro e w2 ⟨rfl, hb2⟩)
          refine bodyPost_ret (v := .tuple #[]) (by simp [results, Try.results75, go_sem]) rfl ?_
          unfold InsR
          rw [Hin'.out]
          exact ⟨⟨_, rfl⟩, _, Hr1.out.below hb2 Hr1.out.lt, Hn1.out.keep (Kept.all hb2), HT1.out.trans (Touch.of_below hb2)⟩
        | true =>
          rw [hfy] at Hfy
          have hin := Hin.out
          rw [hfy] at hin
          simp only [Bool.not_false, Bool.and_true, if_true] at hin
          have Hin' := Lib.hid hin
          clear hin Hin
          go_upto_region 4 with (go_at_call 72; refine (Hfy.out _).mono ?_; rintro e w2 ⟨rfl, hb2⟩; have Hr2 := Lib.hid (Hr1.out.below hb2 Hr1.out.lt); have HL2 := Lib.hid (HL1.out.keep (Kept.all hb2)); have HT2 := Lib.hid (HT1.out.trans (Touch.of_below hb2)); have he2 := (HE1.out.below hb2 HE1.out.lt).cell; have hc2 := Hr2.out.cell; have hf2 := Hr2.out.frozen; unfold resCells at hc2; dsimp only at hc2; rw [HN.out] at hc2; clear he1 hk1 hc1 hf1 hb2)
          go_wp2_with fail
          refine bodyPost_ret (v := .tuple #[]) (by simp [results, Try.results75, go_sem]) rfl ?_
          unfold InsR
          rw [Hin'.out]
          have hT3 := setNm_touch w2 gr ⟨yk, false, yf, yd, yg, yb, yc, yr⟩ ⟨qg, dg, qb, db, qc, dc, qr, dr⟩
          have hr3 := setNm_blk ⟨yk, false, yf, yd, yg, yb, yc, yr⟩ ⟨qg, dg, qb, db, qc, dc, qr, dr⟩ Hr2.out
          exact ⟨⟨_, rfl⟩, _, hr3, HL2.out.keep (Kept.touch hT3 (fun k _ hk => ⟨hk, fun e => hG (by rw [← e]; exact hk)⟩)), HT2.out.trans hT3⟩

end Go.Proofs.Ytjfhpafaopeogaa
