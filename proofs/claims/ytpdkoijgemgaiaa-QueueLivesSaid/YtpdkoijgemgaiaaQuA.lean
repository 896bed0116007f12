/-
  The contract of queue.Same (layer 21).
-/
import Derived.Test.YtpdkoijgemgaiaaQuEq
import Derived.Test.YtpdkoijgemgaiaaBytesEqual
namespace Go.Proofs.Ytpdkoijgemgaiaa
open Go.RowKit
set_option linter.unusedVariables false
set_option linter.unusedSimpArgs false


def namesEq (x y : EnV) : Bool := (x.frm.toList == y.frm.toList) && (x.dst.toList == y.dst.toList)
def listsEq (x y : EnV) : Bool := listEq opEq x.good y.good && (listEq opEq x.bad y.bad && listEq caEq x.cache y.cache)
/-- Two entries are the same. -/
def enEq (x y : EnV) : Bool := (x.kind == y.kind) && ((x.hide == y.hide) && (namesEq x y && (listsEq x y && (x.reply == y.reply))))

theorem enEq_self (x : EnV) : enEq x x = true := by
  simp [enEq, namesEq, listsEq, listEq_self opEq_self, listEq_self caEq_self]

structure SameI (w0 w : World) (x y : EnV) (a b : EnP) : Prop where
  b1 : Blk w w0.heap.size 26 (enArg x a).cells
  b2 : Blk w (w0.heap.size + 1) 26 (enArg y b).cells
  l1 : EnL (fun k => k < w0.heap.size) w x a
  l2 : EnL (fun k => k < w0.heap.size) w y b
  bel : Below w0.heap.size w0 w

theorem sameI_drewN (w : World) (r : Nat) (B : Nat) (hB : B ≤ w.heap.size) : Below B w (w.drewN r) := ((Touch.refl (fun _ => False) w).drewN r).below hB (fun _ e => e.elim)

theorem SameI.drewN {w0 w : World} {x y : EnV} {a b : EnP} (h : SameI w0 w x y a b) (r : Nat) : SameI w0 (w.drewN r) x y a b :=
  ⟨h.b1, h.b2, h.l1.keep (Kept.all (sameI_drewN _ _ _ (Nat.le_refl _))), h.l2.keep (Kept.all (sameI_drewN _ _ _ (Nat.le_refl _))), h.bel.trans (sameI_drewN _ _ _ h.bel.size)⟩

theorem SameI.start {S S' : Nat → Prop} {w : World} {x y : EnV} {a b : EnP} (h1 : EnL S w x a) (h2 : EnL S' w y b) :
    SameI w ((w.alloc (.cells (enArg x a).cells 26)).alloc (.cells (enArg y b).cells 26)) x y a b := by
  have hb : Below w.heap.size w ((w.alloc (.cells (enArg x a).cells 26)).alloc (.cells (enArg y b).cells 26)) := ((Below.refl _ _).alloc (Nat.le_refl _) _).alloc (by simp) _
  refine ⟨(Blk.new _ _ _).alloc _, ?_, ?_, ?_, hb⟩
  · have := Blk.new (w.alloc (.cells (enArg x a).cells 26)) 26 (enArg y b).cells
    simpa using this
  · exact (h1.keep (Kept.mono (S' := fun k => k < w.heap.size) w (fun k hk _ => hk))).keep (Kept.all hb)
  · exact (h2.keep (Kept.mono (S' := fun k => k < w.heap.size) w (fun k hk _ => hk))).keep (Kept.all hb)

set_option maxRecDepth 100000 in
set_option maxHeartbeats 4000000 in
theorem qSame_any (S S' : Nat → Prop) (x y : EnV) (a b : EnP) (w : World) (h1 : EnL S w x a) (h2 : EnL S' w y b) :
    Calls Try.prog 25 #[enArg x a, enArg y b] w fun e w' => e = .returned (.bool (enEq x y)) ∧ Below w.heap.size w w' := by
  have H0 := Lib.hid (SameI.start h1 h2)
  clear h1 h2
  have Hn : Hid (∀ v, v = namesEq x y → enEq x y = ((x.kind == y.kind) && ((x.hide == y.hide) && (v && (listsEq x y && (x.reply == y.reply)))))) := Lib.hid (by rintro v rfl; rfl)
  have Hl : Hid (listsEq x y = (listEq opEq x.good y.good && (listEq opEq x.bad y.bad && listEq caEq x.cache y.cache))) := Lib.hid rfl
  have HN : Hid (namesEq x y = ((x.frm.toList == y.frm.toList) && (x.dst.toList == y.dst.toList))) := Lib.hid rfl
  generalize namesEq x y = nv at *
  generalize listsEq x y = lv at *
  generalize enEq x y = ev at *
  obtain ⟨xk, xh, xf, xd, xg, xb, xc, xr⟩ := x
  obtain ⟨yk, yh, yf, yd, yg, yb, yc, yr⟩ := y
  obtain ⟨pg, cg, pb, cb, pc, cc, pr, cr⟩ := a
  obtain ⟨qg, dg, qb, db, qc, dc, qr, dr⟩ := b
  unfold enArg
  dsimp only at *
  go_enter Try.func25, Try.ntmps25
  go_upto_region 1 with (fail)
  unfold enArg at H0
  simp only [Value.cells] at H0
  generalize (w.alloc (.cells #[.int .i64 xk, .bool xh, .string xf, .string xd, .slice pg xg.length cg, .slice pb xb.length cb, .slice pc xc.length cc, .slice pr xr.length cr] 26)).alloc (.cells #[.int .i64 yk, .bool yh, .string yf, .string yd, .slice qg yg.length dg, .slice qb yb.length db, .slice qc yc.length dc, .slice qr yr.length dr] 26) = w1 at *
  have hc1 : ∀ i, w1.cell? ⟨w.heap.size, i, none⟩ = (#[.int .i64 xk, .bool xh, .string xf, .string xd, .slice pg xg.length cg, .slice pb xb.length cb, .slice pc xc.length cc, .slice pr xr.length cr] : Array Value)[i]? := H0.out.b1.cell
  have hd1 : ∀ i, w1.cell? ⟨w.heap.size + 1, i, none⟩ = (#[.int .i64 yk, .bool yh, .string yf, .string yd, .slice qg yg.length dg, .slice qb yb.length db, .slice qc yc.length dc, .slice qr yr.length dr] : Array Value)[i]? := H0.out.b2.cell
  go_cut [5] (fun v5 wx => v5 = .bool nv ∧ wx = w1)
  case first =>
    go_wp2_with fail
    all_goals
      go_meet
      refine ⟨?_, rfl⟩
      rw [HN.out]
      simp_all
  case rest =>
    obtain ⟨rfl, rfl⟩ := hcut
    go_upto_region 2 with (fail)
    go_cut [6] (fun v6 wx => v6 = .bool lv ∧ ∃ r, wx = wc.drewN r)
    case first =>
      go_wp2_with fail
      refine (equal_ops _ _ pg qg _ _ cg dg xg yg _ H0.out.l1.good H0.out.l2.good).mono ?_
      rintro e w2 ⟨rfl, r2, rfl⟩
      cases hg : listEq opEq xg yg with
      | false =>
        rw [hg] at Hl
        go_wp2_with fail
        go_meet
        exact ⟨by rw [Hl.out]; rfl, r2, rfl⟩
      | true =>
        rw [hg] at Hl
        have H2 := Lib.hid (H0.out.drewN r2)
        go_wp2_with fail
        refine (equal_ops _ _ pb qb _ _ cb db xb yb _ H2.out.l1.bad H2.out.l2.bad).mono ?_
        rintro e w3 ⟨rfl, r3, rfl⟩
        cases hb : listEq opEq xb yb with
        | false =>
          rw [hb] at Hl
          go_wp2_with fail
          go_meet
          exact ⟨by rw [Hl.out]; rfl, r2 + r3, rfl⟩
        | true =>
          rw [hb] at Hl
          have H3 := Lib.hid (H0.out.drewN (r2 + r3))
          go_wp2_with fail
          refine (equal_cas _ _ pc qc _ _ cc dc xc yc _ H3.out.l1.cache H3.out.l2.cache).mono ?_
          rintro e w4 ⟨rfl, r4, rfl⟩
          go_wp2_with fail
          go_meet
          exact ⟨by rw [Hl.out]; simp, r2 + r3 + r4, rfl⟩
    case rest =>
      obtain ⟨rfl, r, rfl⟩ := hcut
      have H5 := Lib.hid (H0.out.drewN r)
      have HB : Hid (Below w.heap.size w _) := Lib.hid H5.out.bel
      have hr1 := H5.out.l1.reply.parts.2.2.2
      have hr2 := H5.out.l2.reply.parts.2.2.2
      have hc5 : ∀ i, World.cell? _ ⟨w.heap.size, i, none⟩ = (#[.int .i64 xk, .bool xh, .string xf, .string xd, .slice pg xg.length cg, .slice pb xb.length cb, .slice pc xc.length cc, .slice pr xr.length cr] : Array Value)[i]? := H5.out.b1.cell
      have hd5 : ∀ i, World.cell? _ ⟨w.heap.size + 1, i, none⟩ = (#[.int .i64 yk, .bool yh, .string yf, .string yd, .slice qg yg.length dg, .slice qb yb.length db, .slice qc yc.length dc, .slice qr yr.length dr] : Array Value)[i]? := H5.out.b2.cell
      have Heq := Lib.hid (equal_any pr qr xr yr cr dr _ hr1 hr2)
      clear hc1 hd1 H0 H5 hr1 hr2
      generalize World.drewN _ r = w5 at *
      go_wp2_with (go_at_call 58; refine Heq.out.mono ?_; rintro e w6 ⟨rfl, rfl⟩)
      all_goals
        go_ret
        refine ⟨ret_bool ?_, HB.out⟩
        rw [Hn.out _ rfl]
        simp_all

end Go.Proofs.Ytpdkoijgemgaiaa
