/-
  Messages of clients (layer 6): whether two are the same; both.
-/
import Derived.Test.YtldjfmddjbdciaaArr3
namespace Go.Proofs.Ytldjfmddjbdciaa
open Go.RowKit
set_option linter.unusedVariables false
set_option linter.unusedSimpArgs false

/-- Two messages in two blocks. -/
structure Fo2 (w0 w : World) (g1 g2 : Nat) (x y : FoV) (a b : FoP) : Prop where
  b1 : Blk w g1 44 (foCells x a)
  b2 : Blk w g2 44 (foCells y b)
  l1 : FoL (fun _ => True) w x a
  l2 : FoL (fun _ => True) w y b
  bel : Below w0.heap.size w0 w
section
variable {w0 w w' : World} {g1 g2 : Nat} {x y : FoV} {a b : FoP}
theorem Fo2.step (h : Fo2 w0 w g1 g2 x y a b) (hb : Below w.heap.size w w') : Fo2 w0 w' g1 g2 x y a b := ⟨h.b1.below hb h.b1.lt, h.b2.below hb h.b2.lt, h.l1.below hb, h.l2.below hb, h.bel.trans (hb.mono h.bel.size)⟩
theorem Fo2.start {S S' : Nat → Prop} {w : World} (h1 : FoL S w x a) (h2 : FoL S' w y b) :
    Fo2 w ((w.alloc (.cells (foCells x a) 44)).alloc (.cells (foCells y b) 44)) w.heap.size (w.heap.size + 1) x y a b := by
  have hb : Below w.heap.size w ((w.alloc (.cells (foCells x a) 44)).alloc (.cells (foCells y b) 44)) := ((Below.refl _ _).alloc (Nat.le_refl _) _).alloc (by simp) _
  refine ⟨(Blk.new _ _ _).alloc _, ?_, (h1.below hb).any, (h2.below hb).any, hb⟩
  have := Blk.new (w.alloc (.cells (foCells x a) 44)) 44 (foCells y b)
  simpa using this
end

theorem foEq_parts (x y : FoV) : foEq x y = ((x.kind == y.kind) && ((x.what == y.what) && ((x.max == y.max) && (((x.name.toList == y.name.toList) && ((x.portal.toList == y.portal.toList) && (x.text.toList == y.text.toList))) && (listEq intsEq x.oids y.oids && (listEq intsEq x.formats y.formats && (listEq intsEq x.results y.results && listEq ceEq x.params y.params))))))) := by
  unfold foEq headEq
  generalize (x.kind == y.kind) = a1
  generalize (x.what == y.what) = a2
  generalize (x.max == y.max) = a3
  generalize (x.name.toList == y.name.toList) = a4
  generalize (x.portal.toList == y.portal.toList) = a5
  generalize (x.text.toList == y.text.toList) = a6
  cases a1 <;> cases a2 <;> cases a3 <;> cases a4 <;> cases a5 <;> cases a6 <;> rfl

set_option maxRecDepth 100000 in
set_option maxHeartbeats 4000000 in
theorem foSame_any (S S' : Nat → Prop) (x y : FoV) (a b : FoP) (w : World) (h1 : FoL S w x a) (h2 : FoL S' w y b) :
    Calls Try.prog 30 #[foArg x a, foArg y b] w fun e w' => e = .returned (.bool (foEq x y)) ∧ Below w.heap.size w w' := by
  have H0 := Lib.hid (Fo2.start h1 h2)
  have Hv := Lib.hid (foEq_parts x y)
  clear h1 h2
  generalize foEq x y = ev at *
  obtain ⟨xk, xw, xn, xp, xt, xo, xf, xr, xc, xm⟩ := x
  obtain ⟨yk, yw, yn, yp, yt, yo, yf, yr, yc, ym⟩ := y
  obtain ⟨apo, aco, apf, acf, apr, acr, app, acp⟩ := a
  obtain ⟨bpo, bco, bpf, bcf, bpr, bcr, bpp, bcp⟩ := b
  unfold foArg
  unfold foCells at H0 ⊢
  dsimp only at *
  have HO := Lib.hid (fun (w1 : World) (H : Fo2 w w1 w.heap.size (w.heap.size + 1) ⟨xk, xw, xn, xp, xt, xo, xf, xr, xc, xm⟩ ⟨yk, yw, yn, yp, yt, yo, yf, yr, yc, ym⟩ ⟨apo, aco, apf, acf, apr, acr, app, acp⟩ ⟨bpo, bco, bpf, bcf, bpr, bcr, bpp, bcp⟩) => eqInts_any _ _ _ _ _ _ _ _ _ _ w1 H.l1.lo H.l2.lo)
  have HF := Lib.hid (fun (w1 : World) (H : Fo2 w w1 w.heap.size (w.heap.size + 1) ⟨xk, xw, xn, xp, xt, xo, xf, xr, xc, xm⟩ ⟨yk, yw, yn, yp, yt, yo, yf, yr, yc, ym⟩ ⟨apo, aco, apf, acf, apr, acr, app, acp⟩ ⟨bpo, bco, bpf, bcf, bpr, bcr, bpp, bcp⟩) => eqInts_any _ _ _ _ _ _ _ _ _ _ w1 H.l1.lf H.l2.lf)
  have HR := Lib.hid (fun (w1 : World) (H : Fo2 w w1 w.heap.size (w.heap.size + 1) ⟨xk, xw, xn, xp, xt, xo, xf, xr, xc, xm⟩ ⟨yk, yw, yn, yp, yt, yo, yf, yr, yc, ym⟩ ⟨apo, aco, apf, acf, apr, acr, app, acp⟩ ⟨bpo, bco, bpf, bcf, bpr, bcr, bpp, bcp⟩) => eqInts_any _ _ _ _ _ _ _ _ _ _ w1 H.l1.lr H.l2.lr)
  have HP := Lib.hid (fun (w1 : World) (H : Fo2 w w1 w.heap.size (w.heap.size + 1) ⟨xk, xw, xn, xp, xt, xo, xf, xr, xc, xm⟩ ⟨yk, yw, yn, yp, yt, yo, yf, yr, yc, ym⟩ ⟨apo, aco, apf, acf, apr, acr, app, acp⟩ ⟨bpo, bco, bpf, bcf, bpr, bcr, bpp, bcp⟩) => eqCells_any _ _ _ _ _ _ _ _ _ _ w1 H.l1.lp H.l2.lp)
  have HC : Hid (∀ w1 : World, Fo2 w w1 w.heap.size (w.heap.size + 1) ⟨xk, xw, xn, xp, xt, xo, xf, xr, xc, xm⟩ ⟨yk, yw, yn, yp, yt, yo, yf, yr, yc, ym⟩ ⟨apo, aco, apf, acf, apr, acr, app, acp⟩ ⟨bpo, bco, bpf, bcf, bpr, bcr, bpp, bcp⟩ → (∀ i, w1.cell? ⟨w.heap.size, i, none⟩ = (#[.int .u8 xk, .int .u8 xw, .string xn, .string xp, .string xt, .slice apo xo.length aco, .slice apf xf.length acf, .slice apr xr.length acr, .slice app xc.length acp, .int .i64 xm] : Array Value)[i]?) ∧ (∀ i, w1.cell? ⟨w.heap.size + 1, i, none⟩ = (#[.int .u8 yk, .int .u8 yw, .string yn, .string yp, .string yt, .slice bpo yo.length bco, .slice bpf yf.length bcf, .slice bpr yr.length bcr, .slice bpp yc.length bcp, .int .i64 ym] : Array Value)[i]?)) := Lib.hid (fun w1 H => ⟨H.b1.cell, H.b2.cell⟩)
  dsimp only at HO HF HR HP
  generalize listEq intsEq xo yo = bo at *
  generalize listEq intsEq xf yf = bf at *
  generalize listEq intsEq xr yr = br at *
  generalize listEq ceEq xc yc = bc at *
  go_enter Try.func30, Try.ntmps30
  go_upto_region 1 with (fail)
  generalize (w.alloc (.cells #[.int .u8 xk, .int .u8 xw, .string xn, .string xp, .string xt, .slice apo xo.length aco, .slice apf xf.length acf, .slice apr xr.length acr, .slice app xc.length acp, .int .i64 xm] 44)).alloc (.cells #[.int .u8 yk, .int .u8 yw, .string yn, .string yp, .string yt, .slice bpo yo.length bco, .slice bpf yf.length bcf, .slice bpr yr.length bcr, .slice bpp yc.length bcp, .int .i64 ym] 44) = w1 at *
  obtain ⟨hc1, hd1⟩ := HC.out w1 H0.out
  have hq := fun w => eql_str3 xn xp xt yn yp yt w
  generalize ((xn.toList == yn.toList) && ((xp.toList == yp.toList) && (xt.toList == yt.toList))) = tb at *
  go_wp2_with fail
  refine (HO.out _ H0.out).mono ?_
  rintro e wnA ⟨rfl, hb⟩
  have HA := Lib.hid (H0.out.step hb)
  obtain ⟨hcA, hdA⟩ := HC.out wnA HA.out
  clear hb
  clear hc1 hd1
  cases bo with
  | false =>
    go_upto_region 3 with fail
    by_cases hk : xk = yk
    · subst hk
      by_cases hw : xw = yw
      · subst hw
        by_cases hm : xm = ym
        · subst hm
          cases tb with
          | false =>
            go_wp2_with fail
            go_ret
            exact ⟨ret_bool (by rw [Hv.out]; simp), HA.out.bel⟩
          | true =>
            go_wp2_with fail
            go_ret
            exact ⟨ret_bool (by rw [Hv.out]; simp), HA.out.bel⟩
        · have hmb : (xm == ym) = false := by simpa using hm
          rw [hmb] at Hv
          go_wp2_with fail
          go_ret
          exact ⟨ret_bool (by rw [Hv.out]; simp), HA.out.bel⟩
      · have hwb : (xw == yw) = false := by simpa using hw
        rw [hwb] at Hv
        go_wp2_with fail
        go_ret
        exact ⟨ret_bool (by rw [Hv.out]; simp), HA.out.bel⟩
    · have hkb : (xk == yk) = false := by simpa using hk
      rw [hkb] at Hv
      go_wp2_with fail
      go_ret
      exact ⟨ret_bool (by rw [Hv.out]; simp), HA.out.bel⟩
  | true =>
    go_wp2_with fail
    refine (HF.out _ HA.out).mono ?_
    rintro e wnB ⟨rfl, hb⟩
    have HB := Lib.hid (HA.out.step hb)
    obtain ⟨hcB, hdB⟩ := HC.out wnB HB.out
    clear hb
    clear hcA hdA
    cases bf with
    | false =>
      go_upto_region 3 with fail
      by_cases hk : xk = yk
      · subst hk
        by_cases hw : xw = yw
        · subst hw
          by_cases hm : xm = ym
          · subst hm
            cases tb with
            | false =>
              go_wp2_with fail
              go_ret
              exact ⟨ret_bool (by rw [Hv.out]; simp), HB.out.bel⟩
            | true =>
              go_wp2_with fail
              go_ret
              exact ⟨ret_bool (by rw [Hv.out]; simp), HB.out.bel⟩
          · have hmb : (xm == ym) = false := by simpa using hm
            rw [hmb] at Hv
            go_wp2_with fail
            go_ret
            exact ⟨ret_bool (by rw [Hv.out]; simp), HB.out.bel⟩
        · have hwb : (xw == yw) = false := by simpa using hw
          rw [hwb] at Hv
          go_wp2_with fail
          go_ret
          exact ⟨ret_bool (by rw [Hv.out]; simp), HB.out.bel⟩
      · have hkb : (xk == yk) = false := by simpa using hk
        rw [hkb] at Hv
        go_wp2_with fail
        go_ret
        exact ⟨ret_bool (by rw [Hv.out]; simp), HB.out.bel⟩
    | true =>
      go_wp2_with fail
      refine (HR.out _ HB.out).mono ?_
      rintro e wnD ⟨rfl, hb⟩
      have HD := Lib.hid (HB.out.step hb)
      obtain ⟨hcD, hdD⟩ := HC.out wnD HD.out
      clear hb
      clear hcB hdB
      cases br with
      | false =>
        go_upto_region 3 with fail
        by_cases hk : xk = yk
        · subst hk
          by_cases hw : xw = yw
          · subst hw
            by_cases hm : xm = ym
            · subst hm
              cases tb with
              | false =>
                go_wp2_with fail
                go_ret
                exact ⟨ret_bool (by rw [Hv.out]; simp), HD.out.bel⟩
              | true =>
                go_wp2_with fail
                go_ret
                exact ⟨ret_bool (by rw [Hv.out]; simp), HD.out.bel⟩
            · have hmb : (xm == ym) = false := by simpa using hm
              rw [hmb] at Hv
              go_wp2_with fail
              go_ret
              exact ⟨ret_bool (by rw [Hv.out]; simp), HD.out.bel⟩
          · have hwb : (xw == yw) = false := by simpa using hw
            rw [hwb] at Hv
            go_wp2_with fail
            go_ret
            exact ⟨ret_bool (by rw [Hv.out]; simp), HD.out.bel⟩
        · have hkb : (xk == yk) = false := by simpa using hk
          rw [hkb] at Hv
          go_wp2_with fail
          go_ret
          exact ⟨ret_bool (by rw [Hv.out]; simp), HD.out.bel⟩
      | true =>
        go_upto_region 3 with fail
        by_cases hk : xk = yk
        · subst hk
          by_cases hw : xw = yw
          · subst hw
            by_cases hm : xm = ym
            · subst hm
              cases tb with
              | false =>
                go_wp2_with fail
                go_ret
                exact ⟨ret_bool (by rw [Hv.out]; simp), HD.out.bel⟩
              | true =>
                go_wp2_with fail
                refine (HP.out _ HD.out).mono ?_
                rintro e wn9 ⟨rfl, hb⟩
                have H9 := Lib.hid (HD.out.step hb)
                obtain ⟨hc9, hd9⟩ := HC.out wn9 H9.out
                clear hb
                go_wp2_with fail
                go_ret
                exact ⟨ret_bool (by rw [Hv.out]; simp), H9.out.bel⟩
            · have hmb : (xm == ym) = false := by simpa using hm
              rw [hmb] at Hv
              go_wp2_with fail
              go_ret
              exact ⟨ret_bool (by rw [Hv.out]; simp), HD.out.bel⟩
          · have hwb : (xw == yw) = false := by simpa using hw
            rw [hwb] at Hv
            go_wp2_with fail
            go_ret
            exact ⟨ret_bool (by rw [Hv.out]; simp), HD.out.bel⟩
        · have hkb : (xk == yk) = false := by simpa using hk
          rw [hkb] at Hv
          go_wp2_with fail
          go_ret
          exact ⟨ret_bool (by rw [Hv.out]; simp), HD.out.bel⟩

set_option maxRecDepth 100000 in
set_option maxHeartbeats 4000000 in
theorem rfoSame_any (S S' : Nat → Prop) (x y : FoV) (a b : FoP) (w : World) (h1 : FoL S w x a) (h2 : FoL S' w y b) :
    Calls Try.prog 31 #[foArg x a, foArg y b] w fun e w' => e = .returned (.bool (foEq x y)) ∧ Below w.heap.size w w' := by
  have H0 := Lib.hid (Fo2.start h1 h2)
  have Hv := Lib.hid (foEq_parts x y)
  clear h1 h2
  generalize foEq x y = ev at *
  obtain ⟨xk, xw, xn, xp, xt, xo, xf, xr, xc, xm⟩ := x
  obtain ⟨yk, yw, yn, yp, yt, yo, yf, yr, yc, ym⟩ := y
  obtain ⟨apo, aco, apf, acf, apr, acr, app, acp⟩ := a
  obtain ⟨bpo, bco, bpf, bcf, bpr, bcr, bpp, bcp⟩ := b
  unfold foArg
  unfold foCells at H0 ⊢
  dsimp only at *
  have HO := Lib.hid (fun (w1 : World) (H : Fo2 w w1 w.heap.size (w.heap.size + 1) ⟨xk, xw, xn, xp, xt, xo, xf, xr, xc, xm⟩ ⟨yk, yw, yn, yp, yt, yo, yf, yr, yc, ym⟩ ⟨apo, aco, apf, acf, apr, acr, app, acp⟩ ⟨bpo, bco, bpf, bcf, bpr, bcr, bpp, bcp⟩) => reqInts_any _ _ _ _ _ _ _ _ _ _ w1 H.l1.lo H.l2.lo)
  have HF := Lib.hid (fun (w1 : World) (H : Fo2 w w1 w.heap.size (w.heap.size + 1) ⟨xk, xw, xn, xp, xt, xo, xf, xr, xc, xm⟩ ⟨yk, yw, yn, yp, yt, yo, yf, yr, yc, ym⟩ ⟨apo, aco, apf, acf, apr, acr, app, acp⟩ ⟨bpo, bco, bpf, bcf, bpr, bcr, bpp, bcp⟩) => reqInts_any _ _ _ _ _ _ _ _ _ _ w1 H.l1.lf H.l2.lf)
  have HR := Lib.hid (fun (w1 : World) (H : Fo2 w w1 w.heap.size (w.heap.size + 1) ⟨xk, xw, xn, xp, xt, xo, xf, xr, xc, xm⟩ ⟨yk, yw, yn, yp, yt, yo, yf, yr, yc, ym⟩ ⟨apo, aco, apf, acf, apr, acr, app, acp⟩ ⟨bpo, bco, bpf, bcf, bpr, bcr, bpp, bcp⟩) => reqInts_any _ _ _ _ _ _ _ _ _ _ w1 H.l1.lr H.l2.lr)
  have HP := Lib.hid (fun (w1 : World) (H : Fo2 w w1 w.heap.size (w.heap.size + 1) ⟨xk, xw, xn, xp, xt, xo, xf, xr, xc, xm⟩ ⟨yk, yw, yn, yp, yt, yo, yf, yr, yc, ym⟩ ⟨apo, aco, apf, acf, apr, acr, app, acp⟩ ⟨bpo, bco, bpf, bcf, bpr, bcr, bpp, bcp⟩) => reqCells_any _ _ _ _ _ _ _ _ _ _ w1 H.l1.lp H.l2.lp)
  have HC : Hid (∀ w1 : World, Fo2 w w1 w.heap.size (w.heap.size + 1) ⟨xk, xw, xn, xp, xt, xo, xf, xr, xc, xm⟩ ⟨yk, yw, yn, yp, yt, yo, yf, yr, yc, ym⟩ ⟨apo, aco, apf, acf, apr, acr, app, acp⟩ ⟨bpo, bco, bpf, bcf, bpr, bcr, bpp, bcp⟩ → (∀ i, w1.cell? ⟨w.heap.size, i, none⟩ = (#[.int .u8 xk, .int .u8 xw, .string xn, .string xp, .string xt, .slice apo xo.length aco, .slice apf xf.length acf, .slice apr xr.length acr, .slice app xc.length acp, .int .i64 xm] : Array Value)[i]?) ∧ (∀ i, w1.cell? ⟨w.heap.size + 1, i, none⟩ = (#[.int .u8 yk, .int .u8 yw, .string yn, .string yp, .string yt, .slice bpo yo.length bco, .slice bpf yf.length bcf, .slice bpr yr.length bcr, .slice bpp yc.length bcp, .int .i64 ym] : Array Value)[i]?)) := Lib.hid (fun w1 H => ⟨H.b1.cell, H.b2.cell⟩)
  dsimp only at HO HF HR HP
  generalize listEq intsEq xo yo = bo at *
  generalize listEq intsEq xf yf = bf at *
  generalize listEq intsEq xr yr = br at *
  generalize listEq ceEq xc yc = bc at *
  go_enter Try.func31, Try.ntmps31
  go_upto_region 1 with (fail)
  generalize (w.alloc (.cells #[.int .u8 xk, .int .u8 xw, .string xn, .string xp, .string xt, .slice apo xo.length aco, .slice apf xf.length acf, .slice apr xr.length acr, .slice app xc.length acp, .int .i64 xm] 44)).alloc (.cells #[.int .u8 yk, .int .u8 yw, .string yn, .string yp, .string yt, .slice bpo yo.length bco, .slice bpf yf.length bcf, .slice bpr yr.length bcr, .slice bpp yc.length bcp, .int .i64 ym] 44) = w1 at *
  obtain ⟨hc1, hd1⟩ := HC.out w1 H0.out
  obtain ⟨hb, hhb⟩ : ∃ hb : Bool, hb = ((xk == yk) && ((xw == yw) && ((xm == ym) && ((xn.toList == yn.toList) && ((xp.toList == yp.toList) && (xt.toList == yt.toList)))))) := ⟨_, rfl⟩
  have Hhb := Lib.hid hhb
  have Hv2 : Hid (ev = (hb && (bo && (bf && (br && bc))))) := Lib.hid (by rw [Hv.out, hhb]; simp only [Bool.and_assoc])
  clear hhb Hv
  have Hv := Hv2
  clear Hv2
  go_cut [0, 1, 5] (fun _ _ v wx => v = .bool hb ∧ wx = w1)
  case first =>
    go_wp2_with fail
    all_goals
      go_meet
      refine ⟨?_, rfl⟩
      rw [Hhb.out]
      simp_all
  case rest =>
    obtain ⟨rfl, rfl⟩ := hcut
    cases hb with
    | false =>
      go_wp2_with fail
      go_ret
      exact ⟨ret_bool (by rw [Hv.out]; simp), H0.out.bel⟩
    | true =>
      go_wp2_with fail
      refine (HO.out _ H0.out).mono ?_
      rintro e wnA ⟨rfl, hb⟩
      have HA := Lib.hid (H0.out.step hb)
      obtain ⟨hcA, hdA⟩ := HC.out wnA HA.out
      clear hb
      clear hc1 hd1
      cases bo with
      | false =>
        go_wp2_with fail
        go_ret
        exact ⟨ret_bool (by rw [Hv.out]; simp), HA.out.bel⟩
      | true =>
        go_wp2_with fail
        refine (HF.out _ HA.out).mono ?_
        rintro e wnB ⟨rfl, hb⟩
        have HB := Lib.hid (HA.out.step hb)
        obtain ⟨hcB, hdB⟩ := HC.out wnB HB.out
        clear hb
        clear hcA hdA
        cases bf with
        | false =>
          go_wp2_with fail
          go_ret
          exact ⟨ret_bool (by rw [Hv.out]; simp), HB.out.bel⟩
        | true =>
          go_wp2_with fail
          refine (HR.out _ HB.out).mono ?_
          rintro e wnD ⟨rfl, hb⟩
          have HD := Lib.hid (HB.out.step hb)
          obtain ⟨hcD, hdD⟩ := HC.out wnD HD.out
          clear hb
          clear hcB hdB
          cases br with
          | false =>
            go_wp2_with fail
            go_ret
            exact ⟨ret_bool (by rw [Hv.out]; simp), HD.out.bel⟩
          | true =>
            go_wp2_with fail
            refine (HP.out _ HD.out).mono ?_
            rintro e wnE ⟨rfl, hb⟩
            have HE := Lib.hid (HD.out.step hb)
            obtain ⟨hcE, hdE⟩ := HC.out wnE HE.out
            clear hb
            go_wp2_with fail
            go_ret
            exact ⟨ret_bool (by rw [Hv.out]; simp), HE.out.bel⟩

end Go.Proofs.Ytldjfmddjbdciaa
