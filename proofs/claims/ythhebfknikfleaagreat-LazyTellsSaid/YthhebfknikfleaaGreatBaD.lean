/-
  Messages of servers (layer 7): whether two are the same: the program's.
-/
import Derived.Test.YthhebfknikfleaaGreatBaB
import Derived.Test.YthhebfknikfleaaGreatBaC
import Derived.Test.YthhebfknikfleaaGreatPackD
namespace Go.Proofs.YthhebfknikfleaaGreat
open Go.RowKit
set_option linter.unusedVariables false
set_option linter.unusedSimpArgs false

/-- Two messages in two blocks. -/
structure Ba2 (w0 w : World) (g1 g2 : Nat) (x y : BaV) (a b : BaP) : Prop where
  b1 : Blk w g1 39 (baCells x a)
  b2 : Blk w g2 39 (baCells y b)
  l1 : BaL (fun _ => True) w x a
  l2 : BaL (fun _ => True) w y b
  bel : Below w0.heap.size w0 w
section
variable {w0 w w' : World} {g1 g2 : Nat} {x y : BaV} {a b : BaP}
theorem Ba2.step (h : Ba2 w0 w g1 g2 x y a b) (hb : Below w.heap.size w w') : Ba2 w0 w' g1 g2 x y a b := ⟨h.b1.below hb h.b1.lt, h.b2.below hb h.b2.lt, h.l1.below hb, h.l2.below hb, h.bel.trans (hb.mono h.bel.size)⟩
theorem Ba2.start {S S' : Nat → Prop} {w : World} (h1 : BaL S w x a) (h2 : BaL S' w y b) :
    Ba2 w ((w.alloc (.cells (baCells x a) 39)).alloc (.cells (baCells y b) 39)) w.heap.size (w.heap.size + 1) x y a b := by
  have hb : Below w.heap.size w ((w.alloc (.cells (baCells x a) 39)).alloc (.cells (baCells y b) 39)) := ((Below.refl _ _).alloc (Nat.le_refl _) _).alloc (by simp) _
  refine ⟨(Blk.new _ _ _).alloc _, ?_, (h1.below hb).any, (h2.below hb).any, hb⟩
  have := Blk.new (w.alloc (.cells (baCells x a) 39)) 39 (baCells y b)
  simpa using this
end

theorem baEq_parts (x y : BaV) : baEq x y = ((x.kind == y.kind) && ((x.status == y.status) && ((x.n == y.n) && ((x.m == y.m) && (((x.tag.toList == y.tag.toList) && ((x.name.toList == y.name.toList) && (x.value.toList == y.value.toList))) && (listEq intsEq x.oids y.oids && (listEq coEq x.cols y.cols && (listEq fdEq x.fields y.fields && listEq ceEq x.row y.row)))))))) := by
  unfold baEq headBa textBa
  generalize (x.kind == y.kind) = a1
  generalize (x.status == y.status) = a2
  generalize (x.n == y.n) = a3
  generalize (x.m == y.m) = a4
  cases a1 <;> cases a2 <;> cases a3 <;> cases a4 <;> rfl

set_option maxRecDepth 100000 in
set_option maxHeartbeats 4000000 in
theorem bsame_any (S S' : Nat → Prop) (x y : BaV) (a b : BaP) (w : World) (h1 : BaL S w x a) (h2 : BaL S' w y b) :
    Calls Tryz.prog 21 #[baArg x a, baArg y b] w fun e w' => e = .returned (.bool (baEq x y)) ∧ Below w.heap.size w w' := by
  have H0 := Lib.hid (Ba2.start h1 h2)
  have Hv := Lib.hid (baEq_parts x y)
  clear h1 h2
  generalize baEq x y = ev at *
  obtain ⟨xk, xs, xt, xn, xv, xa, xb, xo, xc, xr, xf⟩ := x
  obtain ⟨yk, ys, yt, yn, yv, ya, yb, yo, yc, yr, yf⟩ := y
  obtain ⟨apo, aco, apc, acc, apr, acr, apf, acf⟩ := a
  obtain ⟨bpo, bco, bpc, bcc, bpr, bcr, bpf, bcf⟩ := b
  unfold baArg
  unfold baCells at H0 ⊢
  dsimp only at *
  have HO := Lib.hid (fun (w1 : World) (H : Ba2 w w1 w.heap.size (w.heap.size + 1) ⟨xk, xs, xt, xn, xv, xa, xb, xo, xc, xr, xf⟩ ⟨yk, ys, yt, yn, yv, ya, yb, yo, yc, yr, yf⟩ ⟨apo, aco, apc, acc, apr, acr, apf, acf⟩ ⟨bpo, bco, bpc, bcc, bpr, bcr, bpf, bcf⟩) => eqInts_any _ _ _ _ _ _ _ _ _ _ w1 H.l1.lo H.l2.lo)
  have HP := Lib.hid (fun (w1 : World) (H : Ba2 w w1 w.heap.size (w.heap.size + 1) ⟨xk, xs, xt, xn, xv, xa, xb, xo, xc, xr, xf⟩ ⟨yk, ys, yt, yn, yv, ya, yb, yo, yc, yr, yf⟩ ⟨apo, aco, apc, acc, apr, acr, apf, acf⟩ ⟨bpo, bco, bpc, bcc, bpr, bcr, bpf, bcf⟩) => beqCells_any _ _ _ _ _ _ _ _ _ _ w1 H.l1.lr H.l2.lr)
  have HD := Lib.hid (fun (w1 : World) (H : Ba2 w w1 w.heap.size (w.heap.size + 1) ⟨xk, xs, xt, xn, xv, xa, xb, xo, xc, xr, xf⟩ ⟨yk, ys, yt, yn, yv, ya, yb, yo, yc, yr, yf⟩ ⟨apo, aco, apc, acc, apr, acr, apf, acf⟩ ⟨bpo, bco, bpc, bcc, bpr, bcr, bpf, bcf⟩) => eqCols_any _ _ _ _ _ _ _ _ _ _ w1 H.l1.lc H.l2.lc)
  have HF := Lib.hid (fun (w1 : World) (H : Ba2 w w1 w.heap.size (w.heap.size + 1) ⟨xk, xs, xt, xn, xv, xa, xb, xo, xc, xr, xf⟩ ⟨yk, ys, yt, yn, yv, ya, yb, yo, yc, yr, yf⟩ ⟨apo, aco, apc, acc, apr, acr, apf, acf⟩ ⟨bpo, bco, bpc, bcc, bpr, bcr, bpf, bcf⟩) => eqFields_any _ _ _ _ _ _ _ _ _ _ w1 H.l1.lf H.l2.lf)
  have HC : Hid (∀ w1 : World, Ba2 w w1 w.heap.size (w.heap.size + 1) ⟨xk, xs, xt, xn, xv, xa, xb, xo, xc, xr, xf⟩ ⟨yk, ys, yt, yn, yv, ya, yb, yo, yc, yr, yf⟩ ⟨apo, aco, apc, acc, apr, acr, apf, acf⟩ ⟨bpo, bco, bpc, bcc, bpr, bcr, bpf, bcf⟩ → (∀ i, w1.cell? ⟨w.heap.size, i, none⟩ = (#[.int .u8 xk, .int .u8 xs, .string xt, .string xn, .string xv, .int .i64 xa, .int .i64 xb, .slice apo xo.length aco, .slice apc xc.length acc, .slice apr xr.length acr, .slice apf xf.length acf] : Array Value)[i]?) ∧ (∀ i, w1.cell? ⟨w.heap.size + 1, i, none⟩ = (#[.int .u8 yk, .int .u8 ys, .string yt, .string yn, .string yv, .int .i64 ya, .int .i64 yb, .slice bpo yo.length bco, .slice bpc yc.length bcc, .slice bpr yr.length bcr, .slice bpf yf.length bcf] : Array Value)[i]?)) := Lib.hid (fun w1 H => ⟨H.b1.cell, H.b2.cell⟩)
  dsimp only at HO HP HD HF
  generalize listEq intsEq xo yo = bo at *
  generalize listEq coEq xc yc = bc at *
  generalize listEq fdEq xf yf = bf at *
  generalize listEq ceEq xr yr = br at *
  go_enter Tryz.func21, Tryz.ntmps21
  go_upto_region 1 with (fail)
  generalize (w.alloc (.cells #[.int .u8 xk, .int .u8 xs, .string xt, .string xn, .string xv, .int .i64 xa, .int .i64 xb, .slice apo xo.length aco, .slice apc xc.length acc, .slice apr xr.length acr, .slice apf xf.length acf] 39)).alloc (.cells #[.int .u8 yk, .int .u8 ys, .string yt, .string yn, .string yv, .int .i64 ya, .int .i64 yb, .slice bpo yo.length bco, .slice bpc yc.length bcc, .slice bpr yr.length bcr, .slice bpf yf.length bcf] 39) = w1 at *
  obtain ⟨hc1, hd1⟩ := HC.out w1 H0.out
  have hq := fun w => eql_str3 xt xn xv yt yn yv w
  generalize ((xt.toList == yt.toList) && ((xn.toList == yn.toList) && (xv.toList == yv.toList))) = tb at *
  obtain ⟨hb0, hhb⟩ : ∃ hb : Bool, hb = ((xk == yk) && ((xs == ys) && ((xa == ya) && (xb == yb)))) := ⟨_, rfl⟩
  have Hhb := Lib.hid hhb
  have Hv2 : Hid (ev = (hb0 && (tb && (bo && (bc && (bf && br)))))) := Lib.hid (by rw [Hv.out, hhb]; simp only [Bool.and_assoc])
  clear hhb Hv
  have Hv := Hv2
  clear Hv2
  obtain ⟨lb, hlb⟩ : ∃ lb : Bool, lb = (bo && (bc && bf)) := ⟨_, rfl⟩
  have Hlb := Lib.hid hlb
  clear hlb
  go_upto_region 2 with fail
  clear hq
  go_cut [0, 1, 6] (fun _ _ v wx => v = .bool hb0 ∧ wx = w1)
  case first =>
    go_wp2_with fail
    all_goals
      go_meet
      refine ⟨?_, rfl⟩
      rw [Hhb.out]
      simp_all
  case rest =>
    obtain ⟨rfl, rfl⟩ := hcut
    go_upto_region 3 with fail
    go_cut [7] (fun v wx => v = .bool lb ∧ Ba2 w wx w.heap.size (w.heap.size + 1) ⟨xk, xs, xt, xn, xv, xa, xb, xo, xc, xr, xf⟩ ⟨yk, ys, yt, yn, yv, ya, yb, yo, yc, yr, yf⟩ ⟨apo, aco, apc, acc, apr, acr, apf, acf⟩ ⟨bpo, bco, bpc, bcc, bpr, bcr, bpf, bcf⟩)
    case first =>
      go_wp2_with fail
      refine (HO.out _ H0.out).mono ?_
      rintro e wnA ⟨rfl, hb⟩
      have HA := Lib.hid (H0.out.step hb)
      obtain ⟨hcA, hdA⟩ := HC.out wnA HA.out
      clear hb
      clear hc1 hd1
      cases bo with
      | false =>
        go_wp2_with fail
        go_meet
        exact ⟨by rw [Hlb.out]; rfl, HA.out⟩
      | true =>
        go_wp2_with fail
        refine (HD.out _ HA.out).mono ?_
        rintro e wnB ⟨rfl, hb⟩
        have HB := Lib.hid (HA.out.step hb)
        obtain ⟨hcB, hdB⟩ := HC.out wnB HB.out
        clear hb
        clear hcA hdA
        cases bc with
        | false =>
          go_wp2_with fail
          go_meet
          exact ⟨by rw [Hlb.out]; rfl, HB.out⟩
        | true =>
          go_wp2_with fail
          refine (HF.out _ HB.out).mono ?_
          rintro e wnE ⟨rfl, hb⟩
          have HE := Lib.hid (HB.out.step hb)
          obtain ⟨hcE, hdE⟩ := HC.out wnE HE.out
          clear hb
          clear hcB hdB
          go_wp2_with fail
          go_meet
          exact ⟨by rw [Hlb.out]; rfl, HE.out⟩
    case rest =>
      obtain ⟨rfl, hf⟩ := hcut
      have H3 := Lib.hid hf
      obtain ⟨hc3, hd3⟩ := HC.out wc H3.out
      clear hf hc1 hd1
      have Hv3 : Hid (ev = (hb0 && (tb && (lb && br)))) := Lib.hid (by rw [Hv.out, Hlb.out]; simp only [Bool.and_assoc])
      clear Hv Hlb
      have Hv := Hv3
      clear Hv3
      cases hb0 with
      | false =>
        go_wp2_with fail
        go_ret
        exact ⟨ret_bool (by rw [Hv.out]; rfl), H3.out.bel⟩
      | true =>
        cases tb with
        | false =>
          go_wp2_with fail
          go_ret
          exact ⟨ret_bool (by rw [Hv.out]; rfl), H3.out.bel⟩
        | true =>
          cases lb with
          | false =>
            go_wp2_with fail
            go_ret
            exact ⟨ret_bool (by rw [Hv.out]; rfl), H3.out.bel⟩
          | true =>
            go_wp2_with fail
            refine (HP.out _ H3.out).mono ?_
            rintro e wn4 ⟨rfl, hb⟩
            have H4 := Lib.hid (H3.out.step hb)
            clear hb hc3 hd3
            go_wp2_with fail
            go_ret
            exact ⟨ret_bool (by rw [Hv.out]; rfl), H4.out.bel⟩

end Go.Proofs.YthhebfknikfleaaGreat
