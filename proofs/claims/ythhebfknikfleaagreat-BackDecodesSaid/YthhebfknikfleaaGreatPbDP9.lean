/-
  Ground: BaC, BaD, IdxBo, IdxCo1, IdxFd1, IdxCe1, IdxIn1.
-/
import Derived.Test.YthhebfknikfleaaGreatPbDP7
import Derived.Test.YthhebfknikfleaaGreatPbDP1
import Derived.Test.YthhebfknikfleaaGreatPbDP8
import Derived.Test.YthhebfknikfleaaGreatPbDP2
/-
  Messages of servers (layer 7): values compared.
-/
namespace Go.Proofs.YthhebfknikfleaaGreat
open Go.RowKit
set_option linter.unusedVariables false
set_option linter.unusedSimpArgs false

set_option maxRecDepth 100000 in
theorem balike_any (x y : CeV) (p q : Option Addr) (c d : Nat) (w : World) (hx : BytesIn w p x.bytes) (hy : BytesIn w q y.bytes) :
    Calls Tryz.prog 76 #[.agg #[.bool x.null, .slice p x.bytes.length c], .agg #[.bool y.null, .slice q y.bytes.length d]] w fun e w' => e = .returned (.bool (ceEq x y)) ∧ Below w.heap.size w w' := by
  have hbel : Below w.heap.size w ((w.alloc (.cells #[.bool x.null, .slice p x.bytes.length c] 83)).alloc (.cells #[.bool y.null, .slice q y.bytes.length d] 83)) := ((Below.refl _ _).alloc (Nat.le_refl _) _).alloc (by simp) _
  have Hbel := Lib.hid hbel
  have He := Lib.hid (equal_any p q x.bytes y.bytes c d _ (hx.below hbel) (hy.below hbel))
  have Hv : Hid (ceEq x y = ((x.null == y.null) && (x.bytes == y.bytes))) := Lib.hid rfl
  generalize ceEq x y = r at *
  obtain ⟨xn, xb⟩ := x
  obtain ⟨yn, yb⟩ := y
  dsimp only at *
  generalize (xb == yb) = eb at *
  clear hx hy hbel
  cases hn : (xn == yn) with
  | true =>
    rw [hn] at Hv
    go_enter Tryz.func76, Tryz.ntmps76
    go_wp2_with fail
    refine He.out.mono ?_
    rintro e w2 ⟨rfl, rfl⟩
    go_wp2_with fail
    go_ret
    exact ⟨ret_bool (by rw [Hv.out]; rfl), Hbel.out⟩
  | false =>
    rw [hn] at Hv
    go_enter Tryz.func76, Tryz.ntmps76
    go_wp2_with fail
    go_ret
    exact ⟨ret_bool (by rw [Hv.out]; rfl), Hbel.out⟩

set_option maxRecDepth 100000 in
set_option maxHeartbeats 4000000 in
theorem beqCells_any (S S' : Nat → Prop) (p q : Option Addr) (n m c d : Nat) (xs ys : List CeV) (w : World) (hx : SliceS 2 CeS S w [.slice p n c] xs) (hy : SliceS 2 CeS S' w [.slice q m d] ys) :
    Calls Tryz.prog 75 #[.slice p n c, .slice q m d, .func (.func 76) #[] #[]] w fun e w' => e = .returned (.bool (listEq ceEq xs ys)) ∧ Below w.heap.size w w' := by
  have Hx := Lib.hid hx
  have Hy := Lib.hid hy
  obtain ⟨rfl, hlc, hcm⟩ := hx.len
  obtain ⟨rfl, hld, hdm⟩ := hy.len
  unfold maxLen at hcm hdm
  clear hx hy
  by_cases hnm : xs.length = ys.length
  · have Hnm := Lib.hid hnm
    rw [← hnm] at hld ⊢
    clear hnm
    go_enter Tryz.func75, Tryz.ntmps75
    go_wp2_with fail
    go_loopw [17] (fun i wr => ∃ k : Nat, k ≤ xs.length ∧ i = .int .i64 k ∧ Below w.heap.size w wr ∧ listEq ceEq xs ys = listEq ceEq (xs.drop k) (ys.drop k)) (fun i _ => xs.length - (intOf i).toNat)
    case atStart => exact ⟨0, Nat.zero_le _, rfl, Below.refl _ _, rfl⟩
    case round =>
      obtain ⟨k, hk, rfl, hb, he⟩ := hrel
      have hsz := hb.size
      have He := Lib.hid he
      have Hb := Lib.hid hb
      clear he
      by_cases hlt : k < xs.length
      · have hlt' : k < ys.length := by rw [← Hnm.out]; exact hlt
        obtain ⟨b, o, px, dx, rfl, _, hbl, c0, c1, hqx⟩ := ce_at (Hx.out.below CeS.still hb) hlt
        obtain ⟨b', o', py, dy, rfl, _, hbl', e0, e1, hqy⟩ := ce_at (Hy.out.below CeS.still hb) hlt'
        have Hst := Lib.hid (listEq_step (f := ceEq) hlt hlt')
        have Hqx := Lib.hid hqx.parts.2.2.2
        have Hqy := Lib.hid hqy.parts.2.2.2
        clear hb hqx hqy
        generalize hX : xs[k] = x at *
        generalize hY : ys[k] = y at *
        clear hX hY hlt'
        have hlti : (k : Int) < (xs.length : Int) := by omega
        have hlti' : (k : Int) < (ys.length : Int) := by rw [← Hnm.out]; omega
        go_upto_region 6 with (fail)
        have hal1 : Below wr.heap.size wr (wr.alloc (.cells #[.bool x.null, .slice px x.bytes.length dx] 83)) := (Below.refl _ _).alloc (Nat.le_refl _) _
        have f0 : (wr.alloc (.cells #[.bool x.null, .slice px x.bytes.length dx] 83)).cell? ⟨b', o' + k * 2, none⟩ = _ := (hal1.cell (p := ⟨b', o' + k * 2, none⟩) hbl').trans e0
        have f1 : (wr.alloc (.cells #[.bool x.null, .slice px x.bytes.length dx] 83)).cell? ⟨b', o' + k * 2 + 1, none⟩ = _ := (hal1.cell (p := ⟨b', o' + k * 2 + 1, none⟩) hbl').trans e1
        have Hk1 := Lib.hid (Blk.new wr 83 #[.bool x.null, .slice px x.bytes.length dx])
        have hk1 := Hk1.out.lt
        have HB1 := Lib.hid (Hb.out.trans (hal1.mono hsz))
        have Hqx1 := Lib.hid (Hqx.out.below hal1)
        have Hqy1 := Lib.hid (Hqy.out.below hal1)
        clear hal1 c0 c1 e0 e1 hbl hbl' Hqx Hqy Hb
        generalize wr.alloc (.cells #[.bool x.null, .slice px x.bytes.length dx] 83) = wa at *
        generalize wr.heap.size = g1 at *
        go_upto_region 7 with (fail)
        have hal2 : Below wa.heap.size wa (wa.alloc (.cells #[.bool y.null, .slice py y.bytes.length dy] 83)) := (Below.refl _ _).alloc (Nat.le_refl _) _
        have Hk2 := Lib.hid (Blk.new wa 83 #[.bool y.null, .slice py y.bytes.length dy])
        have d1 := (Hk1.out.below hal2 hk1).cell
        have d2 := Hk2.out.cell
        have HB2 := Lib.hid (HB1.out.trans (hal2.mono HB1.out.size))
        have Hcl := Lib.hid (balike_any x y px py dx dy _ (Hqx1.out.below hal2) (Hqy1.out.below hal2))
        clear hal2 f0 f1 Hqx1 Hqy1
        generalize wa.alloc (.cells #[.bool y.null, .slice py y.bytes.length dy] 83) = wb at *
        generalize wa.heap.size = g2 at *
        go_wp2_with fail
        refine Hcl.out.mono ?_
        rintro e w3 ⟨rfl, hb3⟩
        have HB3 := Lib.hid (HB2.out.trans (hb3.mono HB2.out.size))
        clear hb3 d1 d2
        cases hxy : ceEq x y with
        | true =>
          rw [hxy, Bool.true_and] at Hst
          clear hxy
          go_wp2_with fail
          go_roundw
          case rel => exact ⟨k + 1, by omega, by go_num, HB3.out, He.out.trans Hst.out⟩
          case measure => simp [intOf]; omega
        | false =>
          rw [hxy, Bool.false_and] at Hst
          clear hxy
          have Hfin := Lib.hid (He.out.trans Hst.out)
          go_wp2_with fail
          go_ret
          exact ⟨ret_bool Hfin.out.symm, HB3.out⟩
      · obtain rfl : k = xs.length := by omega
        have Hfin := Lib.hid (He.out.trans (listEq_end Hnm.out))
        go_wp2
        go_ret
        exact ⟨ret_bool Hfin.out.symm, Hb.out⟩
  · have Hfin := Lib.hid (listEq_len (f := ceEq) hnm)
    have hnmi : ¬ (xs.length : Int) = (ys.length : Int) := by omega
    go_enter Tryz.func75, Tryz.ntmps75
    go_wp2
    go_ret
    exact ⟨ret_bool Hfin.out.symm, Below.refl _ _⟩



end Go.Proofs.YthhebfknikfleaaGreat

/-
  Messages of servers (layer 7): whether two are the same: the program's.
-/
namespace Go.Proofs.YthhebfknikfleaaGreat
open Go.RowKit
set_option linter.unusedVariables false
set_option linter.unusedSimpArgs false

/-- Two messages in two blocks. -/
structure Ba2 (w0 w : World) (g1 g2 : Nat) (x y : BaV) (a b : BaP) : Prop where
  b1 : Blk w g1 39 (baCells x a)
  b2 : Blk w g2 39 (baCells y b)
  l1 : BaL (fun _ => True) w x a
  l2 : BaL (fun _ => True) w y b
  bel : Below w0.heap.size w0 w
section
variable {w0 w w' : World} {g1 g2 : Nat} {x y : BaV} {a b : BaP}
theorem Ba2.step (h : Ba2 w0 w g1 g2 x y a b) (hb : Below w.heap.size w w') : Ba2 w0 w' g1 g2 x y a b := ⟨h.b1.below hb h.b1.lt, h.b2.below hb h.b2.lt, h.l1.below hb, h.l2.below hb, h.bel.trans (hb.mono h.bel.size)⟩
theorem Ba2.start {S S' : Nat → Prop} {w : World} (h1 : BaL S w x a) (h2 : BaL S' w y b) :
    Ba2 w ((w.alloc (.cells (baCells x a) 39)).alloc (.cells (baCells y b) 39)) w.heap.size (w.heap.size + 1) x y a b := by
  have hb : Below w.heap.size w ((w.alloc (.cells (baCells x a) 39)).alloc (.cells (baCells y b) 39)) := ((Below.refl _ _).alloc (Nat.le_refl _) _).alloc (by simp) _
  refine ⟨(Blk.new _ _ _).alloc _, ?_, (h1.below hb).any, (h2.below hb).any, hb⟩
  have := Blk.new (w.alloc (.cells (baCells x a) 39)) 39 (baCells y b)
  simpa using this
end

theorem baEq_parts (x y : BaV) : baEq x y = ((x.kind == y.kind) && ((x.status == y.status) && ((x.n == y.n) && ((x.m == y.m) && (((x.tag.toList == y.tag.toList) && ((x.name.toList == y.name.toList) && (x.value.toList == y.value.toList))) && (listEq intsEq x.oids y.oids && (listEq coEq x.cols y.cols && (listEq fdEq x.fields y.fields && listEq ceEq x.row y.row)))))))) := by
  unfold baEq headBa textBa
  generalize (x.kind == y.kind) = a1
  generalize (x.status == y.status) = a2
  generalize (x.n == y.n) = a3
  generalize (x.m == y.m) = a4
  cases a1 <;> cases a2 <;> cases a3 <;> cases a4 <;> rfl

set_option maxRecDepth 100000 in
set_option maxHeartbeats 4000000 in
theorem bsame_any (S S' : Nat → Prop) (x y : BaV) (a b : BaP) (w : World) (h1 : BaL S w x a) (h2 : BaL S' w y b) :
    Calls Tryz.prog 21 #[baArg x a, baArg y b] w fun e w' => e = .returned (.bool (baEq x y)) ∧ Below w.heap.size w w' := by
  have H0 := Lib.hid (Ba2.start h1 h2)
  have Hv := Lib.hid (baEq_parts x y)
  clear h1 h2
  generalize baEq x y = ev at *
  obtain ⟨xk, xs, xt, xn, xv, xa, xb, xo, xc, xr, xf⟩ := x
  obtain ⟨yk, ys, yt, yn, yv, ya, yb, yo, yc, yr, yf⟩ := y
  obtain ⟨apo, aco, apc, acc, apr, acr, apf, acf⟩ := a
  obtain ⟨bpo, bco, bpc, bcc, bpr, bcr, bpf, bcf⟩ := b
  unfold baArg
  unfold baCells at H0 ⊢
  dsimp only at *
  have HO := Lib.hid (fun (w1 : World) (H : Ba2 w w1 w.heap.size (w.heap.size + 1) ⟨xk, xs, xt, xn, xv, xa, xb, xo, xc, xr, xf⟩ ⟨yk, ys, yt, yn, yv, ya, yb, yo, yc, yr, yf⟩ ⟨apo, aco, apc, acc, apr, acr, apf, acf⟩ ⟨bpo, bco, bpc, bcc, bpr, bcr, bpf, bcf⟩) => eqInts_any _ _ _ _ _ _ _ _ _ _ w1 H.l1.lo H.l2.lo)
  have HP := Lib.hid (fun (w1 : World) (H : Ba2 w w1 w.heap.size (w.heap.size + 1) ⟨xk, xs, xt, xn, xv, xa, xb, xo, xc, xr, xf⟩ ⟨yk, ys, yt, yn, yv, ya, yb, yo, yc, yr, yf⟩ ⟨apo, aco, apc, acc, apr, acr, apf, acf⟩ ⟨bpo, bco, bpc, bcc, bpr, bcr, bpf, bcf⟩) => beqCells_any _ _ _ _ _ _ _ _ _ _ w1 H.l1.lr H.l2.lr)
  have HD := Lib.hid (fun (w1 : World) (H : Ba2 w w1 w.heap.size (w.heap.size + 1) ⟨xk, xs, xt, xn, xv, xa, xb, xo, xc, xr, xf⟩ ⟨yk, ys, yt, yn, yv, ya, yb, yo, yc, yr, yf⟩ ⟨apo, aco, apc, acc, apr, acr, apf, acf⟩ ⟨bpo, bco, bpc, bcc, bpr, bcr, bpf, bcf⟩) => eqCols_any _ _ _ _ _ _ _ _ _ _ w1 H.l1.lc H.l2.lc)
  have HF := Lib.hid (fun (w1 : World) (H : Ba2 w w1 w.heap.size (w.heap.size + 1) ⟨xk, xs, xt, xn, xv, xa, xb, xo, xc, xr, xf⟩ ⟨yk, ys, yt, yn, yv, ya, yb, yo, yc, yr, yf⟩ ⟨apo, aco, apc, acc, apr, acr, apf, acf⟩ ⟨bpo, bco, bpc, bcc, bpr, bcr, bpf, bcf⟩) => eqFields_any _ _ _ _ _ _ _ _ _ _ w1 H.l1.lf H.l2.lf)
  have HC : Hid (∀ w1 : World, Ba2 w w1 w.heap.size (w.heap.size + 1) ⟨xk, xs, xt, xn, xv, xa, xb, xo, xc, xr, xf⟩ ⟨yk, ys, yt, yn, yv, ya, yb, yo, yc, yr, yf⟩ ⟨apo, aco, apc, acc, apr, acr, apf, acf⟩ ⟨bpo, bco, bpc, bcc, bpr, bcr, bpf, bcf⟩ → (∀ i, w1.cell? ⟨w.heap.size, i, none⟩ = (#[.int .u8 xk, .int .u8 xs, .string xt, .string xn, .string xv, .int .i64 xa, .int .i64 xb, .slice apo xo.length aco, .slice apc xc.length acc, .slice apr xr.length acr, .slice apf xf.length acf] : Array Value)[i]?) ∧ (∀ i, w1.cell? ⟨w.heap.size + 1, i, none⟩ = (#[.int .u8 yk, .int .u8 ys, .string yt, .string yn, .string yv, .int .i64 ya, .int .i64 yb, .slice bpo yo.length bco, .slice bpc yc.length bcc, .slice bpr yr.length bcr, .slice bpf yf.length bcf] : Array Value)[i]?)) := Lib.hid (fun w1 H => ⟨H.b1.cell, H.b2.cell⟩)
  dsimp only at HO HP HD HF
  generalize listEq intsEq xo yo = bo at *
  generalize listEq coEq xc yc = bc at *
  generalize listEq fdEq xf yf = bf at *
  generalize listEq ceEq xr yr = br at *
  go_enter Tryz.func21, Tryz.ntmps21
  go_upto_region 1 with (fail)
  generalize (w.alloc (.cells #[.int .u8 xk, .int .u8 xs, .string xt, .string xn, .string xv, .int .i64 xa, .int .i64 xb, .slice apo xo.length aco, .slice apc xc.length acc, .slice apr xr.length acr, .slice apf xf.length acf] 39)).alloc (.cells #[.int .u8 yk, .int .u8 ys, .string yt, .string yn, .string yv, .int .i64 ya, .int .i64 yb, .slice bpo yo.length bco, .slice bpc yc.length bcc, .slice bpr yr.length bcr, .slice bpf yf.length bcf] 39) = w1 at *
  obtain ⟨hc1, hd1⟩ := HC.out w1 H0.out
  have hq := fun w => eql_str3 xt xn xv yt yn yv w
  generalize ((xt.toList == yt.toList) && ((xn.toList == yn.toList) && (xv.toList == yv.toList))) = tb at *
  obtain ⟨hb0, hhb⟩ : ∃ hb : Bool, hb = ((xk == yk) && ((xs == ys) && ((xa == ya) && (xb == yb)))) := ⟨_, rfl⟩
  have Hhb := Lib.hid hhb
  have Hv2 : Hid (ev = (hb0 && (tb && (bo && (bc && (bf && br)))))) := Lib.hid (by rw [Hv.out, hhb]; simp only [Bool.and_assoc])
  clear hhb Hv
  have Hv := Hv2
  clear Hv2
  obtain ⟨lb, hlb⟩ : ∃ lb : Bool, lb = (bo && (bc && bf)) := ⟨_, rfl⟩
  have Hlb := Lib.hid hlb
  clear hlb
  go_upto_region 2 with fail
  clear hq
  go_cut [0, 1, 6] (fun _ _ v wx => v = .bool hb0 ∧ wx = w1)
  case first =>
    go_wp2_with fail
    all_goals
      go_meet
      refine ⟨?_, rfl⟩
      rw [Hhb.out]
      simp_all
  case rest =>
    obtain ⟨rfl, rfl⟩ := hcut
    go_upto_region 3 with fail
    go_cut [7] (fun v wx => v = .bool lb ∧ Ba2 w wx w.heap.size (w.heap.size + 1) ⟨xk, xs, xt, xn, xv, xa, xb, xo, xc, xr, xf⟩ ⟨yk, ys, yt, yn, yv, ya, yb, yo, yc, yr, yf⟩ ⟨apo, aco, apc, acc, apr, acr, apf, acf⟩ ⟨bpo, bco, bpc, bcc, bpr, bcr, bpf, bcf⟩)
    case first =>
      go_wp2_with fail
      refine (HO.out _ H0.out).mono ?_
      rintro e wnA ⟨rfl, hb⟩
      have HA := Lib.hid (H0.out.step hb)
      obtain ⟨hcA, hdA⟩ := HC.out wnA HA.out
      clear hb
      clear hc1 hd1
      cases bo with
      | false =>
        go_wp2_with fail
        go_meet
        exact ⟨by rw [Hlb.out]; rfl, HA.out⟩
      | true =>
        go_wp2_with fail
        refine (HD.out _ HA.out).mono ?_
        rintro e wnB ⟨rfl, hb⟩
        have HB := Lib.hid (HA.out.step hb)
        obtain ⟨hcB, hdB⟩ := HC.out wnB HB.out
        clear hb
        clear hcA hdA
        cases bc with
        | false =>
          go_wp2_with fail
          go_meet
          exact ⟨by rw [Hlb.out]; rfl, HB.out⟩
        | true =>
          go_wp2_with fail
          refine (HF.out _ HB.out).mono ?_
          rintro e wnE ⟨rfl, hb⟩
          have HE := Lib.hid (HB.out.step hb)
          obtain ⟨hcE, hdE⟩ := HC.out wnE HE.out
          clear hb
          clear hcB hdB
          go_wp2_with fail
          go_meet
          exact ⟨by rw [Hlb.out]; rfl, HE.out⟩
    case rest =>
      obtain ⟨rfl, hf⟩ := hcut
      have H3 := Lib.hid hf
      obtain ⟨hc3, hd3⟩ := HC.out wc H3.out
      clear hf hc1 hd1
      have Hv3 : Hid (ev = (hb0 && (tb && (lb && br)))) := Lib.hid (by rw [Hv.out, Hlb.out]; simp only [Bool.and_assoc])
      clear Hv Hlb
      have Hv := Hv3
      clear Hv3
      cases hb0 with
      | false =>
        go_wp2_with fail
        go_ret
        exact ⟨ret_bool (by rw [Hv.out]; rfl), H3.out.bel⟩
      | true =>
        cases tb with
        | false =>
          go_wp2_with fail
          go_ret
          exact ⟨ret_bool (by rw [Hv.out]; rfl), H3.out.bel⟩
        | true =>
          cases lb with
          | false =>
            go_wp2_with fail
            go_ret
            exact ⟨ret_bool (by rw [Hv.out]; rfl), H3.out.bel⟩
          | true =>
            go_wp2_with fail
            refine (HP.out _ H3.out).mono ?_
            rintro e wn4 ⟨rfl, hb⟩
            have H4 := Lib.hid (H3.out.step hb)
            clear hb hc3 hd3
            go_wp2_with fail
            go_ret
            exact ⟨ret_bool (by rw [Hv.out]; rfl), H4.out.bel⟩

end Go.Proofs.YthhebfknikfleaaGreat

/-
  slices.IndexFunc and ContainsFunc at bounds, whatever the function handed in: its contract is a premise.
-/
namespace Go.Proofs.YthhebfknikfleaaGreat
open Go.RowKit
set_option linter.unusedVariables false
set_option linter.unusedSimpArgs false

/-- A number, and between which it lies. -/
structure BoV where
  n : Int
  lo : Int
  hi : Int
def BoS : Rd BoV := fun _ _ cs x => cs = [.int .i64 x.n, .int .i64 x.lo, .int .i64 x.hi]
theorem BoS.still : Still BoS := fun _ _ _ _ _ _ h _ => h
theorem bo_at {S : Nat → Prop} {w : World} {p : Option Addr} {n c k : Nat} {xs : List BoV} (h : SliceS 3 BoS S w [.slice p n c] xs) (hk : k < xs.length) :
    ∃ b o, p = some ⟨b, o, none⟩ ∧ S b ∧ b < w.heap.size ∧ w.cell? ⟨b, o + k * 3, none⟩ = some (.int .i64 xs[k].n) ∧ w.cell? ⟨b, o + k * 3 + 1, none⟩ = some (.int .i64 xs[k].lo) ∧ w.cell? ⟨b, o + k * 3 + 2, none⟩ = some (.int .i64 xs[k].hi) := by
  obtain ⟨b, o, cs, rfl, hS, hb, _, hc, rfl⟩ := h.elem (by omega) k xs[k] (List.getElem?_eq_getElem hk)
  have c0 := hc 0 _ rfl
  rw [Nat.add_zero] at c0
  exact ⟨b, o, rfl, hS, hb, c0, hc 1 _ rfl, hc 2 _ rfl⟩

set_option maxRecDepth 100000 in
set_option maxHeartbeats 4000000 in
theorem indexBo (K : FuncId) (P : BoV → Bool) (S : Nat → Prop) (p : Option Addr) (n c : Nat) (L : List BoV) (w : World) (h : SliceS 3 BoS S w [.slice p n c] L)
    (hE : ∀ (args : Array Value) (w0 : World), (callFunc K args).run Tryz.prog w0 = .ok (.enter K args) w0) (hK : ∀ (x : BoV) (w0 : World), Below w.heap.size w w0 →  Calls Tryz.prog K #[.agg #[.int .i64 x.n, .int .i64 x.lo, .int .i64 x.hi]] w0 fun e w' => e = .returned (.bool (P x)) ∧ Below w0.heap.size w0 w') :
    Calls Tryz.prog 154 #[.slice p n c, .func (.func K) #[] #[]] w fun e w' => ∃ r, e = .returned (.int .i64 r) ∧ IdxG P L r ∧ Below w.heap.size w w' := by
  have H := Lib.hid h
  have HK := Lib.hid hK
  obtain ⟨rfl, hlc, hcm⟩ := h.len
  unfold maxLen at hcm
  clear h hK
  go_enter Tryz.func154, Tryz.ntmps154
  go_wp2_with fail
  go_loopw [5, 8] (fun _ i wr => ∃ k : Nat, k ≤ L.length ∧ i = .int .i64 k ∧ k ≤ aheadG P L ∧ Below w.heap.size w wr) (fun _ i _ => L.length - (intOf i).toNat)
  case atStart => exact ⟨0, Nat.zero_le _, rfl, Nat.zero_le _, Below.refl _ _⟩
  case round =>
    obtain ⟨k, hk, rfl, hka, hb⟩ := hrel
    have hsz := hb.size
    have Hb := Lib.hid hb
    have Hka := Lib.hid hka
    clear hka
    by_cases hlt : k < L.length
    · obtain ⟨b, o, rfl, hS, hbl, c0, c1, c2⟩ := bo_at (H.out.below BoS.still hb) hlt
      have Hgo := Lib.hid (aheadG_go P L k hlt)
      have Hat := Lib.hid (aheadG_at P L k hlt)
      clear hb hS
      generalize L[k] = x at *
      have Hc := Lib.hid (HK.out x  wr Hb.out)
      have hlti : (k : Int) < (L.length : Int) := by omega
      go_wp2_with fail
      refine Hc.out.mono ?_
      rintro e w1 ⟨rfl, hb1⟩
      have Hb1 := Lib.hid (Hb.out.trans (hb1.mono hsz))
      clear hb1
      cases hP : P x with
      | false =>
        have Hn := Lib.hid (Hgo.out Hka.out hP)
        clear hP
        go_wp2_with fail
        go_roundw
        case rel => exact ⟨k + 1, by omega, by go_num, Hn.out, Hb1.out⟩
        case measure => simp [intOf]; omega
      | true =>
        have Hn := Lib.hid (Hat.out Hka.out hP)
        clear hP
        go_wp2_with fail
        go_ret
        exact ⟨_, rfl, .inl ⟨by rw [Hn.out], by rw [Hn.out]; exact hlt⟩, Hb1.out⟩
    · obtain rfl : k = L.length := by omega
      have Hn := Lib.hid (Nat.le_antisymm (aheadG_le P L) Hka.out)
      go_wp2
      go_ret
      exact ⟨_, rfl, .inr ⟨rfl, Hn.out⟩, Hb.out⟩

set_option maxRecDepth 100000 in
theorem containsBo (K : FuncId) (P : BoV → Bool) (S : Nat → Prop) (p : Option Addr) (n c : Nat) (L : List BoV) (w : World) (h : SliceS 3 BoS S w [.slice p n c] L)
    (hE : ∀ (args : Array Value) (w0 : World), (callFunc K args).run Tryz.prog w0 = .ok (.enter K args) w0) (hK : ∀ (x : BoV) (w0 : World), Below w.heap.size w w0 →  Calls Tryz.prog K #[.agg #[.int .i64 x.n, .int .i64 x.lo, .int .i64 x.hi]] w0 fun e w' => e = .returned (.bool (P x)) ∧ Below w0.heap.size w0 w') :
    Calls Tryz.prog 135 #[.slice p n c, .func (.func K) #[] #[]] w fun e w' => e = .returned (.bool (L.any P)) ∧ Below w.heap.size w w' := by
  have H := Lib.hid (indexBo K P S p n c L w h hE hK)
  clear h hK
  go_enter Tryz.func135, Tryz.ntmps135
  go_wp2_with fail
  refine H.out.mono ?_
  rintro e w1 ⟨r, rfl, hr, hb⟩
  have Hr := Lib.hid hr.any
  have Hb := Lib.hid hb
  clear hb hr
  go_wp2
  go_ret
  exact ⟨ret_bool Hr.out, Hb.out⟩

end Go.Proofs.YthhebfknikfleaaGreat

/-
  slices.IndexFunc and ContainsFunc at columns, whatever the function handed in: its contract is a premise.
-/
namespace Go.Proofs.YthhebfknikfleaaGreat
open Go.RowKit
set_option linter.unusedVariables false
set_option linter.unusedSimpArgs false

set_option maxRecDepth 100000 in
set_option maxHeartbeats 4000000 in
theorem indexCo1 (K : FuncId) (u : Value) (P : CoV → Bool) (S : Nat → Prop) (p : Option Addr) (n c : Nat) (L : List CoV) (w : World) (h : SliceS 7 CoS S w [.slice p n c] L)
    (hE : ∀ (args : Array Value) (w0 : World), (callFunc K args).run Tryz.prog w0 = .ok (.enter K args) w0) (hK : ∀ (x : CoV) (w0 : World), Below w.heap.size w w0 → x.name.size ≤ maxLen → Calls Tryz.prog K #[.agg #[.string x.name, .int .i64 x.table, .int .i64 x.attr, .int .i64 x.oid, .int .i64 x.size, .int .i64 x.mod, .int .i64 x.format], u] w0 fun e w' => e = .returned (.bool (P x)) ∧ Below w0.heap.size w0 w') :
    Calls Tryz.prog 95 #[.slice p n c, .func (.func K) #[] #[u]] w fun e w' => ∃ r, e = .returned (.int .i64 r) ∧ IdxG P L r ∧ Below w.heap.size w w' := by
  have H := Lib.hid h
  have HK := Lib.hid hK
  obtain ⟨rfl, hlc, hcm⟩ := h.len
  unfold maxLen at hcm
  clear h hK
  go_enter Tryz.func95, Tryz.ntmps95
  go_wp2_with fail
  go_loopw [5, 8] (fun _ i wr => ∃ k : Nat, k ≤ L.length ∧ i = .int .i64 k ∧ k ≤ aheadG P L ∧ Below w.heap.size w wr) (fun _ i _ => L.length - (intOf i).toNat)
  case atStart => exact ⟨0, Nat.zero_le _, rfl, Nat.zero_le _, Below.refl _ _⟩
  case round =>
    obtain ⟨k, hk, rfl, hka, hb⟩ := hrel
    have hsz := hb.size
    have Hb := Lib.hid hb
    have Hka := Lib.hid hka
    clear hka
    by_cases hlt : k < L.length
    · obtain ⟨b, o, rfl, hS, hbl, c0, c1, c2, c3, c4, c5, c6, hq⟩ := co_at (H.out.below CoS.still hb) hlt
      have Hgo := Lib.hid (aheadG_go P L k hlt)
      have Hat := Lib.hid (aheadG_at P L k hlt)
      clear hb hS
      generalize L[k] = x at *
      have Hc := Lib.hid (HK.out x  wr Hb.out hq)
      have hlti : (k : Int) < (L.length : Int) := by omega
      go_wp2_with fail
      refine Hc.out.mono ?_
      rintro e w1 ⟨rfl, hb1⟩
      have Hb1 := Lib.hid (Hb.out.trans (hb1.mono hsz))
      clear hb1
      cases hP : P x with
      | false =>
        have Hn := Lib.hid (Hgo.out Hka.out hP)
        clear hP
        go_wp2_with fail
        go_roundw
        case rel => exact ⟨k + 1, by omega, by go_num, Hn.out, Hb1.out⟩
        case measure => simp [intOf]; omega
      | true =>
        have Hn := Lib.hid (Hat.out Hka.out hP)
        clear hP
        go_wp2_with fail
        go_ret
        exact ⟨_, rfl, .inl ⟨by rw [Hn.out], by rw [Hn.out]; exact hlt⟩, Hb1.out⟩
    · obtain rfl : k = L.length := by omega
      have Hn := Lib.hid (Nat.le_antisymm (aheadG_le P L) Hka.out)
      go_wp2
      go_ret
      exact ⟨_, rfl, .inr ⟨rfl, Hn.out⟩, Hb.out⟩

set_option maxRecDepth 100000 in
theorem containsCo1 (K : FuncId) (u : Value) (P : CoV → Bool) (S : Nat → Prop) (p : Option Addr) (n c : Nat) (L : List CoV) (w : World) (h : SliceS 7 CoS S w [.slice p n c] L)
    (hE : ∀ (args : Array Value) (w0 : World), (callFunc K args).run Tryz.prog w0 = .ok (.enter K args) w0) (hK : ∀ (x : CoV) (w0 : World), Below w.heap.size w w0 → x.name.size ≤ maxLen → Calls Tryz.prog K #[.agg #[.string x.name, .int .i64 x.table, .int .i64 x.attr, .int .i64 x.oid, .int .i64 x.size, .int .i64 x.mod, .int .i64 x.format], u] w0 fun e w' => e = .returned (.bool (P x)) ∧ Below w0.heap.size w0 w') :
    Calls Tryz.prog 35 #[.slice p n c, .func (.func K) #[] #[u]] w fun e w' => e = .returned (.bool (L.any P)) ∧ Below w.heap.size w w' := by
  have H := Lib.hid (indexCo1 K u P S p n c L w h hE hK)
  clear h hK
  go_enter Tryz.func35, Tryz.ntmps35
  go_wp2_with fail
  refine H.out.mono ?_
  rintro e w1 ⟨r, rfl, hr, hb⟩
  have Hr := Lib.hid hr.any
  have Hb := Lib.hid hb
  clear hb hr
  go_wp2
  go_ret
  exact ⟨ret_bool Hr.out, Hb.out⟩

end Go.Proofs.YthhebfknikfleaaGreat

/-
  slices.IndexFunc and ContainsFunc at fields, whatever the function handed in: its contract is a premise.
-/
namespace Go.Proofs.YthhebfknikfleaaGreat
open Go.RowKit
set_option linter.unusedVariables false
set_option linter.unusedSimpArgs false

set_option maxRecDepth 100000 in
set_option maxHeartbeats 4000000 in
theorem indexFd1 (K : FuncId) (u : Value) (P : FdV → Bool) (S : Nat → Prop) (p : Option Addr) (n c : Nat) (L : List FdV) (w : World) (h : SliceS 2 FdS S w [.slice p n c] L)
    (hE : ∀ (args : Array Value) (w0 : World), (callFunc K args).run Tryz.prog w0 = .ok (.enter K args) w0) (hK : ∀ (x : FdV) (w0 : World), Below w.heap.size w w0 → x.text.size ≤ maxLen → 0 ≤ x.code → x.code < 256 → Calls Tryz.prog K #[.agg #[.int .u8 x.code, .string x.text], u] w0 fun e w' => e = .returned (.bool (P x)) ∧ Below w0.heap.size w0 w') :
    Calls Tryz.prog 97 #[.slice p n c, .func (.func K) #[] #[u]] w fun e w' => ∃ r, e = .returned (.int .i64 r) ∧ IdxG P L r ∧ Below w.heap.size w w' := by
  have H := Lib.hid h
  have HK := Lib.hid hK
  obtain ⟨rfl, hlc, hcm⟩ := h.len
  unfold maxLen at hcm
  clear h hK
  go_enter Tryz.func97, Tryz.ntmps97
  go_wp2_with fail
  go_loopw [5, 8] (fun _ i wr => ∃ k : Nat, k ≤ L.length ∧ i = .int .i64 k ∧ k ≤ aheadG P L ∧ Below w.heap.size w wr) (fun _ i _ => L.length - (intOf i).toNat)
  case atStart => exact ⟨0, Nat.zero_le _, rfl, Nat.zero_le _, Below.refl _ _⟩
  case round =>
    obtain ⟨k, hk, rfl, hka, hb⟩ := hrel
    have hsz := hb.size
    have Hb := Lib.hid hb
    have Hka := Lib.hid hka
    clear hka
    by_cases hlt : k < L.length
    · obtain ⟨b, o, rfl, hS, hbl, c0, c1, hq, hq0, hq1⟩ := fd_at (H.out.below FdS.still hb) hlt
      have Hgo := Lib.hid (aheadG_go P L k hlt)
      have Hat := Lib.hid (aheadG_at P L k hlt)
      clear hb hS
      generalize L[k] = x at *
      have Hc := Lib.hid (HK.out x  wr Hb.out hq hq0 hq1)
      have hlti : (k : Int) < (L.length : Int) := by omega
      go_wp2_with fail
      refine Hc.out.mono ?_
      rintro e w1 ⟨rfl, hb1⟩
      have Hb1 := Lib.hid (Hb.out.trans (hb1.mono hsz))
      clear hb1
      cases hP : P x with
      | false =>
        have Hn := Lib.hid (Hgo.out Hka.out hP)
        clear hP
        go_wp2_with fail
        go_roundw
        case rel => exact ⟨k + 1, by omega, by go_num, Hn.out, Hb1.out⟩
        case measure => simp [intOf]; omega
      | true =>
        have Hn := Lib.hid (Hat.out Hka.out hP)
        clear hP
        go_wp2_with fail
        go_ret
        exact ⟨_, rfl, .inl ⟨by rw [Hn.out], by rw [Hn.out]; exact hlt⟩, Hb1.out⟩
    · obtain rfl : k = L.length := by omega
      have Hn := Lib.hid (Nat.le_antisymm (aheadG_le P L) Hka.out)
      go_wp2
      go_ret
      exact ⟨_, rfl, .inr ⟨rfl, Hn.out⟩, Hb.out⟩

set_option maxRecDepth 100000 in
theorem containsFd1 (K : FuncId) (u : Value) (P : FdV → Bool) (S : Nat → Prop) (p : Option Addr) (n c : Nat) (L : List FdV) (w : World) (h : SliceS 2 FdS S w [.slice p n c] L)
    (hE : ∀ (args : Array Value) (w0 : World), (callFunc K args).run Tryz.prog w0 = .ok (.enter K args) w0) (hK : ∀ (x : FdV) (w0 : World), Below w.heap.size w w0 → x.text.size ≤ maxLen → 0 ≤ x.code → x.code < 256 → Calls Tryz.prog K #[.agg #[.int .u8 x.code, .string x.text], u] w0 fun e w' => e = .returned (.bool (P x)) ∧ Below w0.heap.size w0 w') :
    Calls Tryz.prog 39 #[.slice p n c, .func (.func K) #[] #[u]] w fun e w' => e = .returned (.bool (L.any P)) ∧ Below w.heap.size w w' := by
  have H := Lib.hid (indexFd1 K u P S p n c L w h hE hK)
  clear h hK
  go_enter Tryz.func39, Tryz.ntmps39
  go_wp2_with fail
  refine H.out.mono ?_
  rintro e w1 ⟨r, rfl, hr, hb⟩
  have Hr := Lib.hid hr.any
  have Hb := Lib.hid hb
  clear hb hr
  go_wp2
  go_ret
  exact ⟨ret_bool Hr.out, Hb.out⟩

end Go.Proofs.YthhebfknikfleaaGreat

/-
  slices.IndexFunc and ContainsFunc at values, whatever the function handed in: its contract is a premise.
-/
namespace Go.Proofs.YthhebfknikfleaaGreat
open Go.RowKit
set_option linter.unusedVariables false
set_option linter.unusedSimpArgs false

set_option maxRecDepth 100000 in
set_option maxHeartbeats 4000000 in
theorem indexCe1 (K : FuncId) (u : Value) (P : CeV → Bool) (S : Nat → Prop) (p : Option Addr) (n c : Nat) (L : List CeV) (w : World) (h : SliceS 2 CeS S w [.slice p n c] L)
    (hE : ∀ (args : Array Value) (w0 : World), (callFunc K args).run Tryz.prog w0 = .ok (.enter K args) w0) (hK : ∀ (x : CeV) (q : Option Addr) (d : Nat) (w0 : World), Below w.heap.size w w0 →  Calls Tryz.prog K #[.agg #[.bool x.null, .slice q x.bytes.length d], u] w0 fun e w' => e = .returned (.bool (P x)) ∧ Below w0.heap.size w0 w') :
    Calls Tryz.prog 96 #[.slice p n c, .func (.func K) #[] #[u]] w fun e w' => ∃ r, e = .returned (.int .i64 r) ∧ IdxG P L r ∧ Below w.heap.size w w' := by
  have H := Lib.hid h
  have HK := Lib.hid hK
  obtain ⟨rfl, hlc, hcm⟩ := h.len
  unfold maxLen at hcm
  clear h hK
  go_enter Tryz.func96, Tryz.ntmps96
  go_wp2_with fail
  go_loopw [5, 8] (fun _ i wr => ∃ k : Nat, k ≤ L.length ∧ i = .int .i64 k ∧ k ≤ aheadG P L ∧ Below w.heap.size w wr) (fun _ i _ => L.length - (intOf i).toNat)
  case atStart => exact ⟨0, Nat.zero_le _, rfl, Nat.zero_le _, Below.refl _ _⟩
  case round =>
    obtain ⟨k, hk, rfl, hka, hb⟩ := hrel
    have hsz := hb.size
    have Hb := Lib.hid hb
    have Hka := Lib.hid hka
    clear hka
    by_cases hlt : k < L.length
    · obtain ⟨b, o, q, d, rfl, hS, hbl, c0, c1, hq⟩ := ce_at (H.out.below CeS.still hb) hlt
      have Hgo := Lib.hid (aheadG_go P L k hlt)
      have Hat := Lib.hid (aheadG_at P L k hlt)
      clear hb hS
      generalize L[k] = x at *
      have Hc := Lib.hid (HK.out x q d wr Hb.out)
      have hlti : (k : Int) < (L.length : Int) := by omega
      go_wp2_with fail
      refine Hc.out.mono ?_
      rintro e w1 ⟨rfl, hb1⟩
      have Hb1 := Lib.hid (Hb.out.trans (hb1.mono hsz))
      clear hb1
      cases hP : P x with
      | false =>
        have Hn := Lib.hid (Hgo.out Hka.out hP)
        clear hP
        go_wp2_with fail
        go_roundw
        case rel => exact ⟨k + 1, by omega, by go_num, Hn.out, Hb1.out⟩
        case measure => simp [intOf]; omega
      | true =>
        have Hn := Lib.hid (Hat.out Hka.out hP)
        clear hP
        go_wp2_with fail
        go_ret
        exact ⟨_, rfl, .inl ⟨by rw [Hn.out], by rw [Hn.out]; exact hlt⟩, Hb1.out⟩
    · obtain rfl : k = L.length := by omega
      have Hn := Lib.hid (Nat.le_antisymm (aheadG_le P L) Hka.out)
      go_wp2
      go_ret
      exact ⟨_, rfl, .inr ⟨rfl, Hn.out⟩, Hb.out⟩

set_option maxRecDepth 100000 in
theorem containsCe1 (K : FuncId) (u : Value) (P : CeV → Bool) (S : Nat → Prop) (p : Option Addr) (n c : Nat) (L : List CeV) (w : World) (h : SliceS 2 CeS S w [.slice p n c] L)
    (hE : ∀ (args : Array Value) (w0 : World), (callFunc K args).run Tryz.prog w0 = .ok (.enter K args) w0) (hK : ∀ (x : CeV) (q : Option Addr) (d : Nat) (w0 : World), Below w.heap.size w w0 →  Calls Tryz.prog K #[.agg #[.bool x.null, .slice q x.bytes.length d], u] w0 fun e w' => e = .returned (.bool (P x)) ∧ Below w0.heap.size w0 w') :
    Calls Tryz.prog 37 #[.slice p n c, .func (.func K) #[] #[u]] w fun e w' => e = .returned (.bool (L.any P)) ∧ Below w.heap.size w w' := by
  have H := Lib.hid (indexCe1 K u P S p n c L w h hE hK)
  clear h hK
  go_enter Tryz.func37, Tryz.ntmps37
  go_wp2_with fail
  refine H.out.mono ?_
  rintro e w1 ⟨r, rfl, hr, hb⟩
  have Hr := Lib.hid hr.any
  have Hb := Lib.hid hb
  clear hb hr
  go_wp2
  go_ret
  exact ⟨ret_bool Hr.out, Hb.out⟩

end Go.Proofs.YthhebfknikfleaaGreat

/-
  slices.IndexFunc and ContainsFunc at ints, whatever the function handed in: its contract is a premise.
-/
namespace Go.Proofs.YthhebfknikfleaaGreat
open Go.RowKit
set_option linter.unusedVariables false
set_option linter.unusedSimpArgs false

set_option maxRecDepth 100000 in
set_option maxHeartbeats 4000000 in
theorem indexIn1 (K : FuncId) (u : Value) (P : Int → Bool) (S : Nat → Prop) (p : Option Addr) (n c : Nat) (L : List Int) (w : World) (h : SliceS 1 IntU S w [.slice p n c] L)
    (hE : ∀ (args : Array Value) (w0 : World), (callFunc K args).run Tryz.prog w0 = .ok (.enter K args) w0) (hK : ∀ (x : Int) (w0 : World), Below w.heap.size w w0 →  Calls Tryz.prog K #[.int .i64 x, u] w0 fun e w' => e = .returned (.bool (P x)) ∧ Below w0.heap.size w0 w') :
    Calls Tryz.prog 137 #[.slice p n c, .func (.func K) #[] #[u]] w fun e w' => ∃ r, e = .returned (.int .i64 r) ∧ IdxG P L r ∧ Below w.heap.size w w' := by
  have H := Lib.hid h
  have HK := Lib.hid hK
  obtain ⟨rfl, hlc, hcm⟩ := h.len
  unfold maxLen at hcm
  clear h hK
  go_enter Tryz.func137, Tryz.ntmps137
  go_wp2_with fail
  go_loopw [5, 8] (fun _ i wr => ∃ k : Nat, k ≤ L.length ∧ i = .int .i64 k ∧ k ≤ aheadG P L ∧ Below w.heap.size w wr) (fun _ i _ => L.length - (intOf i).toNat)
  case atStart => exact ⟨0, Nat.zero_le _, rfl, Nat.zero_le _, Below.refl _ _⟩
  case round =>
    obtain ⟨k, hk, rfl, hka, hb⟩ := hrel
    have hsz := hb.size
    have Hb := Lib.hid hb
    have Hka := Lib.hid hka
    clear hka
    by_cases hlt : k < L.length
    · obtain ⟨b, o, rfl, hS, hbl, c0⟩ := int_at (H.out.below IntU.still hb) hlt
      have Hgo := Lib.hid (aheadG_go P L k hlt)
      have Hat := Lib.hid (aheadG_at P L k hlt)
      clear hb hS
      generalize L[k] = x at *
      have Hc := Lib.hid (HK.out x  wr Hb.out)
      have hlti : (k : Int) < (L.length : Int) := by omega
      go_wp2_with fail
      refine Hc.out.mono ?_
      rintro e w1 ⟨rfl, hb1⟩
      have Hb1 := Lib.hid (Hb.out.trans (hb1.mono hsz))
      clear hb1
      cases hP : P x with
      | false =>
        have Hn := Lib.hid (Hgo.out Hka.out hP)
        clear hP
        go_wp2_with fail
        go_roundw
        case rel => exact ⟨k + 1, by omega, by go_num, Hn.out, Hb1.out⟩
        case measure => simp [intOf]; omega
      | true =>
        have Hn := Lib.hid (Hat.out Hka.out hP)
        clear hP
        go_wp2_with fail
        go_ret
        exact ⟨_, rfl, .inl ⟨by rw [Hn.out], by rw [Hn.out]; exact hlt⟩, Hb1.out⟩
    · obtain rfl : k = L.length := by omega
      have Hn := Lib.hid (Nat.le_antisymm (aheadG_le P L) Hka.out)
      go_wp2
      go_ret
      exact ⟨_, rfl, .inr ⟨rfl, Hn.out⟩, Hb.out⟩

set_option maxRecDepth 100000 in
theorem containsIn1 (K : FuncId) (u : Value) (P : Int → Bool) (S : Nat → Prop) (p : Option Addr) (n c : Nat) (L : List Int) (w : World) (h : SliceS 1 IntU S w [.slice p n c] L)
    (hE : ∀ (args : Array Value) (w0 : World), (callFunc K args).run Tryz.prog w0 = .ok (.enter K args) w0) (hK : ∀ (x : Int) (w0 : World), Below w.heap.size w w0 →  Calls Tryz.prog K #[.int .i64 x, u] w0 fun e w' => e = .returned (.bool (P x)) ∧ Below w0.heap.size w0 w') :
    Calls Tryz.prog 107 #[.slice p n c, .func (.func K) #[] #[u]] w fun e w' => e = .returned (.bool (L.any P)) ∧ Below w.heap.size w w' := by
  have H := Lib.hid (indexIn1 K u P S p n c L w h hE hK)
  clear h hK
  go_enter Tryz.func107, Tryz.ntmps107
  go_wp2_with fail
  refine H.out.mono ?_
  rintro e w1 ⟨r, rfl, hr, hb⟩
  have Hr := Lib.hid hr.any
  have Hb := Lib.hid hb
  clear hb hr
  go_wp2
  go_ret
  exact ⟨ret_bool Hr.out, Hb.out⟩

end Go.Proofs.YthhebfknikfleaaGreat

