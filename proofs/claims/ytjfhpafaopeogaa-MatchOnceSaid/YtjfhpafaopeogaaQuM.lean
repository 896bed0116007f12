/-
  The document's Same and All at entries (layer 21).
-/
import Derived.Test.YtjfhpafaopeogaaQuG
import Derived.Test.YtjfhpafaopeogaaQuSm
namespace Go.Proofs.Ytjfhpafaopeogaa
open Go.RowKit
set_option linter.unusedVariables false
set_option linter.unusedSimpArgs false

set_option maxRecDepth 100000 in
set_option maxHeartbeats 4000000 in
theorem rSame_any (S S' : Nat → Prop) (x y : EnV) (a b : EnP) (w : World) (h1 : EnL S w x a) (h2 : EnL S' w y b) :
    Calls Try.prog 34 #[enArg x a, enArg y b] w fun e w' => e = .returned (.bool (enEq x y)) ∧ Below w.heap.size w w' := by
  have H0 := Lib.hid (SameI.start h1 h2)
  clear h1 h2
  have He : Hid (enEq x y = ((x.kind == y.kind) && ((x.hide == y.hide) && (((x.frm.toList == y.frm.toList) && (x.dst.toList == y.dst.toList)) && ((listEq opEq x.good y.good && (listEq opEq x.bad y.bad && listEq caEq x.cache y.cache)) && (x.reply == y.reply)))))) := Lib.hid rfl
  obtain ⟨dv, hdv⟩ : ∃ dv : Bool, dv = ((x.kind == y.kind) && ((x.hide == y.hide) && ((x.frm.toList == y.frm.toList) && ((x.dst.toList == y.dst.toList) && ((x.reply == y.reply) && ((x.cache.length : Int) == (y.cache.length : Int))))))) := ⟨_, rfl⟩
  have Hd := Lib.hid hdv
  clear hdv
  generalize enEq x y = ev at *
  obtain ⟨xk, xh, xf, xd, xg, xb, xc, xr⟩ := x
  obtain ⟨yk, yh, yf, yd, yg, yb, yc, yr⟩ := y
  obtain ⟨pg, cg, pb, cb, pc, cc, pr, cr⟩ := a
  obtain ⟨qg, dg, qb, db, qc, dc, qr, dr⟩ := b
  unfold enArg
  dsimp only at *
  go_enter Try.func34, Try.ntmps34
  go_upto_region 1 with (fail)
  unfold enArg at H0
  simp only [Value.cells] at H0
  generalize (w.alloc (.cells #[.int .i64 xk, .bool xh, .string xf, .string xd, .slice pg xg.length cg, .slice pb xb.length cb, .slice pc xc.length cc, .slice pr xr.length cr] 52)).alloc (.cells #[.int .i64 yk, .bool yh, .string yf, .string yd, .slice qg yg.length dg, .slice qb yb.length db, .slice qc yc.length dc, .slice qr yr.length dr] 52) = w1 at *
  have hc1 : ∀ i, w1.cell? ⟨w.heap.size, i, none⟩ = (#[.int .i64 xk, .bool xh, .string xf, .string xd, .slice pg xg.length cg, .slice pb xb.length cb, .slice pc xc.length cc, .slice pr xr.length cr] : Array Value)[i]? := H0.out.b1.cell
  have hd1 : ∀ i, w1.cell? ⟨w.heap.size + 1, i, none⟩ = (#[.int .i64 yk, .bool yh, .string yf, .string yd, .slice qg yg.length dg, .slice qb yb.length db, .slice qc yc.length dc, .slice qr yr.length dr] : Array Value)[i]? := H0.out.b2.cell
  have hv1 : (convert 50 9 (.slice pr xr.length cr)).run Try.prog w1 = .ok (.string (strOf xr)) w1 := H0.out.l1.reply.parts.2.2.2.convert cr _ _ _ Try.underlying50 Try.underlying5 Try.underlying9
  have hv2 : (convert 50 9 (.slice qr yr.length dr)).run Try.prog w1 = .ok (.string (strOf yr)) w1 := H0.out.l2.reply.parts.2.2.2.convert dr _ _ _ Try.underlying50 Try.underlying5 Try.underlying9
  go_cut [0, 1, 49] (fun _ _ v wx => v = .bool (!dv) ∧ wx = w1)
  case first =>
    go_wp2_with fail
    all_goals
      go_meet
      refine ⟨?_, rfl⟩
      rw [Hd.out]
      simp_all [strOf_toList, bne]
  case rest =>
    obtain ⟨rfl, rfl⟩ := hcut
    clear hv1 hv2
    have HB := Lib.hid H0.out.bel
    cases dv with
    | false =>
      go_wp2_with fail
      go_ret
      refine ⟨ret_bool ?_, HB.out⟩
      rw [He.out]
      have hd := Hd.out
      cases hk : (xk == yk) with
      | false => rfl
      | true =>
        cases hh : (xh == yh) with
        | false => rfl
        | true =>
          cases hf : (xf.toList == yf.toList) with
          | false => rfl
          | true =>
            cases hdd : (xd.toList == yd.toList) with
            | false => rfl
            | true =>
              cases hr : (xr == yr) with
              | false => simp
              | true =>
                rw [hk, hh, hf, hdd, hr] at hd
                have hne : xc.length ≠ yc.length := fun e => by rw [e] at hd; simp at hd
                rw [listEq_len hne]
                simp
    | true =>
      simp only [Bool.not_true]
      have hd := Hd.out
      simp only [Bool.true_eq, Bool.and_eq_true] at hd
      obtain ⟨hk, hh, hf, hdd, hr, hl⟩ := hd
      rw [hk, hh, hf, hdd, hr] at He
      simp only [Bool.true_and, Bool.and_true] at He
      have hll : xc.length = yc.length := by simp at hl; omega
      have Hll := Lib.hid hll
      have hxm : xc.length ≤ 9223372036854775807 := by have h : xc.length ≤ cc ∧ cc ≤ maxLen := H0.out.l1.cache.len.2; unfold maxLen at h; omega
      clear hk hh hf hdd hr hl Hd hll
      go_wp2_with fail
      go_loopw [5] (fun i wr => ∃ k r : Nat, k ≤ xc.length ∧ i = .int .i64 k ∧ wr = wc.drewN r ∧ listEq caEq xc yc = listEq caEq (xc.drop k) (yc.drop k)) (fun i _ => xc.length - (intOf i).toNat)
      case atStart => exact ⟨0, 0, Nat.zero_le _, rfl, rfl, rfl⟩
      case round =>
        obtain ⟨k, r, hk, rfl, rfl, he⟩ := hrel
        have Hq := Lib.hid he
        clear he
        have H5 := Lib.hid (H0.out.drewN r)
        have hc2 : ∀ i, (wc.drewN r).cell? ⟨w.heap.size, i, none⟩ = (#[.int .i64 xk, .bool xh, .string xf, .string xd, .slice pg xg.length cg, .slice pb xb.length cb, .slice pc xc.length cc, .slice pr xr.length cr] : Array Value)[i]? := H5.out.b1.cell
        have hd2 : ∀ i, (wc.drewN r).cell? ⟨w.heap.size + 1, i, none⟩ = (#[.int .i64 yk, .bool yh, .string yf, .string yd, .slice qg yg.length dg, .slice qb yb.length db, .slice qc yc.length dc, .slice qr yr.length dr] : Array Value)[i]? := H5.out.b2.cell
        have HB2 := Lib.hid H5.out.bel
        clear hc1 hd1 HB
        by_cases hlt : k < xc.length
        · have hlt' : k < yc.length := by rw [← Hll.out]; exact hlt
          obtain ⟨b, o, cs, rfl, _, hbl, _, hcx, hrx⟩ := H5.out.l1.cache.elem (by omega) k xc[k] (List.getElem?_eq_getElem hlt)
          obtain ⟨b', o', cs', rfl, _, hbl', _, hcy, hry⟩ := H5.out.l2.cache.elem (by omega) k yc[k] (List.getElem?_eq_getElem hlt')
          unfold CaS at hrx hry
          subst hrx hry
          have c0 := hcx 0 _ rfl
          have e0 := hcy 0 _ rfl
          have c1 := hcx 1 _ rfl
          have e1 := hcy 1 _ rfl
          rw [Nat.add_zero] at c0 e0
          have Hst := Lib.hid (listEq_step (f := caEq) hlt hlt')
          clear hcx hcy hbl hbl'
          generalize hX : xc[k] = x at *
          generalize hY : yc[k] = y at *
          clear hX hY
          obtain ⟨wq, hwq⟩ : ∃ wq, wq = wc.drewN r := ⟨_, rfl⟩
          rw [← hwq] at c0 e0 c1 e1 hc2 hd2 HB2 ⊢
          have Hwq := Lib.hid hwq
          clear hwq H5 H0
          have hlti : (k : Int) < (xc.length : Int) := by omega
          have hlti' : (k : Int) < (yc.length : Int) := by omega
          have hwk : IntKind.i64.wrap ((k : Int) + 1) = (k : Int) + 1 := by
            have := hxm
            rw [IntKind.wrap_i64]; omega
          have hgd : ∀ (op : BinOp) (a b : Operand) (xs ys : Array Value) (w0 : World), (eqGuard op 132 a b (.agg xs) (.agg ys)).run Try.prog w0 = .ok () w0 := fun op a b xs ys w0 => run_eqGuard_agg w0 op 132 a b xs ys (by kernel_rfl)
          cases hxy : caEq x y with
          | true =>
            rw [hxy, Bool.true_and] at Hst
            have hq := fun w0 => neq_ca x y w0
            rw [hxy, Bool.not_true] at hq
            clear hxy
            obtain ⟨x1, x2⟩ := x
            obtain ⟨y1, y2⟩ := y
            dsimp only at c0 e0 c1 e1 hq
            go_wp2_with fail
            go_quiet (fail)
            go_wp2_with fail
            go_roundw
            case rel => exact ⟨k + 1, r + nq, by omega, by go_num, by rw [Hwq.out, World.drewN_drewN], Hq.out.trans Hst.out⟩
            case measure => simp [intOf]; omega
          | false =>
            rw [hxy, Bool.false_and] at Hst
            have hq := fun w0 => neq_ca x y w0
            rw [hxy, Bool.not_false] at hq
            clear hxy
            obtain ⟨x1, x2⟩ := x
            obtain ⟨y1, y2⟩ := y
            dsimp only at c0 e0 c1 e1 hq
            have Hfin := Lib.hid (Hq.out.trans Hst.out)
            go_wp2_with fail
            go_quiet (fail)
            go_wp2_with fail
            go_ret
            exact ⟨ret_bool (by rw [He.out, Hfin.out]; simp), HB2.out.trans (bel_drewN _ _ _ HB2.out.size)⟩
        · obtain rfl : k = xc.length := by omega
          have Hfin := Lib.hid (Hq.out.trans (listEq_end Hll.out))
          rw [Hfin.out, Bool.and_true] at He
          have Hops := Lib.hid (equal_refOps _ _ pg qg _ _ cg dg xg yg _ H5.out.l1.good H5.out.l2.good)
          have H6 := Lib.hid (fun r2 => (H0.out.drewN (r + r2)))
          go_wp2_with fail
          refine Hops.out.mono ?_
          rintro e w5 ⟨rfl, r5, rfl⟩
          have H7 := Lib.hid (H6.out r5)
          have HB7 := Lib.hid H7.out.bel
          have hc7 : ∀ i, (wc.drewN (r + r5)).cell? ⟨w.heap.size, i, none⟩ = (#[.int .i64 xk, .bool xh, .string xf, .string xd, .slice pg xg.length cg, .slice pb xb.length cb, .slice pc xc.length cc, .slice pr xr.length cr] : Array Value)[i]? := H7.out.b1.cell
          have hd7 : ∀ i, (wc.drewN (r + r5)).cell? ⟨w.heap.size + 1, i, none⟩ = (#[.int .i64 yk, .bool yh, .string yf, .string yd, .slice qg yg.length dg, .slice qb yb.length db, .slice qc yc.length dc, .slice qr yr.length dr] : Array Value)[i]? := H7.out.b2.cell
          have Hops2 := Lib.hid (equal_refOps _ _ pb qb _ _ cb db xb yb _ H7.out.l1.bad H7.out.l2.bad)
          clear hc2 hd2 Hops H6 H5 H0 H7
          cases hg : listEq opEq xg yg with
          | false =>
            rw [hg, Bool.false_and] at He
            go_wp2_with fail
            go_ret
            exact ⟨ret_bool He.out.symm, HB7.out⟩
          | true =>
            rw [hg, Bool.true_and] at He
            go_wp2_with fail
            refine Hops2.out.mono ?_
            rintro e w6 ⟨rfl, r6, rfl⟩
            go_wp2_with fail
            go_ret
            have hz := HB7.out
            have h2 := bel_drewN (wc.drewN (r + r5)) r6 w.heap.size hz.size
            rw [World.drewN_drewN] at h2
            exact ⟨ret_bool He.out.symm, hz.trans h2⟩

end Go.Proofs.Ytjfhpafaopeogaa
