/-
  First messages (layer 5): whether two are the same.
-/
import Derived.Test.YtjfhpafaopeogaaHeG
namespace Go.Proofs.Ytjfhpafaopeogaa
open Go.RowKit
set_option linter.unusedVariables false
set_option linter.unusedSimpArgs false

def prEq (a b : PrV) : Bool := (a.name.toList == b.name.toList) && (a.value.toList == b.value.toList)
theorem prEq_self (a : PrV) : prEq a a = true := by simp [prEq]
theorem neq_pr (x y : PrV) (w : World) : (binOp .neq 150 (.agg #[.string x.name, .string x.value]) (.agg #[.string y.name, .string y.value])).run Try.prog w = .ok (.bool (!prEq x y)) w := by
  have hS : Try.prog.underlying 150 = some (.struct (Try.prog.fieldsOf 150)) := by kernel_rfl
  have hp : Try.prog.stoodInHeld 150 = false := by kernel_rfl
  have u2 := Try.underlying9
  have a2 := Try.isAgg9
  have z2 := Try.sizeOf9
  rw [run_neq_struct, show (10000 : Nat) = 9999 + 1 from rfl, run_equalIn_agg w 9999 150 _ _ hS hp]
  simp only [Program.fieldsOf, Try.underlying150]
  unfold prEq
  obtain ⟨x1, x2⟩ := x
  obtain ⟨y1, y2⟩ := y
  go_simp
  by_cases h1 : x1.toList = y1.toList <;> by_cases h2 : x2.toList = y2.toList <;> simp [h1, h2]

/-- Two first messages are the same. -/
def helEq (a b : HelV) : Bool := (a.code == b.code) && ((a.process == b.process) && ((a.secret == b.secret) && listEq prEq a.params b.params))

set_option maxRecDepth 100000 in
set_option maxHeartbeats 4000000 in
theorem helSame_any (S S' : Nat → Prop) (x y : HelV) (p q : Option Addr) (c d : Nat) (w : World) (h1 : SliceS 2 PrS S w [.slice p x.params.length c] x.params) (h2 : SliceS 2 PrS S' w [.slice q y.params.length d] y.params) :
    Calls Try.prog 49 #[helArg x p c, helArg y q d] w fun e w' => e = .returned (.bool (helEq x y)) ∧ Below w.heap.size w w' := by
  obtain ⟨-, hlc, hcm⟩ := h1.len
  obtain ⟨-, hld, hdm⟩ := h2.len
  unfold maxLen at hcm hdm
  have He : Hid (helEq x y = ((x.code == y.code) && ((x.process == y.process) && ((x.secret == y.secret) && listEq prEq x.params y.params)))) := Lib.hid rfl
  obtain ⟨dv, hdv⟩ : ∃ dv : Bool, dv = ((x.code == y.code) && ((x.process == y.process) && ((x.secret == y.secret) && ((x.params.length : Int) == (y.params.length : Int))))) := ⟨_, rfl⟩
  have Hd := Lib.hid hdv
  clear hdv
  have hbel : Below w.heap.size w ((w.alloc (.cells (helCells x p c) 94)).alloc (.cells (helCells y q d) 94)) := ((Below.refl _ _).alloc (Nat.le_refl _) _).alloc (by simp) _
  have H1 := Lib.hid (h1.below PrS.still hbel)
  have H2 := Lib.hid (h2.below PrS.still hbel)
  have hb1 : Blk ((w.alloc (.cells (helCells x p c) 94)).alloc (.cells (helCells y q d) 94)) w.heap.size 94 (helCells x p c) := (Blk.new _ _ _).alloc _
  have hb2 : Blk ((w.alloc (.cells (helCells x p c) 94)).alloc (.cells (helCells y q d) 94)) (w.heap.size + 1) 94 (helCells y q d) := by
    have := Blk.new (w.alloc (.cells (helCells x p c) 94)) 94 (helCells y q d)
    simpa using this
  have HB := Lib.hid hbel
  clear h1 h2 hbel
  generalize helEq x y = ev at *
  obtain ⟨xc, xp, xs, xL⟩ := x
  obtain ⟨yc, yp, ys, yL⟩ := y
  unfold helArg helCells at *
  dsimp only at *
  go_enter Try.func49, Try.ntmps49
  go_upto_region 1 with (fail)
  generalize (w.alloc (.cells #[.int .i64 xc, .int .i64 xp, .int .i64 xs, .slice p xL.length c] 94)).alloc (.cells #[.int .i64 yc, .int .i64 yp, .int .i64 ys, .slice q yL.length d] 94) = w1 at *
  have hc1 := hb1.cell
  have hd1 := hb2.cell
  have Hb1 := Lib.hid hb1
  have Hb2 := Lib.hid hb2
  clear hb1 hb2
  go_cut [0, 1, 33] (fun _ _ v wx => v = .bool (!dv) ∧ wx = w1)
  case first =>
    go_wp2_with fail
    all_goals
      go_meet
      refine ⟨?_, rfl⟩
      rw [Hd.out]
      simp_all [bne]
  case rest =>
    obtain ⟨rfl, rfl⟩ := hcut
    cases dv with
    | false =>
      go_wp2_with fail
      go_ret
      refine ⟨ret_bool ?_, HB.out⟩
      rw [He.out]
      have hd := Hd.out
      cases hk : (xc == yc) with
      | false => rfl
      | true =>
        cases hh : (xp == yp) with
        | false => rfl
        | true =>
          cases hf : (xs == ys) with
          | false => rfl
          | true =>
            rw [hk, hh, hf] at hd
            have hne : xL.length ≠ yL.length := fun e => by rw [e] at hd; simp at hd
            rw [listEq_len hne]
            simp
    | true =>
      simp only [Bool.not_true]
      have hd := Hd.out
      simp only [Bool.true_eq, Bool.and_eq_true] at hd
      obtain ⟨hk, hh, hf, hl⟩ := hd
      rw [hk, hh, hf] at He
      simp only [Bool.true_and] at He
      have hll : xL.length = yL.length := by simp at hl; omega
      have Hll := Lib.hid hll
      clear hk hh hf hl Hd hll
      go_wp2_with fail
      go_loopw [5] (fun i wr => ∃ k r : Nat, k ≤ xL.length ∧ i = .int .i64 k ∧ wr = wc.drewN r ∧ listEq prEq xL yL = listEq prEq (xL.drop k) (yL.drop k)) (fun i _ => xL.length - (intOf i).toNat)
      case atStart => exact ⟨0, 0, Nat.zero_le _, rfl, rfl, rfl⟩
      case round =>
        obtain ⟨k, r, hk, rfl, rfl, he⟩ := hrel
        have Hq := Lib.hid he
        clear he
        have hbr : Below wc.heap.size wc (wc.drewN r) := ((Touch.refl (fun _ => False) wc).drewN r).below (Nat.le_refl _) (fun _ e => e.elim)
        have hc2 : ∀ i, (wc.drewN r).cell? ⟨w.heap.size, i, none⟩ = (#[.int .i64 xc, .int .i64 xp, .int .i64 xs, .slice p xL.length c] : Array Value)[i]? := Hb1.out.cell
        have hd2 : ∀ i, (wc.drewN r).cell? ⟨w.heap.size + 1, i, none⟩ = (#[.int .i64 yc, .int .i64 yp, .int .i64 ys, .slice q yL.length d] : Array Value)[i]? := Hb2.out.cell
        have HB2 := Lib.hid (HB.out.trans (hbr.mono HB.out.size))
        by_cases hlt : k < xL.length
        · have hlt' : k < yL.length := by rw [← Hll.out]; exact hlt
          obtain ⟨b, o, rfl, _, hbl, c0, c1⟩ := pr_at (H1.out.below PrS.still hbr) hlt
          obtain ⟨b', o', rfl, _, hbl', e0, e1⟩ := pr_at (H2.out.below PrS.still hbr) hlt'
          have Hst := Lib.hid (listEq_step (f := prEq) hlt hlt')
          clear hc1 hd1 hbl hbl' hbr
          generalize hX : xL[k] = x at *
          generalize hY : yL[k] = y at *
          clear hX hY
          obtain ⟨wq, hwq⟩ : ∃ wq, wq = wc.drewN r := ⟨_, rfl⟩
          rw [← hwq] at c0 e0 c1 e1 hc2 hd2 HB2 ⊢
          have Hwq := Lib.hid hwq
          clear hwq
          have hlti : (k : Int) < (xL.length : Int) := by omega
          have hlti' : (k : Int) < (yL.length : Int) := by omega
          have hwk : IntKind.i64.wrap ((k : Int) + 1) = (k : Int) + 1 := by
            rw [IntKind.wrap_i64]; omega
          have hgd : ∀ (op : BinOp) (a b : Operand) (xs ys : Array Value) (w0 : World), (eqGuard op 150 a b (.agg xs) (.agg ys)).run Try.prog w0 = .ok () w0 := fun op a b xs ys w0 => run_eqGuard_agg w0 op 150 a b xs ys (by kernel_rfl)
          cases hxy : prEq x y with
          | true =>
            rw [hxy, Bool.true_and] at Hst
            have hq := fun w0 => neq_pr x y w0
            rw [hxy, Bool.not_true] at hq
            clear hxy
            obtain ⟨x1, x2⟩ := x
            obtain ⟨y1, y2⟩ := y
            dsimp only at c0 e0 c1 e1 hq
            go_wp2_with fail
            go_quiet (fail)
            go_wp2_with fail
            go_roundw
            case rel => exact ⟨k + 1, r + nq, by omega, by go_num, by rw [Hwq.out, World.drewN_drewN], Hq.out.trans Hst.out⟩
            case measure => simp [intOf]; omega
          | false =>
            rw [hxy, Bool.false_and] at Hst
            have hq := fun w0 => neq_pr x y w0
            rw [hxy, Bool.not_false] at hq
            clear hxy
            obtain ⟨x1, x2⟩ := x
            obtain ⟨y1, y2⟩ := y
            dsimp only at c0 e0 c1 e1 hq
            have Hfin := Lib.hid (Hq.out.trans Hst.out)
            go_wp2_with fail
            go_quiet (fail)
            go_wp2_with fail
            go_ret
            exact ⟨ret_bool (by rw [He.out, Hfin.out]), HB2.out.trans (((Touch.refl (fun _ => False) wq).drewN _).below HB2.out.size (fun _ e => e.elim))⟩
        · obtain rfl : k = xL.length := by omega
          have Hfin := Lib.hid (Hq.out.trans (listEq_end Hll.out))
          clear hc1 hd1
          go_wp2_with fail
          go_ret
          exact ⟨ret_bool (by rw [He.out, Hfin.out]), HB2.out⟩

end Go.Proofs.Ytjfhpafaopeogaa
