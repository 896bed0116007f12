/-
  The contract of remudaref21.Ops (layer 21).
-/
import Derived.Test.YtjfhpafaopeogaaQuEqA
namespace Go.Proofs.Ytjfhpafaopeogaa
open Go.RowKit
set_option linter.unusedVariables false
set_option linter.unusedSimpArgs false

set_option maxRecDepth 100000 in
set_option maxHeartbeats 4000000 in
/-- remudaref21.Ops. -/
theorem equal_refOps (S S' : Nat → Prop) (p q : Option Addr) (n m c d : Nat) (xs ys : List OpV) (w : World) (hx : SliceS 3 OpS S w [.slice p n c] xs) (hy : SliceS 3 OpS S' w [.slice q m d] ys) :
    Calls Try.prog 76 #[.slice p n c, .slice q m d] w fun e w' => e = .returned (.bool (listEq opEq xs ys)) ∧ ∃ r, w' = w.drewN r := by
  have Hx := Lib.hid hx
  have Hy := Lib.hid hy
  obtain ⟨rfl, hlc, hcm⟩ := hx.len
  obtain ⟨rfl, hld, hdm⟩ := hy.len
  unfold maxLen at hcm hdm
  clear hx hy
  by_cases hnm : xs.length = ys.length
  · have Hnm := Lib.hid hnm
    rw [← hnm] at hld ⊢
    clear hnm
    go_enter Try.func76, Try.ntmps76
    go_wp2_with fail
    go_loopw [5] (fun i wr => ∃ k r : Nat, k ≤ xs.length ∧ i = .int .i64 k ∧ wr = w.drewN r ∧ listEq opEq xs ys = listEq opEq (xs.drop k) (ys.drop k)) (fun i _ => xs.length - (intOf i).toNat)
    case atStart => exact ⟨0, 0, Nat.zero_le _, rfl, rfl, rfl⟩
    case round =>
      obtain ⟨k, r, hk, rfl, rfl, he⟩ := hrel
      have He := Lib.hid he
      clear he
      by_cases hlt : k < xs.length
      · have hlt' : k < ys.length := by rw [← Hnm.out]; exact hlt
        obtain ⟨b, o, cs, rfl, _, hbl, _, hc, hr⟩ := Hx.out.elem (by omega) k xs[k] (List.getElem?_eq_getElem hlt)
        obtain ⟨b', o', cs', rfl, _, hbl', _, hc', hr'⟩ := Hy.out.elem (by omega) k ys[k] (List.getElem?_eq_getElem hlt')
        unfold OpS at hr hr'
        subst hr hr'
        have c0 : (w.drewN r).cell? _ = _ := hc 0 _ rfl
        have e0 : (w.drewN r).cell? _ = _ := hc' 0 _ rfl
        have c1 : (w.drewN r).cell? _ = _ := hc 1 _ rfl
        have e1 : (w.drewN r).cell? _ = _ := hc' 1 _ rfl
        have c2 : (w.drewN r).cell? _ = _ := hc 2 _ rfl
        have e2 : (w.drewN r).cell? _ = _ := hc' 2 _ rfl
        rw [Nat.add_zero] at c0 e0
        have Hst := Lib.hid (listEq_step (f := opEq) hlt hlt')
        clear hc hc' hbl hbl'
        generalize hX : xs[k] = x at *
        generalize hY : ys[k] = y at *
        clear hX hY hlt'
        obtain ⟨wq, hwq⟩ : ∃ wq, wq = w.drewN r := ⟨_, rfl⟩
        rw [← hwq] at c0 e0 c1 e1 c2 e2 ⊢
        have Hwq := Lib.hid hwq
        clear hwq
        have hlti : (k : Int) < (xs.length : Int) := by omega
        have hgd : ∀ (op : BinOp) (a b : Operand) (xs ys : Array Value) (w0 : World), (eqGuard op 55 a b (.agg xs) (.agg ys)).run Try.prog w0 = .ok () w0 := fun op a b xs ys w0 => run_eqGuard_agg w0 op 55 a b xs ys (by kernel_rfl)
        cases hxy : opEq x y with
        | true =>
          rw [hxy, Bool.true_and] at Hst
          have hq := fun w0 => neq_op x y w0
          rw [hxy, Bool.not_true] at hq
          clear hxy
          obtain ⟨x1, x2, x3⟩ := x
          obtain ⟨y1, y2, y3⟩ := y
          dsimp only at c0 e0 c1 e1 c2 e2 hq
          go_wp2_with fail
          go_region
          all_goals
            go_wp2_with fail
            go_roundw
            case rel => exact ⟨k + 1, r + 1, by omega, by go_num, by rw [Hwq.out]; rfl, He.out.trans Hst.out⟩
            case measure => simp [intOf]; omega
        | false =>
          rw [hxy, Bool.false_and] at Hst
          have hq := fun w0 => neq_op x y w0
          rw [hxy, Bool.not_false] at hq
          clear hxy
          obtain ⟨x1, x2, x3⟩ := x
          obtain ⟨y1, y2, y3⟩ := y
          dsimp only at c0 e0 c1 e1 c2 e2 hq
          have Hfin := Lib.hid (He.out.trans Hst.out)
          go_wp2_with fail
          go_region
          all_goals
            go_wp2_with fail
            go_ret
            exact ⟨ret_bool Hfin.out.symm, r + 1, by rw [Hwq.out]; rfl⟩
      · obtain rfl : k = xs.length := by omega
        have Hfin := Lib.hid (He.out.trans (listEq_end Hnm.out))
        go_wp2
        go_ret
        exact ⟨ret_bool Hfin.out.symm, r, rfl⟩
  · have Hfin := Lib.hid (listEq_len (f := opEq) hnm)
    have hnmi : ¬ (xs.length : Int) = (ys.length : Int) := by omega
    go_enter Try.func76, Try.ntmps76
    go_wp2
    go_ret
    exact ⟨ret_bool Hfin.out.symm, 0, rfl⟩

end Go.Proofs.Ytjfhpafaopeogaa
