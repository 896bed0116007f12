/-
  Messages of clients (layer 6): lists of numbers compared.
-/
import Derived.Test.YtldjfmddjbdciaaFoC
namespace Go.Proofs.Ytldjfmddjbdciaa
open Go.RowKit
set_option linter.unusedVariables false
set_option linter.unusedSimpArgs false

theorem bel_drawN (w : World) (r : Nat) : Below w.heap.size w (w.drewN r) := ((Touch.refl (fun _ => False) w).drewN r).below (Nat.le_refl _) (fun _ e => e.elim)

set_option maxRecDepth 100000 in
set_option maxHeartbeats 4000000 in
theorem eqInts_any (S S' : Nat → Prop) (p q : Option Addr) (n m c d : Nat) (xs ys : List Int) (w : World) (hx : SliceS 1 IntU S w [.slice p n c] xs) (hy : SliceS 1 IntU S' w [.slice q m d] ys) :
    Calls Try.prog 43 #[.slice p n c, .slice q m d] w fun e w' => e = .returned (.bool (listEq intsEq xs ys)) ∧ Below w.heap.size w w' := by
  have Hx := Lib.hid hx
  have Hy := Lib.hid hy
  obtain ⟨rfl, hlc, hcm⟩ := hx.len
  obtain ⟨rfl, hld, hdm⟩ := hy.len
  unfold maxLen at hcm hdm
  clear hx hy
  by_cases hnm : xs.length = ys.length
  · have Hnm := Lib.hid hnm
    rw [← hnm] at hld ⊢
    clear hnm
    go_enter Try.func43, Try.ntmps43
    go_wp2_with fail
    go_loopw [5, 13] (fun _ i wr => ∃ k r : Nat, k ≤ xs.length ∧ i = .int .i64 k ∧ wr = w.drewN r ∧ listEq intsEq xs ys = listEq intsEq (xs.drop k) (ys.drop k)) (fun _ i _ => xs.length - (intOf i).toNat)
    case atStart => exact ⟨0, 0, Nat.zero_le _, rfl, rfl, rfl⟩
    case round =>
      obtain ⟨k, r, hk, rfl, rfl, he⟩ := hrel
      have He := Lib.hid he
      clear he
      by_cases hlt : k < xs.length
      · have hlt' : k < ys.length := by rw [← Hnm.out]; exact hlt
        obtain ⟨b, o, rfl, _, hbl, c0⟩ := int_at Hx.out hlt
        obtain ⟨b', o', rfl, _, hbl', e0⟩ := int_at Hy.out hlt'
        have c0 : (w.drewN r).cell? _ = _ := c0
        have e0 : (w.drewN r).cell? _ = _ := e0
        have Hst := Lib.hid (listEq_step (f := intsEq) hlt hlt')
        clear hbl hbl'
        generalize hX : xs[k] = x at *
        generalize hY : ys[k] = y at *
        clear hX hY hlt'
        obtain ⟨wq, hwq⟩ : ∃ wq, wq = w.drewN r := ⟨_, rfl⟩
        rw [← hwq] at c0 e0 ⊢
        have Hwq := Lib.hid hwq
        clear hwq
        have hlti : (k : Int) < (xs.length : Int) := by omega
        cases hxy : intsEq x y with
        | true =>
          rw [hxy, Bool.true_and] at Hst
          obtain rfl : x = y := by simpa [intsEq] using hxy
          clear hxy
          go_wp2_with fail
          go_region
          all_goals
            go_wp2_with fail
            go_roundw
            case rel => exact ⟨k + 1, r + 1, by omega, by go_num, by rw [Hwq.out]; rfl, He.out.trans Hst.out⟩
            case measure => simp [intOf]; omega
        | false =>
          rw [hxy, Bool.false_and] at Hst
          have hne : ¬ x = y := by simpa [intsEq] using hxy
          clear hxy
          have Hfin := Lib.hid (He.out.trans Hst.out)
          go_wp2_with fail
          go_region
          all_goals
            go_wp2_with fail
            go_ret
            refine ⟨ret_bool Hfin.out.symm, ?_⟩
            rw [Hwq.out]
            exact bel_drawN w (r + 1)
      · obtain rfl : k = xs.length := by omega
        have Hfin := Lib.hid (He.out.trans (listEq_end Hnm.out))
        go_wp2
        go_ret
        exact ⟨ret_bool Hfin.out.symm, bel_drawN w r⟩
  · have Hfin := Lib.hid (listEq_len (f := intsEq) hnm)
    have hnmi : ¬ (xs.length : Int) = (ys.length : Int) := by omega
    go_enter Try.func43, Try.ntmps43
    go_wp2
    go_ret
    exact ⟨ret_bool Hfin.out.symm, Below.refl _ _⟩

set_option maxRecDepth 100000 in
set_option maxHeartbeats 4000000 in
theorem reqInts_any (S S' : Nat → Prop) (p q : Option Addr) (n m c d : Nat) (xs ys : List Int) (w : World) (hx : SliceS 1 IntU S w [.slice p n c] xs) (hy : SliceS 1 IntU S' w [.slice q m d] ys) :
    Calls Try.prog 44 #[.slice p n c, .slice q m d] w fun e w' => e = .returned (.bool (listEq intsEq xs ys)) ∧ Below w.heap.size w w' := by
  have Hx := Lib.hid hx
  have Hy := Lib.hid hy
  obtain ⟨rfl, hlc, hcm⟩ := hx.len
  obtain ⟨rfl, hld, hdm⟩ := hy.len
  unfold maxLen at hcm hdm
  clear hx hy
  by_cases hnm : xs.length = ys.length
  · have Hnm := Lib.hid hnm
    rw [← hnm] at hld ⊢
    clear hnm
    go_enter Try.func44, Try.ntmps44
    go_wp2_with fail
    go_loopw [5] (fun i wr => ∃ k r : Nat, k ≤ xs.length ∧ i = .int .i64 k ∧ wr = w.drewN r ∧ listEq intsEq xs ys = listEq intsEq (xs.drop k) (ys.drop k)) (fun i _ => xs.length - (intOf i).toNat)
    case atStart => exact ⟨0, 0, Nat.zero_le _, rfl, rfl, rfl⟩
    case round =>
      obtain ⟨k, r, hk, rfl, rfl, he⟩ := hrel
      have He := Lib.hid he
      clear he
      by_cases hlt : k < xs.length
      · have hlt' : k < ys.length := by rw [← Hnm.out]; exact hlt
        obtain ⟨b, o, rfl, _, hbl, c0⟩ := int_at Hx.out hlt
        obtain ⟨b', o', rfl, _, hbl', e0⟩ := int_at Hy.out hlt'
        have c0 : (w.drewN r).cell? _ = _ := c0
        have e0 : (w.drewN r).cell? _ = _ := e0
        have Hst := Lib.hid (listEq_step (f := intsEq) hlt hlt')
        clear hbl hbl'
        generalize hX : xs[k] = x at *
        generalize hY : ys[k] = y at *
        clear hX hY hlt'
        obtain ⟨wq, hwq⟩ : ∃ wq, wq = w.drewN r := ⟨_, rfl⟩
        rw [← hwq] at c0 e0 ⊢
        have Hwq := Lib.hid hwq
        clear hwq
        have hlti : (k : Int) < (xs.length : Int) := by omega
        cases hxy : intsEq x y with
        | true =>
          rw [hxy, Bool.true_and] at Hst
          obtain rfl : x = y := by simpa [intsEq] using hxy
          clear hxy
          go_wp2_with fail
          go_region
          all_goals
            go_wp2_with fail
            go_roundw
            case rel => exact ⟨k + 1, r + 1, by omega, by go_num, by rw [Hwq.out]; rfl, He.out.trans Hst.out⟩
            case measure => simp [intOf]; omega
        | false =>
          rw [hxy, Bool.false_and] at Hst
          have hne : ¬ x = y := by simpa [intsEq] using hxy
          clear hxy
          have Hfin := Lib.hid (He.out.trans Hst.out)
          go_wp2_with fail
          go_region
          all_goals
            go_wp2_with fail
            go_ret
            refine ⟨ret_bool Hfin.out.symm, ?_⟩
            rw [Hwq.out]
            exact bel_drawN w (r + 1)
      · obtain rfl : k = xs.length := by omega
        have Hfin := Lib.hid (He.out.trans (listEq_end Hnm.out))
        go_wp2
        go_ret
        exact ⟨ret_bool Hfin.out.symm, bel_drawN w r⟩
  · have Hfin := Lib.hid (listEq_len (f := intsEq) hnm)
    have hnmi : ¬ (xs.length : Int) = (ys.length : Int) := by omega
    go_enter Try.func44, Try.ntmps44
    go_wp2
    go_ret
    exact ⟨ret_bool Hfin.out.symm, Below.refl _ _⟩

end Go.Proofs.Ytldjfmddjbdciaa
