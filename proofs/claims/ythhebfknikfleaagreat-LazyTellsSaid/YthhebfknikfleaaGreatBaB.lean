/-
  Messages of servers (layer 7): columns and fields compared.
-/
import Derived.Test.YthhebfknikfleaaGreatBaA
import Derived.Test.YthhebfknikfleaaGreatPackD
import Derived.Laws.StructEq
namespace Go.Proofs.YthhebfknikfleaaGreat
open Go.RowKit
set_option linter.unusedVariables false
set_option linter.unusedSimpArgs false

theorem neq_co (x y : CoV) (w : World) : (binOp .neq 79 (.agg #[.string x.name, .int .i64 x.table, .int .i64 x.attr, .int .i64 x.oid, .int .i64 x.size, .int .i64 x.mod, .int .i64 x.format]) (.agg #[.string y.name, .int .i64 y.table, .int .i64 y.attr, .int .i64 y.oid, .int .i64 y.size, .int .i64 y.mod, .int .i64 y.format])).run Tryz.prog w = .ok (.bool (!coEq x y)) w := by
  have hS : Tryz.prog.underlying 79 = some (.struct (Tryz.prog.fieldsOf 79)) := by kernel_rfl
  have hp : Tryz.prog.stoodInHeld 79 = false := by kernel_rfl
  have u0 := Tryz.underlying3
  have a0 := Tryz.isAgg3
  have z0 := Tryz.sizeOf3
  have u1 := Tryz.underlying9
  have a1 := Tryz.isAgg9
  have z1 := Tryz.sizeOf9
  rw [run_neq_struct, show (10000 : Nat) = 9999 + 1 from rfl, run_equalIn_agg w 9999 79 _ _ hS hp]
  simp only [Program.fieldsOf, Tryz.underlying79]
  unfold coEq
  obtain ⟨x0, x1, x2, x3, x4, x5, x6⟩ := x
  obtain ⟨y0, y1, y2, y3, y4, y5, y6⟩ := y
  go_simp
  by_cases h0 : x0.toList = y0.toList
  case neg => simp [h0]
  by_cases h1 : x1 = y1
  case neg => simp [h0, h1]
  by_cases h2 : x2 = y2
  case neg => simp [h0, h1, h2]
  by_cases h3 : x3 = y3
  case neg => simp [h0, h1, h2, h3]
  by_cases h4 : x4 = y4
  case neg => simp [h0, h1, h2, h3, h4]
  by_cases h5 : x5 = y5
  case neg => simp [h0, h1, h2, h3, h4, h5]
  by_cases h6 : x6 = y6
  case neg => simp [h0, h1, h2, h3, h4, h5, h6]
  simp [h0, h1, h2, h3, h4, h5, h6]

theorem neq_fd (x y : FdV) (w : World) : (binOp .neq 87 (.agg #[.int .u8 x.code, .string x.text]) (.agg #[.int .u8 y.code, .string y.text])).run Tryz.prog w = .ok (.bool (!fdEq x y)) w := by
  have hS : Tryz.prog.underlying 87 = some (.struct (Tryz.prog.fieldsOf 87)) := by kernel_rfl
  have hp : Tryz.prog.stoodInHeld 87 = false := by kernel_rfl
  have u0 := Tryz.underlying9
  have a0 := Tryz.isAgg9
  have z0 := Tryz.sizeOf9
  have u1 := Tryz.underlying5
  have a1 := Tryz.isAgg5
  have z1 := Tryz.sizeOf5
  rw [run_neq_struct, show (10000 : Nat) = 9999 + 1 from rfl, run_equalIn_agg w 9999 87 _ _ hS hp]
  simp only [Program.fieldsOf, Tryz.underlying87]
  unfold fdEq
  obtain ⟨x0, x1⟩ := x
  obtain ⟨y0, y1⟩ := y
  go_simp
  by_cases h0 : x0 = y0
  case neg => simp [h0]
  by_cases h1 : x1.toList = y1.toList
  case neg => simp [h0, h1]
  simp [h0, h1]

set_option maxRecDepth 100000 in
set_option maxHeartbeats 4000000 in
/-- slices.Equal at remuda/api.Col. -/
theorem equal_cols (S S' : Nat → Prop) (p q : Option Addr) (n m c d : Nat) (xs ys : List CoV) (w : World) (hx : SliceS 7 CoS S w [.slice p n c] xs) (hy : SliceS 7 CoS S' w [.slice q m d] ys) :
    Calls Tryz.prog 73 #[.slice p n c, .slice q m d] w fun e w' => e = .returned (.bool (listEq coEq xs ys)) ∧ ∃ r, w' = w.drewN r := by
  have Hx := Lib.hid hx
  have Hy := Lib.hid hy
  obtain ⟨rfl, hlc, hcm⟩ := hx.len
  obtain ⟨rfl, hld, hdm⟩ := hy.len
  unfold maxLen at hcm hdm
  clear hx hy
  by_cases hnm : xs.length = ys.length
  · have Hnm := Lib.hid hnm
    rw [← hnm] at hld ⊢
    clear hnm
    go_enter Tryz.func73, Tryz.ntmps73
    go_wp2_with fail
    go_loopw [5, 13] (fun _ i wr => ∃ k r : Nat, k ≤ xs.length ∧ i = .int .i64 k ∧ wr = w.drewN r ∧ listEq coEq xs ys = listEq coEq (xs.drop k) (ys.drop k)) (fun _ i _ => xs.length - (intOf i).toNat)
    case atStart => exact ⟨0, 0, Nat.zero_le _, rfl, rfl, rfl⟩
    case round =>
      obtain ⟨k, r, hk, rfl, rfl, he⟩ := hrel
      have He := Lib.hid he
      clear he
      by_cases hlt : k < xs.length
      · have hlt' : k < ys.length := by rw [← Hnm.out]; exact hlt
        obtain ⟨b, o, cs, rfl, _, hbl, _, hc, hr⟩ := Hx.out.elem (by omega) k xs[k] (List.getElem?_eq_getElem hlt)
        obtain ⟨b', o', cs', rfl, _, hbl', _, hc', hr'⟩ := Hy.out.elem (by omega) k ys[k] (List.getElem?_eq_getElem hlt')
        obtain ⟨rfl, hq1⟩ := hr
        obtain ⟨rfl, hq2⟩ := hr'
        clear hq1 hq2
        have c0 : (w.drewN r).cell? _ = _ := hc 0 _ rfl
        have e0 : (w.drewN r).cell? _ = _ := hc' 0 _ rfl
        have c1 : (w.drewN r).cell? _ = _ := hc 1 _ rfl
        have e1 : (w.drewN r).cell? _ = _ := hc' 1 _ rfl
        have c2 : (w.drewN r).cell? _ = _ := hc 2 _ rfl
        have e2 : (w.drewN r).cell? _ = _ := hc' 2 _ rfl
        have c3 : (w.drewN r).cell? _ = _ := hc 3 _ rfl
        have e3 : (w.drewN r).cell? _ = _ := hc' 3 _ rfl
        have c4 : (w.drewN r).cell? _ = _ := hc 4 _ rfl
        have e4 : (w.drewN r).cell? _ = _ := hc' 4 _ rfl
        have c5 : (w.drewN r).cell? _ = _ := hc 5 _ rfl
        have e5 : (w.drewN r).cell? _ = _ := hc' 5 _ rfl
        have c6 : (w.drewN r).cell? _ = _ := hc 6 _ rfl
        have e6 : (w.drewN r).cell? _ = _ := hc' 6 _ rfl
        rw [Nat.add_zero] at c0 e0
        have Hst := Lib.hid (listEq_step (f := coEq) hlt hlt')
        clear hc hc' hbl hbl'
        generalize hX : xs[k] = x at *
        generalize hY : ys[k] = y at *
        clear hX hY hlt'
        obtain ⟨wq, hwq⟩ : ∃ wq, wq = w.drewN r := ⟨_, rfl⟩
        rw [← hwq] at c0 e0 c1 e1 c2 e2 c3 e3 c4 e4 c5 e5 c6 e6 ⊢
        have Hwq := Lib.hid hwq
        clear hwq
        have hlti : (k : Int) < (xs.length : Int) := by omega
        have hgd : ∀ (op : BinOp) (a b : Operand) (xs ys : Array Value) (w0 : World), (eqGuard op 79 a b (.agg xs) (.agg ys)).run Tryz.prog w0 = .ok () w0 := fun op a b xs ys w0 => run_eqGuard_agg w0 op 79 a b xs ys (by kernel_rfl)
        cases hxy : coEq x y with
        | true =>
          rw [hxy, Bool.true_and] at Hst
          have hq := fun w0 => neq_co x y w0
          rw [hxy, Bool.not_true] at hq
          clear hxy
          obtain ⟨x0, x1, x2, x3, x4, x5, x6⟩ := x
          obtain ⟨y0, y1, y2, y3, y4, y5, y6⟩ := y
          dsimp only at c0 e0 c1 e1 c2 e2 c3 e3 c4 e4 c5 e5 c6 e6 hq
          go_wp2_with fail
          go_region
          all_goals
            go_wp2_with fail
            go_roundw
            case rel => exact ⟨k + 1, r + 1, by omega, by go_num, by rw [Hwq.out]; rfl, He.out.trans Hst.out⟩
            case measure => simp [intOf]; omega
        | false =>
          rw [hxy, Bool.false_and] at Hst
          have hq := fun w0 => neq_co x y w0
          rw [hxy, Bool.not_false] at hq
          clear hxy
          obtain ⟨x0, x1, x2, x3, x4, x5, x6⟩ := x
          obtain ⟨y0, y1, y2, y3, y4, y5, y6⟩ := y
          dsimp only at c0 e0 c1 e1 c2 e2 c3 e3 c4 e4 c5 e5 c6 e6 hq
          have Hfin := Lib.hid (He.out.trans Hst.out)
          go_wp2_with fail
          go_region
          all_goals
            go_wp2_with fail
            go_ret
            exact ⟨ret_bool Hfin.out.symm, r + 1, by rw [Hwq.out]; rfl⟩
      · obtain rfl : k = xs.length := by omega
        have Hfin := Lib.hid (He.out.trans (listEq_end Hnm.out))
        go_wp2
        go_ret
        exact ⟨ret_bool Hfin.out.symm, r, rfl⟩
  · have Hfin := Lib.hid (listEq_len (f := coEq) hnm)
    have hnmi : ¬ (xs.length : Int) = (ys.length : Int) := by omega
    go_enter Tryz.func73, Tryz.ntmps73
    go_wp2
    go_ret
    exact ⟨ret_bool Hfin.out.symm, 0, rfl⟩

set_option maxRecDepth 100000 in
set_option maxHeartbeats 4000000 in
/-- slices.Equal at remuda/api.Field. -/
theorem equal_fields (S S' : Nat → Prop) (p q : Option Addr) (n m c d : Nat) (xs ys : List FdV) (w : World) (hx : SliceS 2 FdS S w [.slice p n c] xs) (hy : SliceS 2 FdS S' w [.slice q m d] ys) :
    Calls Tryz.prog 74 #[.slice p n c, .slice q m d] w fun e w' => e = .returned (.bool (listEq fdEq xs ys)) ∧ ∃ r, w' = w.drewN r := by
  have Hx := Lib.hid hx
  have Hy := Lib.hid hy
  obtain ⟨rfl, hlc, hcm⟩ := hx.len
  obtain ⟨rfl, hld, hdm⟩ := hy.len
  unfold maxLen at hcm hdm
  clear hx hy
  by_cases hnm : xs.length = ys.length
  · have Hnm := Lib.hid hnm
    rw [← hnm] at hld ⊢
    clear hnm
    go_enter Tryz.func74, Tryz.ntmps74
    go_wp2_with fail
    go_loopw [5, 13] (fun _ i wr => ∃ k r : Nat, k ≤ xs.length ∧ i = .int .i64 k ∧ wr = w.drewN r ∧ listEq fdEq xs ys = listEq fdEq (xs.drop k) (ys.drop k)) (fun _ i _ => xs.length - (intOf i).toNat)
    case atStart => exact ⟨0, 0, Nat.zero_le _, rfl, rfl, rfl⟩
    case round =>
      obtain ⟨k, r, hk, rfl, rfl, he⟩ := hrel
      have He := Lib.hid he
      clear he
      by_cases hlt : k < xs.length
      · have hlt' : k < ys.length := by rw [← Hnm.out]; exact hlt
        obtain ⟨b, o, cs, rfl, _, hbl, _, hc, hr⟩ := Hx.out.elem (by omega) k xs[k] (List.getElem?_eq_getElem hlt)
        obtain ⟨b', o', cs', rfl, _, hbl', _, hc', hr'⟩ := Hy.out.elem (by omega) k ys[k] (List.getElem?_eq_getElem hlt')
        obtain ⟨rfl, hq1⟩ := hr
        obtain ⟨rfl, hq2⟩ := hr'
        clear hq1 hq2
        have c0 : (w.drewN r).cell? _ = _ := hc 0 _ rfl
        have e0 : (w.drewN r).cell? _ = _ := hc' 0 _ rfl
        have c1 : (w.drewN r).cell? _ = _ := hc 1 _ rfl
        have e1 : (w.drewN r).cell? _ = _ := hc' 1 _ rfl
        rw [Nat.add_zero] at c0 e0
        have Hst := Lib.hid (listEq_step (f := fdEq) hlt hlt')
        clear hc hc' hbl hbl'
        generalize hX : xs[k] = x at *
        generalize hY : ys[k] = y at *
        clear hX hY hlt'
        obtain ⟨wq, hwq⟩ : ∃ wq, wq = w.drewN r := ⟨_, rfl⟩
        rw [← hwq] at c0 e0 c1 e1 ⊢
        have Hwq := Lib.hid hwq
        clear hwq
        have hlti : (k : Int) < (xs.length : Int) := by omega
        have hgd : ∀ (op : BinOp) (a b : Operand) (xs ys : Array Value) (w0 : World), (eqGuard op 87 a b (.agg xs) (.agg ys)).run Tryz.prog w0 = .ok () w0 := fun op a b xs ys w0 => run_eqGuard_agg w0 op 87 a b xs ys (by kernel_rfl)
        cases hxy : fdEq x y with
        | true =>
          rw [hxy, Bool.true_and] at Hst
          have hq := fun w0 => neq_fd x y w0
          rw [hxy, Bool.not_true] at hq
          clear hxy
          obtain ⟨x0, x1⟩ := x
          obtain ⟨y0, y1⟩ := y
          dsimp only at c0 e0 c1 e1 hq
          go_wp2_with fail
          go_region
          all_goals
            go_wp2_with fail
            go_roundw
            case rel => exact ⟨k + 1, r + 1, by omega, by go_num, by rw [Hwq.out]; rfl, He.out.trans Hst.out⟩
            case measure => simp [intOf]; omega
        | false =>
          rw [hxy, Bool.false_and] at Hst
          have hq := fun w0 => neq_fd x y w0
          rw [hxy, Bool.not_false] at hq
          clear hxy
          obtain ⟨x0, x1⟩ := x
          obtain ⟨y0, y1⟩ := y
          dsimp only at c0 e0 c1 e1 hq
          have Hfin := Lib.hid (He.out.trans Hst.out)
          go_wp2_with fail
          go_region
          all_goals
            go_wp2_with fail
            go_ret
            exact ⟨ret_bool Hfin.out.symm, r + 1, by rw [Hwq.out]; rfl⟩
      · obtain rfl : k = xs.length := by omega
        have Hfin := Lib.hid (He.out.trans (listEq_end Hnm.out))
        go_wp2
        go_ret
        exact ⟨ret_bool Hfin.out.symm, r, rfl⟩
  · have Hfin := Lib.hid (listEq_len (f := fdEq) hnm)
    have hnmi : ¬ (xs.length : Int) = (ys.length : Int) := by omega
    go_enter Tryz.func74, Tryz.ntmps74
    go_wp2
    go_ret
    exact ⟨ret_bool Hfin.out.symm, 0, rfl⟩

theorem eqCols_any (S S' : Nat → Prop) (p q : Option Addr) (n m c d : Nat) (xs ys : List CoV) (w : World) (hx : SliceS 7 CoS S w [.slice p n c] xs) (hy : SliceS 7 CoS S' w [.slice q m d] ys) :
    Calls Tryz.prog 73 #[.slice p n c, .slice q m d] w fun e w' => e = .returned (.bool (listEq coEq xs ys)) ∧ Below w.heap.size w w' :=
  (equal_cols S S' p q n m c d xs ys w hx hy).mono fun e w' h => ⟨h.1, by obtain ⟨r, hr⟩ := h.2; rw [hr]; exact bel_drawN w r⟩

theorem eqFields_any (S S' : Nat → Prop) (p q : Option Addr) (n m c d : Nat) (xs ys : List FdV) (w : World) (hx : SliceS 2 FdS S w [.slice p n c] xs) (hy : SliceS 2 FdS S' w [.slice q m d] ys) :
    Calls Tryz.prog 74 #[.slice p n c, .slice q m d] w fun e w' => e = .returned (.bool (listEq fdEq xs ys)) ∧ Below w.heap.size w w' :=
  (equal_fields S S' p q n m c d xs ys w hx hy).mono fun e w' h => ⟨h.1, by obtain ⟨r, hr⟩ := h.2; rw [hr]; exact bel_drawN w r⟩

end Go.Proofs.YthhebfknikfleaaGreat
