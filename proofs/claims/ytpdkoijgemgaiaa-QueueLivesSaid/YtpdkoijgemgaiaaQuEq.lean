/-
  The contracts of slices.Equal at api.TableOp, api.CacheOp and int (layer 21).
-/
import Derived.Test.YtpdkoijgemgaiaaEnA
import Derived.Laws.StructEq
namespace Go.Proofs.Ytpdkoijgemgaiaa
open Go.RowKit
set_option linter.unusedVariables false
set_option linter.unusedSimpArgs false

/-- Two lists are the same. -/
def listEq {α : Type} (f : α → α → Bool) : List α → List α → Bool
  | [], [] => true
  | a :: l, b :: m => f a b && listEq f l m
  | [], _ :: _ => false
  | _ :: _, [] => false

section
variable {α : Type} {f : α → α → Bool}
theorem listEq_len : ∀ {l m : List α}, l.length ≠ m.length → listEq f l m = false
  | [], [], h => absurd rfl h
  | a :: l, b :: m, h => by
    have : l.length ≠ m.length := by simpa using h
    simp [listEq, listEq_len this]
  | [], _ :: _, _ => rfl
  | _ :: _, [], _ => rfl
theorem listEq_self (hf : ∀ a, f a a = true) : ∀ l : List α, listEq f l l = true
  | [] => rfl
  | a :: l => by simp [listEq, hf a, listEq_self hf l]
theorem listEq_end {l m : List α} (h : l.length = m.length) : listEq f (l.drop l.length) (m.drop l.length) = true := by
  rw [List.drop_length, h, List.drop_length]
  rfl
theorem listEq_step {l m : List α} {k : Nat} (hl : k < l.length) (hm : k < m.length) : listEq f (l.drop k) (m.drop k) = (f l[k] m[k] && listEq f (l.drop (k + 1)) (m.drop (k + 1))) := by
  rw [List.drop_eq_getElem_cons hl, List.drop_eq_getElem_cons hm]
  rfl
end

/-- A number, whatever its size. -/
def IntU : Rd Int := fun _ _ cs n => cs = [.int .i64 n]
theorem IntU.still : Still IntU := fun _ _ _ _ _ _ h _ => h
theorem IntU.flat : ∀ (S S' : Nat → Prop) (w w' : World) (cs : List Value) (x : Int), IntU S w cs x → IntU S' w' cs x := fun _ _ _ _ _ _ h => h
theorem IntU.one (S : Nat → Prop) (w : World) (cs : List Value) (x : Int) (h : IntU S w cs x) : ∀ u ∈ cs, u.oneCell' = true := by
  unfold IntU at h
  subst h
  intro u hu
  simp only [List.mem_cons, List.not_mem_nil, or_false] at hu
  subst hu
  rfl

def opEq (a b : OpV) : Bool := (a.set == b.set) && ((a.name.toList == b.name.toList) && (a.id == b.id))
def caEq (a b : CaV) : Bool := (a.kind == b.kind) && (a.id == b.id)
def intEq (a b : Int) : Bool := a == b
theorem opEq_self (a : OpV) : opEq a a = true := by simp [opEq]
theorem caEq_self (a : CaV) : caEq a a = true := by simp [caEq]
theorem intEq_self (a : Int) : intEq a a = true := by simp [intEq]

theorem neq_op (x y : OpV) (w : World) : (binOp .neq 104 (.agg #[.bool x.set, .string x.name, .int .i64 x.id]) (.agg #[.bool y.set, .string y.name, .int .i64 y.id])).run Try.prog w = .ok (.bool (!opEq x y)) w := by
  have hS : Try.prog.underlying 104 = some (.struct (Try.prog.fieldsOf 104)) := by kernel_rfl
  have hp : Try.prog.stoodInHeld 104 = false := by kernel_rfl
  have u1 := Try.underlying4
  have u2 := Try.underlying9
  have u3 := Try.underlying3
  have a1 := Try.isAgg4
  have a2 := Try.isAgg9
  have a3 := Try.isAgg3
  have z1 := Try.sizeOf4
  have z2 := Try.sizeOf9
  have z3 := Try.sizeOf3
  rw [run_neq_struct, show (10000 : Nat) = 9999 + 1 from rfl, run_equalIn_agg w 9999 104 _ _ hS hp]
  simp only [Program.fieldsOf, Try.underlying104]
  unfold opEq
  obtain ⟨x1, x2, x3⟩ := x
  obtain ⟨y1, y2, y3⟩ := y
  go_simp
  by_cases h1 : x1 = y1 <;> by_cases h2 : x2.toList = y2.toList <;> by_cases h3 : x3 = y3 <;> simp [h1, h2, h3]
theorem neq_ca (x y : CaV) (w : World) : (binOp .neq 109 (.agg #[.int .i64 x.kind, .int .i64 x.id]) (.agg #[.int .i64 y.kind, .int .i64 y.id])).run Try.prog w = .ok (.bool (!caEq x y)) w := by
  have hS : Try.prog.underlying 109 = some (.struct (Try.prog.fieldsOf 109)) := by kernel_rfl
  have hp : Try.prog.stoodInHeld 109 = false := by kernel_rfl
  have u3 := Try.underlying3
  have a3 := Try.isAgg3
  have z3 := Try.sizeOf3
  rw [run_neq_struct, show (10000 : Nat) = 9999 + 1 from rfl, run_equalIn_agg w 9999 109 _ _ hS hp]
  simp only [Program.fieldsOf, Try.underlying109]
  unfold caEq
  obtain ⟨x1, x2⟩ := x
  obtain ⟨y1, y2⟩ := y
  go_simp
  by_cases h1 : x1 = y1 <;> by_cases h2 : x2 = y2 <;> simp [h1, h2]

set_option maxRecDepth 100000 in
set_option maxHeartbeats 4000000 in
/-- slices.Equal at remuda/api.TableOp. -/
theorem equal_ops (S S' : Nat → Prop) (p q : Option Addr) (n m c d : Nat) (xs ys : List OpV) (w : World) (hx : SliceS 3 OpS S w [.slice p n c] xs) (hy : SliceS 3 OpS S' w [.slice q m d] ys) :
    Calls Try.prog 77 #[.slice p n c, .slice q m d] w fun e w' => e = .returned (.bool (listEq opEq xs ys)) ∧ ∃ r, w' = w.drewN r := by
  have Hx := Lib.hid hx
  have Hy := Lib.hid hy
  obtain ⟨rfl, hlc, hcm⟩ := hx.len
  obtain ⟨rfl, hld, hdm⟩ := hy.len
  unfold maxLen at hcm hdm
  clear hx hy
  by_cases hnm : xs.length = ys.length
  · have Hnm := Lib.hid hnm
    rw [← hnm] at hld ⊢
    clear hnm
    go_enter Try.func77, Try.ntmps77
    go_wp2_with fail
    go_loopw [5, 13] (fun _ i wr => ∃ k r : Nat, k ≤ xs.length ∧ i = .int .i64 k ∧ wr = w.drewN r ∧ listEq opEq xs ys = listEq opEq (xs.drop k) (ys.drop k)) (fun _ i _ => xs.length - (intOf i).toNat)
    case atStart => exact ⟨0, 0, Nat.zero_le _, rfl, rfl, rfl⟩
    case round =>
      obtain ⟨k, r, hk, rfl, rfl, he⟩ := hrel
      have He := Lib.hid he
      clear he
      by_cases hlt : k < xs.length
      · have hlt' : k < ys.length := by rw [← Hnm.out]; exact hlt
        obtain ⟨b, o, cs, rfl, _, hbl, _, hc, hr⟩ := Hx.out.elem (by omega) k xs[k] (List.getElem?_eq_getElem hlt)
        obtain ⟨b', o', cs', rfl, _, hbl', _, hc', hr'⟩ := Hy.out.elem (by omega) k ys[k] (List.getElem?_eq_getElem hlt')
        unfold OpS at hr hr'
        subst hr hr'
        have c0 : (w.drewN r).cell? _ = _ := hc 0 _ rfl
        have e0 : (w.drewN r).cell? _ = _ := hc' 0 _ rfl
        have c1 : (w.drewN r).cell? _ = _ := hc 1 _ rfl
        have e1 : (w.drewN r).cell? _ = _ := hc' 1 _ rfl
        have c2 : (w.drewN r).cell? _ = _ := hc 2 _ rfl
        have e2 : (w.drewN r).cell? _ = _ := hc' 2 _ rfl
        rw [Nat.add_zero] at c0 e0
        have Hst := Lib.hid (listEq_step (f := opEq) hlt hlt')
        clear hc hc' hbl hbl'
        generalize hX : xs[k] = x at *
        generalize hY : ys[k] = y at *
        clear hX hY hlt'
        obtain ⟨wq, hwq⟩ : ∃ wq, wq = w.drewN r := ⟨_, rfl⟩
        rw [← hwq] at c0 e0 c1 e1 c2 e2 ⊢
        have Hwq := Lib.hid hwq
        clear hwq
        have hlti : (k : Int) < (xs.length : Int) := by omega
        have hgd : ∀ (op : BinOp) (a b : Operand) (xs ys : Array Value) (w0 : World), (eqGuard op 104 a b (.agg xs) (.agg ys)).run Try.prog w0 = .ok () w0 := fun op a b xs ys w0 => run_eqGuard_agg w0 op 104 a b xs ys (by kernel_rfl)
        cases hxy : opEq x y with
        | true =>
          rw [hxy, Bool.true_and] at Hst
          have hq := fun w0 => neq_op x y w0
          rw [hxy, Bool.not_true] at hq
          clear hxy
          obtain ⟨x1, x2, x3⟩ := x
          obtain ⟨y1, y2, y3⟩ := y
          dsimp only at c0 e0 c1 e1 c2 e2 hq
          go_wp2_with fail
          go_region
          all_goals
            go_wp2_with fail
            go_roundw
            case rel => exact ⟨k + 1, r + 1, by omega, by go_num, by rw [Hwq.out]; rfl, He.out.trans Hst.out⟩
            case measure => simp [intOf]; omega
        | false =>
          rw [hxy, Bool.false_and] at Hst
          have hq := fun w0 => neq_op x y w0
          rw [hxy, Bool.not_false] at hq
          clear hxy
          obtain ⟨x1, x2, x3⟩ := x
          obtain ⟨y1, y2, y3⟩ := y
          dsimp only at c0 e0 c1 e1 c2 e2 hq
          have Hfin := Lib.hid (He.out.trans Hst.out)
          go_wp2_with fail
          go_region
          all_goals
            go_wp2_with fail
            go_ret
            exact ⟨ret_bool Hfin.out.symm, r + 1, by rw [Hwq.out]; rfl⟩
      · obtain rfl : k = xs.length := by omega
        have Hfin := Lib.hid (He.out.trans (listEq_end Hnm.out))
        go_wp2
        go_ret
        exact ⟨ret_bool Hfin.out.symm, r, rfl⟩
  · have Hfin := Lib.hid (listEq_len (f := opEq) hnm)
    have hnmi : ¬ (xs.length : Int) = (ys.length : Int) := by omega
    go_enter Try.func77, Try.ntmps77
    go_wp2
    go_ret
    exact ⟨ret_bool Hfin.out.symm, 0, rfl⟩

set_option maxRecDepth 100000 in
set_option maxHeartbeats 4000000 in
/-- slices.Equal at remuda/api.CacheOp. -/
theorem equal_cas (S S' : Nat → Prop) (p q : Option Addr) (n m c d : Nat) (xs ys : List CaV) (w : World) (hx : SliceS 2 CaS S w [.slice p n c] xs) (hy : SliceS 2 CaS S' w [.slice q m d] ys) :
    Calls Try.prog 78 #[.slice p n c, .slice q m d] w fun e w' => e = .returned (.bool (listEq caEq xs ys)) ∧ ∃ r, w' = w.drewN r := by
  have Hx := Lib.hid hx
  have Hy := Lib.hid hy
  obtain ⟨rfl, hlc, hcm⟩ := hx.len
  obtain ⟨rfl, hld, hdm⟩ := hy.len
  unfold maxLen at hcm hdm
  clear hx hy
  by_cases hnm : xs.length = ys.length
  · have Hnm := Lib.hid hnm
    rw [← hnm] at hld ⊢
    clear hnm
    go_enter Try.func78, Try.ntmps78
    go_wp2_with fail
    go_loopw [5, 13] (fun _ i wr => ∃ k r : Nat, k ≤ xs.length ∧ i = .int .i64 k ∧ wr = w.drewN r ∧ listEq caEq xs ys = listEq caEq (xs.drop k) (ys.drop k)) (fun _ i _ => xs.length - (intOf i).toNat)
    case atStart => exact ⟨0, 0, Nat.zero_le _, rfl, rfl, rfl⟩
    case round =>
      obtain ⟨k, r, hk, rfl, rfl, he⟩ := hrel
      have He := Lib.hid he
      clear he
      by_cases hlt : k < xs.length
      · have hlt' : k < ys.length := by rw [← Hnm.out]; exact hlt
        obtain ⟨b, o, cs, rfl, _, hbl, _, hc, hr⟩ := Hx.out.elem (by omega) k xs[k] (List.getElem?_eq_getElem hlt)
        obtain ⟨b', o', cs', rfl, _, hbl', _, hc', hr'⟩ := Hy.out.elem (by omega) k ys[k] (List.getElem?_eq_getElem hlt')
        unfold CaS at hr hr'
        subst hr hr'
        have c0 : (w.drewN r).cell? _ = _ := hc 0 _ rfl
        have e0 : (w.drewN r).cell? _ = _ := hc' 0 _ rfl
        have c1 : (w.drewN r).cell? _ = _ := hc 1 _ rfl
        have e1 : (w.drewN r).cell? _ = _ := hc' 1 _ rfl
        rw [Nat.add_zero] at c0 e0
        have Hst := Lib.hid (listEq_step (f := caEq) hlt hlt')
        clear hc hc' hbl hbl'
        generalize hX : xs[k] = x at *
        generalize hY : ys[k] = y at *
        clear hX hY hlt'
        obtain ⟨wq, hwq⟩ : ∃ wq, wq = w.drewN r := ⟨_, rfl⟩
        rw [← hwq] at c0 e0 c1 e1 ⊢
        have Hwq := Lib.hid hwq
        clear hwq
        have hlti : (k : Int) < (xs.length : Int) := by omega
        have hgd : ∀ (op : BinOp) (a b : Operand) (xs ys : Array Value) (w0 : World), (eqGuard op 109 a b (.agg xs) (.agg ys)).run Try.prog w0 = .ok () w0 := fun op a b xs ys w0 => run_eqGuard_agg w0 op 109 a b xs ys (by kernel_rfl)
        cases hxy : caEq x y with
        | true =>
          rw [hxy, Bool.true_and] at Hst
          have hq := fun w0 => neq_ca x y w0
          rw [hxy, Bool.not_true] at hq
          clear hxy
          obtain ⟨x1, x2⟩ := x
          obtain ⟨y1, y2⟩ := y
          dsimp only at c0 e0 c1 e1 hq
          go_wp2_with fail
          go_region
          all_goals
            go_wp2_with fail
            go_roundw
            case rel => exact ⟨k + 1, r + 1, by omega, by go_num, by rw [Hwq.out]; rfl, He.out.trans Hst.out⟩
            case measure => simp [intOf]; omega
        | false =>
          rw [hxy, Bool.false_and] at Hst
          have hq := fun w0 => neq_ca x y w0
          rw [hxy, Bool.not_false] at hq
          clear hxy
          obtain ⟨x1, x2⟩ := x
          obtain ⟨y1, y2⟩ := y
          dsimp only at c0 e0 c1 e1 hq
          have Hfin := Lib.hid (He.out.trans Hst.out)
          go_wp2_with fail
          go_region
          all_goals
            go_wp2_with fail
            go_ret
            exact ⟨ret_bool Hfin.out.symm, r + 1, by rw [Hwq.out]; rfl⟩
      · obtain rfl : k = xs.length := by omega
        have Hfin := Lib.hid (He.out.trans (listEq_end Hnm.out))
        go_wp2
        go_ret
        exact ⟨ret_bool Hfin.out.symm, r, rfl⟩
  · have Hfin := Lib.hid (listEq_len (f := caEq) hnm)
    have hnmi : ¬ (xs.length : Int) = (ys.length : Int) := by omega
    go_enter Try.func78, Try.ntmps78
    go_wp2
    go_ret
    exact ⟨ret_bool Hfin.out.symm, 0, rfl⟩

set_option maxRecDepth 100000 in
set_option maxHeartbeats 4000000 in
/-- slices.Equal at int. -/
theorem equal_ints (S S' : Nat → Prop) (p q : Option Addr) (n m c d : Nat) (xs ys : List Int) (w : World) (hx : SliceS 1 IntU S w [.slice p n c] xs) (hy : SliceS 1 IntU S' w [.slice q m d] ys) :
    Calls Try.prog 36 #[.slice p n c, .slice q m d] w fun e w' => e = .returned (.bool (listEq intEq xs ys)) ∧ ∃ r, w' = w.drewN r := by
  have Hx := Lib.hid hx
  have Hy := Lib.hid hy
  obtain ⟨rfl, hlc, hcm⟩ := hx.len
  obtain ⟨rfl, hld, hdm⟩ := hy.len
  unfold maxLen at hcm hdm
  clear hx hy
  by_cases hnm : xs.length = ys.length
  · have Hnm := Lib.hid hnm
    rw [← hnm] at hld ⊢
    clear hnm
    go_enter Try.func36, Try.ntmps36
    go_wp2_with fail
    go_loopw [5, 13] (fun _ i wr => ∃ k r : Nat, k ≤ xs.length ∧ i = .int .i64 k ∧ wr = w.drewN r ∧ listEq intEq xs ys = listEq intEq (xs.drop k) (ys.drop k)) (fun _ i _ => xs.length - (intOf i).toNat)
    case atStart => exact ⟨0, 0, Nat.zero_le _, rfl, rfl, rfl⟩
    case round =>
      obtain ⟨k, r, hk, rfl, rfl, he⟩ := hrel
      have He := Lib.hid he
      clear he
      by_cases hlt : k < xs.length
      · have hlt' : k < ys.length := by rw [← Hnm.out]; exact hlt
        obtain ⟨b, o, cs, rfl, _, hbl, _, hc, hr⟩ := Hx.out.elem (by omega) k xs[k] (List.getElem?_eq_getElem hlt)
        obtain ⟨b', o', cs', rfl, _, hbl', _, hc', hr'⟩ := Hy.out.elem (by omega) k ys[k] (List.getElem?_eq_getElem hlt')
        unfold IntU at hr hr'
        subst hr hr'
        have c0 : (w.drewN r).cell? _ = _ := hc 0 _ rfl
        have e0 : (w.drewN r).cell? _ = _ := hc' 0 _ rfl
        rw [Nat.add_zero, Nat.mul_one] at c0 e0
        have Hst := Lib.hid (listEq_step (f := intEq) hlt hlt')
        clear hc hc' hbl hbl'
        generalize hX : xs[k] = x at *
        generalize hY : ys[k] = y at *
        clear hX hY hlt'
        obtain ⟨wq, hwq⟩ : ∃ wq, wq = w.drewN r := ⟨_, rfl⟩
        rw [← hwq] at c0 e0 ⊢
        have Hwq := Lib.hid hwq
        clear hwq
        have hlti : (k : Int) < (xs.length : Int) := by omega
        cases hxy : intEq x y with
        | true =>
          rw [hxy, Bool.true_and] at Hst
          obtain rfl : x = y := by simpa [intEq] using hxy
          clear hxy
          go_wp2_with fail
          go_region
          all_goals
            go_wp2_with fail
            go_roundw
            case rel => exact ⟨k + 1, r + 1, by omega, by go_num, by rw [Hwq.out]; rfl, He.out.trans Hst.out⟩
            case measure => simp [intOf]; omega
        | false =>
          rw [hxy, Bool.false_and] at Hst
          have hne : ¬ x = y := by simpa [intEq] using hxy
          clear hxy
          have Hfin := Lib.hid (He.out.trans Hst.out)
          go_wp2_with fail
          go_region
          all_goals
            go_wp2_with fail
            go_ret
            exact ⟨ret_bool Hfin.out.symm, r + 1, by rw [Hwq.out]; rfl⟩
      · obtain rfl : k = xs.length := by omega
        have Hfin := Lib.hid (He.out.trans (listEq_end Hnm.out))
        go_wp2
        go_ret
        exact ⟨ret_bool Hfin.out.symm, r, rfl⟩
  · have Hfin := Lib.hid (listEq_len (f := intEq) hnm)
    have hnmi : ¬ (xs.length : Int) = (ys.length : Int) := by omega
    go_enter Try.func36, Try.ntmps36
    go_wp2
    go_ret
    exact ⟨ret_bool Hfin.out.symm, 0, rfl⟩

set_option maxRecDepth 100000 in
set_option maxHeartbeats 4000000 in
/-- remudaref21.Ops. -/
theorem equal_refOps (S S' : Nat → Prop) (p q : Option Addr) (n m c d : Nat) (xs ys : List OpV) (w : World) (hx : SliceS 3 OpS S w [.slice p n c] xs) (hy : SliceS 3 OpS S' w [.slice q m d] ys) :
    Calls Try.prog 87 #[.slice p n c, .slice q m d] w fun e w' => e = .returned (.bool (listEq opEq xs ys)) ∧ ∃ r, w' = w.drewN r := by
  have Hx := Lib.hid hx
  have Hy := Lib.hid hy
  obtain ⟨rfl, hlc, hcm⟩ := hx.len
  obtain ⟨rfl, hld, hdm⟩ := hy.len
  unfold maxLen at hcm hdm
  clear hx hy
  by_cases hnm : xs.length = ys.length
  · have Hnm := Lib.hid hnm
    rw [← hnm] at hld ⊢
    clear hnm
    go_enter Try.func87, Try.ntmps87
    go_wp2_with fail
    go_loopw [5] (fun i wr => ∃ k r : Nat, k ≤ xs.length ∧ i = .int .i64 k ∧ wr = w.drewN r ∧ listEq opEq xs ys = listEq opEq (xs.drop k) (ys.drop k)) (fun i _ => xs.length - (intOf i).toNat)
    case atStart => exact ⟨0, 0, Nat.zero_le _, rfl, rfl, rfl⟩
    case round =>
      obtain ⟨k, r, hk, rfl, rfl, he⟩ := hrel
      have He := Lib.hid he
      clear he
      by_cases hlt : k < xs.length
      · have hlt' : k < ys.length := by rw [← Hnm.out]; exact hlt
        obtain ⟨b, o, cs, rfl, _, hbl, _, hc, hr⟩ := Hx.out.elem (by omega) k xs[k] (List.getElem?_eq_getElem hlt)
        obtain ⟨b', o', cs', rfl, _, hbl', _, hc', hr'⟩ := Hy.out.elem (by omega) k ys[k] (List.getElem?_eq_getElem hlt')
        unfold OpS at hr hr'
        subst hr hr'
        have c0 : (w.drewN r).cell? _ = _ := hc 0 _ rfl
        have e0 : (w.drewN r).cell? _ = _ := hc' 0 _ rfl
        have c1 : (w.drewN r).cell? _ = _ := hc 1 _ rfl
        have e1 : (w.drewN r).cell? _ = _ := hc' 1 _ rfl
        have c2 : (w.drewN r).cell? _ = _ := hc 2 _ rfl
        have e2 : (w.drewN r).cell? _ = _ := hc' 2 _ rfl
        rw [Nat.add_zero] at c0 e0
        have Hst := Lib.hid (listEq_step (f := opEq) hlt hlt')
        clear hc hc' hbl hbl'
        generalize hX : xs[k] = x at *
        generalize hY : ys[k] = y at *
        clear hX hY hlt'
        obtain ⟨wq, hwq⟩ : ∃ wq, wq = w.drewN r := ⟨_, rfl⟩
        rw [← hwq] at c0 e0 c1 e1 c2 e2 ⊢
        have Hwq := Lib.hid hwq
        clear hwq
        have hlti : (k : Int) < (xs.length : Int) := by omega
        have hgd : ∀ (op : BinOp) (a b : Operand) (xs ys : Array Value) (w0 : World), (eqGuard op 104 a b (.agg xs) (.agg ys)).run Try.prog w0 = .ok () w0 := fun op a b xs ys w0 => run_eqGuard_agg w0 op 104 a b xs ys (by kernel_rfl)
        cases hxy : opEq x y with
        | true =>
          rw [hxy, Bool.true_and] at Hst
          have hq := fun w0 => neq_op x y w0
          rw [hxy, Bool.not_true] at hq
          clear hxy
          obtain ⟨x1, x2, x3⟩ := x
          obtain ⟨y1, y2, y3⟩ := y
          dsimp only at c0 e0 c1 e1 c2 e2 hq
          go_wp2_with fail
          go_region
          all_goals
            go_wp2_with fail
            go_roundw
            case rel => exact ⟨k + 1, r + 1, by omega, by go_num, by rw [Hwq.out]; rfl, He.out.trans Hst.out⟩
            case measure => simp [intOf]; omega
        | false =>
          rw [hxy, Bool.false_and] at Hst
          have hq := fun w0 => neq_op x y w0
          rw [hxy, Bool.not_false] at hq
          clear hxy
          obtain ⟨x1, x2, x3⟩ := x
          obtain ⟨y1, y2, y3⟩ := y
          dsimp only at c0 e0 c1 e1 c2 e2 hq
          have Hfin := Lib.hid (He.out.trans Hst.out)
          go_wp2_with fail
          go_region
          all_goals
            go_wp2_with fail
            go_ret
            exact ⟨ret_bool Hfin.out.symm, r + 1, by rw [Hwq.out]; rfl⟩
      · obtain rfl : k = xs.length := by omega
        have Hfin := Lib.hid (He.out.trans (listEq_end Hnm.out))
        go_wp2
        go_ret
        exact ⟨ret_bool Hfin.out.symm, r, rfl⟩
  · have Hfin := Lib.hid (listEq_len (f := opEq) hnm)
    have hnmi : ¬ (xs.length : Int) = (ys.length : Int) := by omega
    go_enter Try.func87, Try.ntmps87
    go_wp2
    go_ret
    exact ⟨ret_bool Hfin.out.symm, 0, rfl⟩

end Go.Proofs.Ytpdkoijgemgaiaa
