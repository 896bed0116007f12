/-
  Messages of servers (layer 7): values compared.
-/
import Derived.Test.YthhebfknikfleaaGreatPackD
import Derived.Test.YthhebfknikfleaaGreatPackA
namespace Go.Proofs.YthhebfknikfleaaGreat
open Go.RowKit
set_option linter.unusedVariables false
set_option linter.unusedSimpArgs false

set_option maxRecDepth 100000 in
theorem balike_any (x y : CeV) (p q : Option Addr) (c d : Nat) (w : World) (hx : BytesIn w p x.bytes) (hy : BytesIn w q y.bytes) :
    Calls Tryz.prog 76 #[.agg #[.bool x.null, .slice p x.bytes.length c], .agg #[.bool y.null, .slice q y.bytes.length d]] w fun e w' => e = .returned (.bool (ceEq x y)) ∧ Below w.heap.size w w' := by
  have hbel : Below w.heap.size w ((w.alloc (.cells #[.bool x.null, .slice p x.bytes.length c] 83)).alloc (.cells #[.bool y.null, .slice q y.bytes.length d] 83)) := ((Below.refl _ _).alloc (Nat.le_refl _) _).alloc (by simp) _
  have Hbel := Lib.hid hbel
  have He := Lib.hid (equal_any p q x.bytes y.bytes c d _ (hx.below hbel) (hy.below hbel))
  have Hv : Hid (ceEq x y = ((x.null == y.null) && (x.bytes == y.bytes))) := Lib.hid rfl
  generalize ceEq x y = r at *
  obtain ⟨xn, xb⟩ := x
  obtain ⟨yn, yb⟩ := y
  dsimp only at *
  generalize (xb == yb) = eb at *
  clear hx hy hbel
  cases hn : (xn == yn) with
  | true =>
    rw [hn] at Hv
    go_enter Tryz.func76, Tryz.ntmps76
    go_wp2_with fail
    refine He.out.mono ?_
    rintro e w2 ⟨rfl, rfl⟩
    go_wp2_with fail
    go_ret
    exact ⟨ret_bool (by rw [Hv.out]; rfl), Hbel.out⟩
  | false =>
    rw [hn] at Hv
    go_enter Tryz.func76, Tryz.ntmps76
    go_wp2_with fail
    go_ret
    exact ⟨ret_bool (by rw [Hv.out]; rfl), Hbel.out⟩

set_option maxRecDepth 100000 in
set_option maxHeartbeats 4000000 in
theorem beqCells_any (S S' : Nat → Prop) (p q : Option Addr) (n m c d : Nat) (xs ys : List CeV) (w : World) (hx : SliceS 2 CeS S w [.slice p n c] xs) (hy : SliceS 2 CeS S' w [.slice q m d] ys) :
    Calls Tryz.prog 75 #[.slice p n c, .slice q m d, .func (.func 76) #[] #[]] w fun e w' => e = .returned (.bool (listEq ceEq xs ys)) ∧ Below w.heap.size w w' := by
  have Hx := Lib.hid hx
  have Hy := Lib.hid hy
  obtain ⟨rfl, hlc, hcm⟩ := hx.len
  obtain ⟨rfl, hld, hdm⟩ := hy.len
  unfold maxLen at hcm hdm
  clear hx hy
  by_cases hnm : xs.length = ys.length
  · have Hnm := Lib.hid hnm
    rw [← hnm] at hld ⊢
    clear hnm
    go_enter Tryz.func75, Tryz.ntmps75
    go_wp2_with fail
    go_loopw [17] (fun i wr => ∃ k : Nat, k ≤ xs.length ∧ i = .int .i64 k ∧ Below w.heap.size w wr ∧ listEq ceEq xs ys = listEq ceEq (xs.drop k) (ys.drop k)) (fun i _ => xs.length - (intOf i).toNat)
    case atStart => exact ⟨0, Nat.zero_le _, rfl, Below.refl _ _, rfl⟩
    case round =>
      obtain ⟨k, hk, rfl, hb, he⟩ := hrel
      have hsz := hb.size
      have He := Lib.hid he
      have Hb := Lib.hid hb
      clear he
      by_cases hlt : k < xs.length
      · have hlt' : k < ys.length := by rw [← Hnm.out]; exact hlt
        obtain ⟨b, o, px, dx, rfl, _, hbl, c0, c1, hqx⟩ := ce_at (Hx.out.below CeS.still hb) hlt
        obtain ⟨b', o', py, dy, rfl, _, hbl', e0, e1, hqy⟩ := ce_at (Hy.out.below CeS.still hb) hlt'
        have Hst := Lib.hid (listEq_step (f := ceEq) hlt hlt')
        have Hqx := Lib.hid hqx.parts.2.2.2
        have Hqy := Lib.hid hqy.parts.2.2.2
        clear hb hqx hqy
        generalize hX : xs[k] = x at *
        generalize hY : ys[k] = y at *
        clear hX hY hlt'
        have hlti : (k : Int) < (xs.length : Int) := by omega
        have hlti' : (k : Int) < (ys.length : Int) := by rw [← Hnm.out]; omega
        go_upto_region 6 with (fail)
        have hal1 : Below wr.heap.size wr (wr.alloc (.cells #[.bool x.null, .slice px x.bytes.length dx] 83)) := (Below.refl _ _).alloc (Nat.le_refl _) _
        have f0 : (wr.alloc (.cells #[.bool x.null, .slice px x.bytes.length dx] 83)).cell? ⟨b', o' + k * 2, none⟩ = _ := (hal1.cell (p := ⟨b', o' + k * 2, none⟩) hbl').trans e0
        have f1 : (wr.alloc (.cells #[.bool x.null, .slice px x.bytes.length dx] 83)).cell? ⟨b', o' + k * 2 + 1, none⟩ = _ := (hal1.cell (p := ⟨b', o' + k * 2 + 1, none⟩) hbl').trans e1
        have Hk1 := Lib.hid (Blk.new wr 83 #[.bool x.null, .slice px x.bytes.length dx])
        have hk1 := Hk1.out.lt
        have HB1 := Lib.hid (Hb.out.trans (hal1.mono hsz))
        have Hqx1 := Lib.hid (Hqx.out.below hal1)
        have Hqy1 := Lib.hid (Hqy.out.below hal1)
        clear hal1 c0 c1 e0 e1 hbl hbl' Hqx Hqy Hb
        generalize wr.alloc (.cells #[.bool x.null, .slice px x.bytes.length dx] 83) = wa at *
        generalize wr.heap.size = g1 at *
        go_upto_region 7 with (fail)
        have hal2 : Below wa.heap.size wa (wa.alloc (.cells #[.bool y.null, .slice py y.bytes.length dy] 83)) := (Below.refl _ _).alloc (Nat.le_refl _) _
        have Hk2 := Lib.hid (Blk.new wa 83 #[.bool y.null, .slice py y.bytes.length dy])
        have d1 := (Hk1.out.below hal2 hk1).cell
        have d2 := Hk2.out.cell
        have HB2 := Lib.hid (HB1.out.trans (hal2.mono HB1.out.size))
        have Hcl := Lib.hid (balike_any x y px py dx dy _ (Hqx1.out.below hal2) (Hqy1.out.below hal2))
        clear hal2 f0 f1 Hqx1 Hqy1
        generalize wa.alloc (.cells #[.bool y.null, .slice py y.bytes.length dy] 83) = wb at *
        generalize wa.heap.size = g2 at *
        go_wp2_with fail
        refine Hcl.out.mono ?_
        rintro e w3 ⟨rfl, hb3⟩
        have HB3 := Lib.hid (HB2.out.trans (hb3.mono HB2.out.size))
        clear hb3 d1 d2
        cases hxy : ceEq x y with
        | true =>
          rw [hxy, Bool.true_and] at Hst
          clear hxy
          go_wp2_with fail
          go_roundw
          case rel => exact ⟨k + 1, by omega, by go_num, HB3.out, He.out.trans Hst.out⟩
          case measure => simp [intOf]; omega
        | false =>
          rw [hxy, Bool.false_and] at Hst
          clear hxy
          have Hfin := Lib.hid (He.out.trans Hst.out)
          go_wp2_with fail
          go_ret
          exact ⟨ret_bool Hfin.out.symm, HB3.out⟩
      · obtain rfl : k = xs.length := by omega
        have Hfin := Lib.hid (He.out.trans (listEq_end Hnm.out))
        go_wp2
        go_ret
        exact ⟨ret_bool Hfin.out.symm, Hb.out⟩
  · have Hfin := Lib.hid (listEq_len (f := ceEq) hnm)
    have hnmi : ¬ (xs.length : Int) = (ys.length : Int) := by omega
    go_enter Tryz.func75, Tryz.ntmps75
    go_wp2
    go_ret
    exact ⟨ret_bool Hfin.out.symm, Below.refl _ _⟩



end Go.Proofs.YthhebfknikfleaaGreat
