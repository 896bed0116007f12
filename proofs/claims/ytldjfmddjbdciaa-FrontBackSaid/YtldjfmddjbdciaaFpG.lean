/-
  Messages of clients (layer 6): the walk of FrontDecodes.
-/
import Derived.Test.YtldjfmddjbdciaaFpF
namespace Go.Proofs.Ytldjfmddjbdciaa
open Go.RowKit
set_option linter.unusedVariables false
set_option linter.unusedSimpArgs false

/-- The message's block and bytes. -/
structure FdI (w0 w : World) (k : Int) (p : Option Addr) (l : List UInt8) (c : Nat) : Prop where
  m : Blk w w0.heap.size 47 #[.int .u8 k, .slice p l.length c]
  y : BytesIn w p l
  bel : Below w0.heap.size w0 w
/-- One message in two blocks. -/
structure Fd2 (w : World) (g h : Nat) (x : FoV) (a b : FoP) : Prop where
  b1 : Blk w g 44 (foCells x a)
  b2 : Blk w h 44 (foCells x b)
  l1 : FoL (fun _ => True) w x a
  l2 : FoL (fun _ => True) w x b
section
variable {w0 w w' : World} {x y : FoV} {a b : FoP} {g h : Nat} {k : Int} {l : List UInt8} {p q : Option Addr} {c d : Nat}
theorem FdI.step (H : FdI w0 w k p l c) (hb : Below w.heap.size w w') : FdI w0 w' k p l c := ⟨H.m.below hb H.m.lt, H.y.below hb, H.bel.trans (hb.mono H.bel.size)⟩
theorem Fd2.step (H : Fd2 w g h x a b) (hb : Below w.heap.size w w') : Fd2 w' g h x a b := ⟨H.b1.below hb H.b1.lt, H.b2.below hb H.b2.lt, H.l1.below hb, H.l2.below hb⟩
theorem Fd2.cells (H : Fd2 w g h x a b) : (∀ i, w.cell? ⟨g, i, none⟩ = (foCells x a)[i]?) ∧ (∀ i, w.cell? ⟨h, i, none⟩ = (foCells x b)[i]?) := ⟨H.b1.cell, H.b2.cell⟩
theorem FdI.start {w : World} (hy : BytesIn w p l) : FdI w (w.alloc (.cells #[.int .u8 k, .slice p l.length c] 47)) k p l c := by
  have hb : Below w.heap.size w (w.alloc (.cells #[.int .u8 k, .slice p l.length c] 47)) := (Below.refl _ _).alloc (Nat.le_refl _) _
  exact ⟨Blk.new _ _ _, hy.below hb, hb⟩
end

set_option maxRecDepth 100000 in
set_option maxHeartbeats 4000000 in
theorem frontDecodes_walk (k : Int) (h0 : 0 ≤ k) (h1 : k < 256) (p : Option Addr) (l : List UInt8) (c : Nat) (w : World) (hin : BytesIn w p l) :
    Calls Try.prog 8 #[.agg #[.int .u8 k, .slice p l.length c]] w fun e w' => e = .returned (.bool true) ∧ Below w.heap.size w w' := by
  have H0 : Hid (FdI w (w.alloc (.cells #[.int .u8 k, .slice p l.length c] 47)) k p l c) := Lib.hid (FdI.start hin)
  have Haw := Lib.hid (fun w0 => foAwake w0)
  have HC : Hid (∀ w1 : World, FdI w w1 k p l c → (∀ i, w1.cell? ⟨w.heap.size, i, none⟩ = (#[.int .u8 k, .slice p l.length c] : Array Value)[i]?)) := Lib.hid (fun w1 H => H.m.cell)
  have HE := Lib.hid (fun (hl : l.length ≤ 100000) (w0 : World) (H : FdI w w0 k p l c) => dec_any k h0 h1 p l c w0 hl H.y)
  have HR := Lib.hid (fun (hl : l.length ≤ 100000) (w0 : World) (H : FdI w w0 k p l c) => rdec_any k h0 h1 p l c w0 hl H.y)
  unfold DecR at HE HR
  generalize decF k l = dv at *
  obtain ⟨x, er⟩ := dv
  dsimp only at HE HR
  clear hin
  go_enter Try.func8, Try.ntmps8
  go_upto_region 1 with (fail)
  generalize w.alloc (.cells #[.int .u8 k, .slice p l.length c] 47) = w1 at *
  have c1 := HC.out w1 H0.out
  by_cases hbig : (2000 : Int) < (l.length : Int)
  · go_wp2_with (first | (go_at_call 25; refine (Haw.out _).mono ?_; rintro e wz ⟨rfl, hb⟩; have HZ := Lib.hid (H0.out.step hb); clear hb))
    go_ret
    exact ⟨rfl, HZ.out.bel⟩
  · have hl : l.length ≤ 100000 := by omega
    have HE1 := Lib.hid (HE.out hl w1 H0.out)
    have HR1 := Lib.hid (HR.out hl)
    clear hl HE HR
    go_wp2_with fail
    refine HE1.out.mono ?_
    rintro e w4 ⟨a, rfl, hf4, hb4⟩
    have hal : Below w4.heap.size w4 (w4.alloc (.cells (foCells x a) 44)) := (Below.refl _ _).alloc (Nat.le_refl _) _
    have H4 := Lib.hid ((H0.out.step hb4).step hal)
    have Hf4 := Lib.hid (hf4.below hal)
    have Hm4 : Hid (Blk (w4.alloc (.cells (foCells x a) 44)) w4.heap.size 44 (foCells x a)) := Lib.hid (Blk.new _ _ _)
    clear hf4 hb4 hal c1 HE1
    obtain ⟨apo, aco, apf, acf, apr, acr, app, acp⟩ := a
    have HDf : Hid (∀ (a b : FoP) (g h : Nat) (w1 : World), Fd2 w1 g h x a b → (∀ i, w1.cell? ⟨g, i, none⟩ = (foCells x a)[i]?) ∧ (∀ i, w1.cell? ⟨h, i, none⟩ = (foCells x b)[i]?)) := Lib.hid (fun a b g h w1 H => H.cells)
    have HS := Lib.hid (fun (a b : FoP) (g h : Nat) (w0 : World) (H : Fd2 w0 g h x a b) => rfoSame_any _ _ x x a b w0 H.l1 H.l2)
    rw [foEq_self] at HS
    have HM : Hid (∀ (a b : FoP) (g h : Nat) (w w' : World), Blk w g 44 (foCells x a) → FoL (fun _ => True) w x a → Blk w' h 44 (foCells x b) → FoL (fun _ => True) w' x b → Below w.heap.size w w' → Fd2 w' g h x a b) := Lib.hid (fun a b g h w w' b1 l1 b2 l2 hb => ⟨b1.below hb b1.lt, b2, l1.below hb, l2⟩)
    obtain ⟨xk, xw, xn, xp, xt, xo, xf, xr, xc, xm⟩ := x
    unfold foArg at *
    unfold foCells at HR1 Hm4 H4 Hf4 HDf HS HM ⊢
    dsimp only at *
    go_upto_region 4 with fail
    generalize w4.alloc (.cells #[.int .u8 xk, .int .u8 xw, .string xn, .string xp, .string xt, .slice apo xo.length aco, .slice apf xf.length acf, .slice apr xr.length acr, .slice app xc.length acp, .int .i64 xm] 44) = w5 at *
    generalize w4.heap.size = g4 at *
    have c5 := HC.out w5 H4.out
    have HR5 := Lib.hid (HR1.out w5 H4.out)
    go_wp2_with fail
    refine HR5.out.mono ?_
    rintro e w6 ⟨⟨bpo, bco, bpf, bcf, bpr, bcr, bpp, bcp⟩, rfl, hf6, hb6⟩
    try dsimp only at hf6 ⊢
    have hal : Below w6.heap.size w6 (w6.alloc (.cells #[.int .u8 xk, .int .u8 xw, .string xn, .string xp, .string xt, .slice bpo xo.length bco, .slice bpf xf.length bcf, .slice bpr xr.length bcr, .slice bpp xc.length bcp, .int .i64 xm] 44)) := (Below.refl _ _).alloc (Nat.le_refl _) _
    have hab := hb6.trans (hal.mono hb6.size)
    have H6 := Lib.hid (H4.out.step hab)
    have HD6 := Lib.hid (HM.out _ _ _ _ w5 (w6.alloc (.cells #[.int .u8 xk, .int .u8 xw, .string xn, .string xp, .string xt, .slice bpo xo.length bco, .slice bpf xf.length bcf, .slice bpr xr.length bcr, .slice bpp xc.length bcp, .int .i64 xm] 44)) Hm4.out Hf4.out.any (Blk.new _ _ _) (hf6.below hal).any hab)
    clear hf6 hb6 hal hab c5 HR5 Hm4 Hf4 HM
    go_upto_region 5 with fail
    try dsimp only at HD6
    generalize w6.alloc (.cells #[.int .u8 xk, .int .u8 xw, .string xn, .string xp, .string xt, .slice bpo xo.length bco, .slice bpf xf.length bcf, .slice bpr xr.length bcr, .slice bpp xc.length bcp, .int .i64 xm] 44) = w7 at *
    generalize w6.heap.size = g6 at *
    have hS1 := HDf.out _ _ _ _ w7 HD6.out
    have HSm := Lib.hid (HS.out _ _ _ _ _ HD6.out)
    obtain ⟨s1, s2⟩ := hS1
    go_wp2_with (first
        | (go_at_call 31; refine HSm.out.mono ?_; rintro e w9 ⟨rfl, hb⟩; have H9 := Lib.hid (H6.out.step hb); clear hb)
        | (go_at_call 25; refine (Haw.out _).mono ?_; rintro e wA ⟨rfl, hb⟩; have HA := Lib.hid (H9.out.step hb); clear hb))
    go_ret
    exact ⟨rfl, HA.out.bel⟩

end Go.Proofs.Ytldjfmddjbdciaa
