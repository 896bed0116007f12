/-
  Messages of clients (layer 6): the walk of FrontEncodes.
-/
import Derived.Test.YtldjfmddjbdciaaFpE
import Derived.Test.YtldjfmddjbdciaaPackA
import Derived.Deep.RegionHeld3
namespace Go.Proofs.Ytldjfmddjbdciaa
open Go.RowKit
set_option linter.unusedVariables false
set_option linter.unusedSimpArgs false

/-- Two messages in their blocks. -/
structure FoW (w0 w : World) (x y : FoV) (a b : FoP) : Prop where
  b1 : Blk w w0.heap.size 44 (foCells x a)
  b2 : Blk w (w0.heap.size + 1) 44 (foCells y b)
  l1 : FoL (fun _ => True) w x a
  l2 : FoL (fun _ => True) w y b
  bel : Below w0.heap.size w0 w
/-- The bytes of both, in their blocks. -/
structure FeM (w : World) (g h : Nat) (t : Int) (B : List UInt8) (p : Option Addr) (c : Nat) (q : Option Addr) (d : Nat) : Prop where
  m1 : Blk w g 47 #[.int .u8 t, .slice p B.length c]
  m2 : Blk w h 47 #[.int .u8 t, .slice q B.length d]
  y1 : BytesIn w p B
  y2 : BytesIn w q B
section
variable {w0 w w' : World} {x y : FoV} {a b : FoP} {g h : Nat} {t : Int} {B : List UInt8} {p q : Option Addr} {c d : Nat}
theorem FoW.step (H : FoW w0 w x y a b) (hb : Below w.heap.size w w') : FoW w0 w' x y a b :=
  ⟨H.b1.below hb H.b1.lt, H.b2.below hb H.b2.lt, H.l1.below hb, H.l2.below hb, H.bel.trans (hb.mono H.bel.size)⟩
theorem FoW.cells (H : FoW w0 w x y a b) : (∀ i, w.cell? ⟨w0.heap.size, i, none⟩ = (foCells x a)[i]?) ∧ (∀ i, w.cell? ⟨w0.heap.size + 1, i, none⟩ = (foCells y b)[i]?) := ⟨H.b1.cell, H.b2.cell⟩
theorem FoW.start {S S' : Nat → Prop} {w : World} (h1 : FoL S w x a) (h2 : FoL S' w y b) : FoW w ((w.alloc (.cells (foCells x a) 44)).alloc (.cells (foCells y b) 44)) x y a b := by
  have e1 : (w.alloc (.cells (foCells x a) 44)).heap.size = w.heap.size + 1 := by simp
  have hb : Below w.heap.size w ((w.alloc (.cells (foCells x a) 44)).alloc (.cells (foCells y b) 44)) := ((Below.refl _ _).alloc (Nat.le_refl _) _).alloc (by simp) _
  refine ⟨(Blk.new _ _ _).alloc _, ?_, (h1.below hb).any, (h2.below hb).any, hb⟩
  have := Blk.new (w.alloc (.cells (foCells x a) 44)) 44 (foCells y b)
  rw [e1] at this
  exact this
theorem FeM.step (H : FeM w g h t B p c q d) (hb : Below w.heap.size w w') : FeM w' g h t B p c q d :=
  ⟨H.m1.below hb H.m1.lt, H.m2.below hb H.m2.lt, H.y1.below hb, H.y2.below hb⟩
theorem FeM.cells (H : FeM w g h t B p c q d) : (∀ i, w.cell? ⟨g, i, none⟩ = (#[.int .u8 t, .slice p B.length c] : Array Value)[i]?) ∧ (∀ i, w.cell? ⟨h, i, none⟩ = (#[.int .u8 t, .slice q B.length d] : Array Value)[i]?) := ⟨H.m1.cell, H.m2.cell⟩
theorem bel_draw1 (w : World) : Below w.heap.size w (w.drewN 1) := ((Touch.refl (fun _ => False) w).drewN 1).below (Nat.le_refl _) (fun _ e => e.elim)
end

set_option maxRecDepth 100000 in
set_option maxHeartbeats 4000000 in
theorem frontEncodes_walk (x y : FoV) (a b : FoP) (w : World) (hx : FoL (fun k => k < w.heap.size) w x a) (hy : FoL (fun k => k < w.heap.size) w y b) (hfb : FoB x) (hfc : FoB y) :
    Calls Try.prog 7 #[foArg x a, foArg y b] w fun e w' => e = .returned (.bool true) ∧ Below w.heap.size w w' := by
  have H0 := Lib.hid (FoW.start hx hy)
  have Haw := Lib.hid (fun w0 => foAwake w0)
  have HC : Hid (∀ w1 : World, FoW w w1 x y a b → (∀ i, w1.cell? ⟨w.heap.size, i, none⟩ = (foCells x a)[i]?) ∧ (∀ i, w1.cell? ⟨w.heap.size + 1, i, none⟩ = (foCells y b)[i]?)) := Lib.hid (fun w1 H => H.cells)
  have HF := Lib.hid (fun (w0 : World) (H : FoW w w0 x y a b) => fewF_any _ x a w0 H.l1)
  have HG := Lib.hid (fun (w0 : World) (H : FoW w w0 x y a b) => fewF_any _ y b w0 H.l2)
  have HE := Lib.hid (fun (hf : FewF x) (w0 : World) (H : FoW w w0 x y a b) => enc_any _ x a w0 H.l1 hfb hf.small)
  have HR := Lib.hid (fun (hf : FewF x) (w0 : World) (H : FoW w w0 x y a b) => renc_any _ x a w0 H.l1 hfb hf.small)
  have HCk := Lib.hid (fun (w0 : World) (H : FoW w w0 x y a b) => check_any _ x a w0 H.l1 hfb)
  have HRk := Lib.hid (fun (hf : FewF x) (w0 : World) (H : FoW w w0 x y a b) => rcheck_any _ x a w0 H.l1 hfb (by have := hf.n; simp [maxLen]; omega) (by have := hf.p; simp [maxLen]; omega) (by have := hf.t; simp [maxLen]; omega))
  have HS := Lib.hid (fun (w0 : World) (H : FoW w w0 x y a b) => foSame_any _ _ x y a b w0 H.l1 H.l2)
  have HT := Lib.hid (fun (w0 : World) (H : FoW w w0 x y a b) => rfoSame_any _ _ x y a b w0 H.l1 H.l2)
  have HK := Lib.hid (fun (w0 : World) => known_any x.kind hfb.1 hfb.2.1 w0)
  have HL := Lib.hid (fun (w0 : World) => rknown_any x.kind w0)
  unfold FewFR at HF HG
  unfold EncR at HE HR
  generalize checkF x = cv at *
  generalize foEq x y = sv at *
  generalize knownV x.kind = kv at *
  generalize encF x = er at *
  obtain ⟨t, B, er⟩ := er
  dsimp only at HE HR
  generalize FewF x = fwx at *
  generalize FewF y = fwy at *
  obtain ⟨xk, xw, xn, xp, xt, xo, xf, xr, xc, xm⟩ := x
  obtain ⟨apo, aco, apf, acf, apr, acr, app, acp⟩ := a
  obtain ⟨yk, yw, yn, yp, yt, yo, yf, yr, yc, ym⟩ := y
  obtain ⟨bpo, bco, bpf, bcf, bpr, bcr, bpp, bcp⟩ := b
  clear hx hy hfb hfc
  unfold foArg at *
  unfold foCells at HC HF HG HE HR HCk HRk HS HT H0 ⊢
  dsimp only at *
  go_enter Try.func7, Try.ntmps7
  go_upto_region 1 with (fail)
  generalize (w.alloc (.cells #[.int .u8 xk, .int .u8 xw, .string xn, .string xp, .string xt, .slice apo xo.length aco, .slice apf xf.length acf, .slice apr xr.length acr, .slice app xc.length acp, .int .i64 xm] 44)).alloc (.cells #[.int .u8 yk, .int .u8 yw, .string yn, .string yp, .string yt, .slice bpo yo.length bco, .slice bpf yf.length bcf, .slice bpr yr.length bcr, .slice bpp yc.length bcp, .int .i64 ym] 44) = w1 at *
  obtain ⟨c1, d1⟩ := HC.out w1 H0.out
  have HF1 := Lib.hid (HF.out w1 H0.out)
  go_wp2_with fail
  refine HF1.out.mono ?_
  rintro e w2 ⟨bx, rfl, hfx, hb⟩
  have H2 := Lib.hid (H0.out.step hb)
  obtain ⟨c2, d2⟩ := HC.out w2 H2.out
  clear hb c1 d1 HF1
  cases bx with
  | false =>
    go_wp2_with (first | (go_at_call 25; refine (Haw.out _).mono ?_; rintro e wz ⟨rfl, hb⟩; have HZ := Lib.hid (H2.out.step hb); clear hb))
    go_ret
    exact ⟨rfl, HZ.out.bel⟩
  | true =>
    have Hfx := Lib.hid (hfx rfl)
    clear hfx
    have HG2 := Lib.hid (HG.out w2 H2.out)
    go_wp2_with fail
    refine HG2.out.mono ?_
    rintro e w3 ⟨bb, rfl, hfy, hb⟩
    have H3 := Lib.hid (H2.out.step hb)
    obtain ⟨c3, d3⟩ := HC.out w3 H3.out
    clear hb hfy c2 d2 HG2
    cases bb with
    | false =>
      go_wp2_with (first | (go_at_call 25; refine (Haw.out _).mono ?_; rintro e wz ⟨rfl, hb⟩; have HZ := Lib.hid (H3.out.step hb); clear hb))
      go_ret
      exact ⟨rfl, HZ.out.bel⟩
    | true =>
      have HE3 := Lib.hid (HE.out Hfx.out w3 H3.out)
      go_wp2_with fail
      refine HE3.out.mono ?_
      rintro e w4 ⟨v4, rfl, ho4, hb4⟩
      obtain ⟨p4, k4, hv4, -, -, q4, -⟩ := OwnBR.slice ho4
      subst hv4
      have hal : Below w4.heap.size w4 (w4.alloc (.cells #[.int .u8 t, .slice p4 B.length k4] 47)) := (Below.refl _ _).alloc (Nat.le_refl _) _
      have H4 := Lib.hid ((H3.out.step hb4).step hal)
      have Hq4 := Lib.hid (q4.below hal)
      have Hm4 : Hid (Blk (w4.alloc (.cells #[.int .u8 t, .slice p4 B.length k4] 47)) w4.heap.size 47 #[.int .u8 t, .slice p4 B.length k4]) := Lib.hid (Blk.new _ _ _)
      clear ho4 hb4 hal q4 c3 d3 HE3
      go_upto_region 4 with fail
      generalize w4.alloc (.cells #[.int .u8 t, .slice p4 B.length k4] 47) = w5 at *
      generalize w4.heap.size = g4 at *
      obtain ⟨c5, d5⟩ := HC.out w5 H4.out
      have HR5 := Lib.hid (HR.out Hfx.out w5 H4.out)
      go_wp2_with fail
      refine HR5.out.mono ?_
      rintro e w6 ⟨v6, rfl, ho6, hb6⟩
      obtain ⟨p6, k6, hv6, -, -, q6, -⟩ := OwnBR.slice ho6
      subst hv6
      have hal : Below w6.heap.size w6 (w6.alloc (.cells #[.int .u8 t, .slice p6 B.length k6] 47)) := (Below.refl _ _).alloc (Nat.le_refl _) _
      have H6 := Lib.hid ((H4.out.step hb6).step hal)
      have HM6 : Hid (FeM (w6.alloc (.cells #[.int .u8 t, .slice p6 B.length k6] 47)) g4 w6.heap.size t B p4 k4 p6 k6) := Lib.hid ⟨(Hm4.out.below hb6 Hm4.out.lt).below hal (Hm4.out.below hb6 Hm4.out.lt).lt, Blk.new _ _ _, (Hq4.out.below hb6).below hal, q6.below hal⟩
      clear ho6 hb6 hal q6 c5 d5 HR5 Hm4 Hq4
      go_upto_region 5 with fail
      generalize w6.alloc (.cells #[.int .u8 t, .slice p6 B.length k6] 47) = w7 at *
      generalize w6.heap.size = g6 at *
      have hS1 := HC.out w7 H6.out
      have hS2 := HM6.out.cells
      have H8 := Lib.hid (H6.out.step (bel_draw1 w7))
      have HM8 := Lib.hid (HM6.out.step (bel_draw1 w7))
      have HRk' := Lib.hid (HRk.out Hfx.out)
      have Heq := Lib.hid (equal_any p4 p6 B B k4 k6 (w7.drewN 1) HM8.out.y1 HM8.out.y2)
      rw [beq_self_eq_true] at Heq
      clear HF HG HE HR H6 HM6 HRk
      go_region_held3 (fun w' => ((∀ i, w'.cell? ⟨w.heap.size, i, none⟩ = (#[.int .u8 xk, .int .u8 xw, .string xn, .string xp, .string xt, .slice apo xo.length aco, .slice apf xf.length acf, .slice apr xr.length acr, .slice app xc.length acp, .int .i64 xm] : Array Value)[i]?) ∧ (∀ i, w'.cell? ⟨w.heap.size + 1, i, none⟩ = (#[.int .u8 yk, .int .u8 yw, .string yn, .string yp, .string yt, .slice bpo yo.length bco, .slice bpf yf.length bcf, .slice bpr yr.length bcr, .slice bpp yc.length bcp, .int .i64 ym] : Array Value)[i]?)) ∧ ((∀ i, w'.cell? ⟨g4, i, none⟩ = (#[.int .u8 t, .slice p4 B.length k4] : Array Value)[i]?) ∧ (∀ i, w'.cell? ⟨g6, i, none⟩ = (#[.int .u8 t, .slice p6 B.length k6] : Array Value)[i]?)))
        (first | exact ⟨hS1, hS2⟩ | exact ⟨HC.out _ H9.out, HM9.out.cells⟩ | exact ⟨HC.out _ HA.out, HMA.out.cells⟩ | exact ⟨HC.out _ HB.out, HMB.out.cells⟩ | exact ⟨HC.out _ HD.out, HMD.out.cells⟩ | exact ⟨HC.out _ HH.out, HMH.out.cells⟩ | exact ⟨HC.out _ HJ.out, HMJ.out.cells⟩ | go_keep)
        (first
          | (go_at_call 20; refine Heq.out.mono ?_; rintro e w8 ⟨rfl, rfl⟩)
          | (go_at_call 28; refine (HCk.out _ H8.out).mono ?_; rintro e w9 ⟨rfl, hb⟩; have H9 := Lib.hid (H8.out.step hb); have HM9 := Lib.hid (HM8.out.step hb); clear hb)
          | (go_at_call 29; refine (HRk'.out _ H9.out).mono ?_; rintro e wA ⟨rfl, hb⟩; have HA := Lib.hid (H9.out.step hb); have HMA := Lib.hid (HM9.out.step hb); clear hb)
          | (go_at_call 30; refine (HS.out _ HA.out).mono ?_; rintro e wB ⟨rfl, hb⟩; have HB := Lib.hid (HA.out.step hb); have HMB := Lib.hid (HMA.out.step hb); clear hb)
          | (go_at_call 31; refine (HT.out _ HB.out).mono ?_; rintro e wD ⟨rfl, hb⟩; have HD := Lib.hid (HB.out.step hb); have HMD := Lib.hid (HMB.out.step hb); clear hb)
          | (go_at_call 32; refine (HK.out _).mono ?_; rintro e wH ⟨rfl, hb⟩; have HH := Lib.hid (HD.out.step hb); have HMH := Lib.hid (HMD.out.step hb); clear hb)
          | (go_at_call 33; refine (HL.out _).mono ?_; rintro e wI ⟨rfl, rfl⟩)
          | (go_at_call 25; refine (Haw.out _).mono ?_; rintro e wJ ⟨rfl, hb⟩; have HJ := Lib.hid (HH.out.step hb); have HMJ := Lib.hid (HMH.out.step hb); clear hb))
      go_wp2
      go_ret
      exact ⟨rfl, HJ.out.bel⟩

end Go.Proofs.Ytldjfmddjbdciaa
