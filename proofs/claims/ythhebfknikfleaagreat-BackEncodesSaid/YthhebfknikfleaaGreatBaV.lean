/-
  Messages of servers (layer 7): the walk of BackEncodes.
-/
import Derived.Test.YthhebfknikfleaaGreatBaU
import Derived.Test.YthhebfknikfleaaGreatBaI
import Derived.Test.YthhebfknikfleaaGreatBaK
import Derived.Test.YthhebfknikfleaaGreatBaP
import Derived.Deep.RegionHeld3
namespace Go.Proofs.YthhebfknikfleaaGreat
open Go.RowKit
set_option linter.unusedVariables false
set_option linter.unusedSimpArgs false

/-- The bytes of both, in their blocks. -/
structure BeM (w : World) (g h : Nat) (t : Int) (B : List UInt8) (p : Option Addr) (c : Nat) (q : Option Addr) (d : Nat) : Prop where
  m1 : Blk w g 42 #[.int .u8 t, .slice p B.length c]
  m2 : Blk w h 42 #[.int .u8 t, .slice q B.length d]
  y1 : BytesIn w p B
  y2 : BytesIn w q B
section
variable {w0 w w' : World} {x y : BaV} {a b : BaP} {g h : Nat} {t : Int} {B : List UInt8} {p q : Option Addr} {c d : Nat}
theorem BeM.step (H : BeM w g h t B p c q d) (hb : Below w.heap.size w w') : BeM w' g h t B p c q d :=
  ⟨H.m1.below hb H.m1.lt, H.m2.below hb H.m2.lt, H.y1.below hb, H.y2.below hb⟩
theorem BeM.cells (H : BeM w g h t B p c q d) : (∀ i, w.cell? ⟨g, i, none⟩ = (#[.int .u8 t, .slice p B.length c] : Array Value)[i]?) ∧ (∀ i, w.cell? ⟨h, i, none⟩ = (#[.int .u8 t, .slice q B.length d] : Array Value)[i]?) := ⟨H.m1.cell, H.m2.cell⟩
theorem bel_drawB (w : World) : Below w.heap.size w (w.drewN 1) := ((Touch.refl (fun _ => False) w).drewN 1).below (Nat.le_refl _) (fun _ e => e.elim)
theorem bel_al (w : World) (o : Obj) : Below w.heap.size w (w.alloc o) := (Below.refl _ _).alloc (Nat.le_refl _) _
/-- Two messages in a new block. -/
theorem slice2Bb (w : World) (a b : List Value) (x y : BaV) (ha : a.length = 11) (hb : b.length = 11) (hx : BaS (fun _ => True) (w.alloc (.cells (a ++ b).toArray 39)) a x) (hy : BaS (fun _ => True) (w.alloc (.cells (a ++ b).toArray 39)) b y) :
    SliceS 11 BaS (fun _ => True) (w.alloc (.cells (a ++ b).toArray 39)) [.slice (some ⟨w.heap.size, 0, none⟩) 2 2] [x, y] := by
  refine ⟨_, _, [a, b], rfl, Nat.le_refl _, by simp [maxLen], fun j u hu => ⟨_, _, rfl, trivial, ?_⟩, ⟨ha, hx⟩, ⟨hb, hy⟩, trivial⟩
  rw [Nat.zero_add, World.cell?_alloc_new]
  simpa using hu
theorem slice2Bc (w : World) (a b : List Value) (o : Obj) (x y : BaV) (ha : a.length = 11) (hb : b.length = 11) (hx : BaS (fun _ => True) ((w.alloc o).alloc (.cells (a ++ b).toArray 39)) a x) (hy : BaS (fun _ => True) ((w.alloc o).alloc (.cells (a ++ b).toArray 39)) b y) :
    SliceS 11 BaS (fun _ => True) ((w.alloc o).alloc (.cells (a ++ b).toArray 39)) [.slice (some ⟨w.heap.size + 1, 0, none⟩) 2 2] [x, y] := by
  have h := slice2Bb (w.alloc o) a b x y ha hb hx hy
  rw [show (w.alloc o).heap.size = w.heap.size + 1 by simp] at h
  exact h
theorem eqB_sl {w : World} {p q : Option Addr} {c d : Nat} {l : List UInt8} (h : BytesIn w p l) (g : BytesIn w q l) :
    Calls Tryz.prog 12 #[.slice p l.length c, .slice q l.length d] w fun e w' => e = .returned (.bool true) ∧ w = w' := by
  have := equal_any p q l l c d w h g
  rw [beq_self_eq_true] at this
  exact this
end

set_option maxRecDepth 100000 in
set_option maxHeartbeats 8000000 in
theorem backEncodes_walk (x y : BaV) (a b : BaP) (w : World) (hx : BaL (fun k => k < w.heap.size) w x a) (hy : BaL (fun k => k < w.heap.size) w y b) (hfb : BaB x) (hfc : BaB y) :
    Calls Tryz.prog 5 #[baArg x a, baArg y b] w fun e w' => e = .returned (.bool true) ∧ Below w.heap.size w w' := by
  have H0 := Lib.hid (Ba2.start hx hy)
  have Haw := Lib.hid (fun w0 => baAwake_any w0)
  have HC : Hid (∀ w1 : World, Ba2 w w1 w.heap.size (w.heap.size + 1) x y a b → (∀ i, w1.cell? ⟨w.heap.size, i, none⟩ = (baCells x a)[i]?) ∧ (∀ i, w1.cell? ⟨w.heap.size + 1, i, none⟩ = (baCells y b)[i]?)) := Lib.hid (fun w1 H => ⟨H.b1.cell, H.b2.cell⟩)
  have HF := Lib.hid (fun (w0 : World) (H : Ba2 w w0 w.heap.size (w.heap.size + 1) x y a b) => fewB_any _ x a w0 H.l1)
  have HG := Lib.hid (fun (w0 : World) (H : Ba2 w w0 w.heap.size (w.heap.size + 1) x y a b) => fewB_any _ y b w0 H.l2)
  have HE := Lib.hid (fun (hf : FewB x) (w0 : World) (H : Ba2 w w0 w.heap.size (w.heap.size + 1) x y a b) => benc_any _ x a w0 H.l1 hfb hf.small)
  have HR := Lib.hid (fun (hf : FewB x) (w0 : World) (H : Ba2 w w0 w.heap.size (w.heap.size + 1) x y a b) => rbenc_any _ x a w0 H.l1 hfb hf.small)
  have HCk := Lib.hid (fun (w0 : World) (H : Ba2 w w0 w.heap.size (w.heap.size + 1) x y a b) => bcheck_any _ x a w0 H.l1 hfb)
  have HRk := Lib.hid (fun (hf : FewB x) (w0 : World) (H : Ba2 w w0 w.heap.size (w.heap.size + 1) x y a b) => rbcheck_any _ x a w0 H.l1 hfb (by have := hf.t; simp [maxLen]; omega) (by have := hf.n; simp [maxLen]; omega) (by have := hf.v; simp [maxLen]; omega))
  have HS := Lib.hid (fun (w0 : World) (H : Ba2 w w0 w.heap.size (w.heap.size + 1) x y a b) => bsame_any _ _ x y a b w0 H.l1 H.l2)
  have HT := Lib.hid (fun (w0 : World) (H : Ba2 w w0 w.heap.size (w.heap.size + 1) x y a b) => rbsame_any _ _ x y a b w0 H.l1 H.l2)
  have HY := Lib.hid (fun (hf : FewB x) (hg : FewB y) (w0 : World) (k : Nat) (H : SliceS 11 BaS (fun _ => True) w0 [.slice (some ⟨k, 0, none⟩) 2 2] [x, y]) => bbytes_any _ _ _ 2 [x, y] w0 H (by show 2 ≤ 1000; omega) (fun z hz => by rcases List.mem_cons.1 hz with rfl | hz; exact hf.short; rw [List.mem_singleton.1 hz]; exact hg.short))
  have HZ := Lib.hid (fun (hf : FewB x) (hg : FewB y) (w0 : World) (k : Nat) (H : SliceS 11 BaS (fun _ => True) w0 [.slice (some ⟨k, 0, none⟩) 2 2] [x, y]) => rbbytes_any _ _ _ 2 [x, y] w0 H (by show 2 ≤ 1000; omega) (fun z hz => by rcases List.mem_cons.1 hz with rfl | hz; exact hf.short; rw [List.mem_singleton.1 hz]; exact hg.short))
  have S2 := Lib.hid (fun (w0 : World) (H : Ba2 w w0 w.heap.size (w.heap.size + 1) x y a b) => slice2Bb w0 (baCells x a).toList (baCells y b).toList x y rfl rfl ⟨a, rfl, (H.l1.below (bel_al _ _)).any, hfb⟩ ⟨b, rfl, (H.l2.below (bel_al _ _)).any, hfc⟩)
  have T1 := Lib.hid (fun (w0 : World) (H : Ba2 w w0 w.heap.size (w.heap.size + 1) x y a b) => (slice2Bb w0 (baCells x a).toList (baCells y b).toList x y rfl rfl ⟨a, rfl, (H.l1.below (bel_al _ _)).any, hfb⟩ ⟨b, rfl, (H.l2.below (bel_al _ _)).any, hfc⟩).below BaS.still (bel_al _ (.cells ((baCells x a).toList ++ (baCells y b).toList).toArray 39)))
  have T2 := Lib.hid (fun (w0 : World) (H : Ba2 w w0 w.heap.size (w.heap.size + 1) x y a b) => slice2Bc w0 (baCells x a).toList (baCells y b).toList (.cells ((baCells x a).toList ++ (baCells y b).toList).toArray 39) x y rfl rfl ⟨a, rfl, ((H.l1.below (bel_al _ _)).below (bel_al _ _)).any, hfb⟩ ⟨b, rfl, ((H.l2.below (bel_al _ _)).below (bel_al _ _)).any, hfc⟩)
  have HD2 := Lib.hid (fun (w0 : World) (k : Nat) (w' : World) (H : SliceS 11 BaS (fun _ => True) w0 [.slice (some ⟨k, 0, none⟩) 2 2] [x, y]) (hb : Below w0.heap.size w0 w') => H.below BaS.still hb)
  unfold FewBR at HF HG
  unfold EncB at HE HR
  generalize checkB x = cv at *
  generalize baEq x y = sv at *
  generalize bytesB [x, y] = L2 at *
  generalize encB x = er at *
  obtain ⟨t, B, er⟩ := er
  dsimp only at HE HR
  generalize FewB x = fwx at *
  generalize FewB y = fwy at *
  obtain ⟨xk, xs, xt, xn, xv, xa, xb, xo, xc, xr, xf⟩ := x
  obtain ⟨apo, aco, apc, acc, apr, acr, apf, acf⟩ := a
  obtain ⟨yk, ys, yt, yn, yv, ya, yb, yo, yc, yr, yf⟩ := y
  obtain ⟨bpo, bco, bpc, bcc, bpr, bcr, bpf, bcf⟩ := b
  clear hx hy hfb hfc
  unfold baArg at *
  unfold baCells at HC HF HG HE HR HCk HRk HS HT H0 S2 T1 T2 ⊢
  dsimp only [List.cons_append, List.nil_append] at *
  have S2' : Hid (∀ (w0 : World), Ba2 w w0 w.heap.size (w.heap.size + 1) ⟨xk, xs, xt, xn, xv, xa, xb, xo, xc, xr, xf⟩ ⟨yk, ys, yt, yn, yv, ya, yb, yo, yc, yr, yf⟩ ⟨apo, aco, apc, acc, apr, acr, apf, acf⟩ ⟨bpo, bco, bpc, bcc, bpr, bcr, bpf, bcf⟩ → SliceS 11 BaS (fun _ => True) (w0.alloc (.cells #[.int .u8 xk, .int .u8 xs, .string xt, .string xn, .string xv, .int .i64 xa, .int .i64 xb, .slice apo xo.length aco, .slice apc xc.length acc, .slice apr xr.length acr, .slice apf xf.length acf, .int .u8 yk, .int .u8 ys, .string yt, .string yn, .string yv, .int .i64 ya, .int .i64 yb, .slice bpo yo.length bco, .slice bpc yc.length bcc, .slice bpr yr.length bcr, .slice bpf yf.length bcf] 39)) [.slice (some ⟨w0.heap.size, 0, none⟩) 2 2] [⟨xk, xs, xt, xn, xv, xa, xb, xo, xc, xr, xf⟩, ⟨yk, ys, yt, yn, yv, ya, yb, yo, yc, yr, yf⟩]) := S2
  have T1' : Hid (∀ (w0 : World), Ba2 w w0 w.heap.size (w.heap.size + 1) ⟨xk, xs, xt, xn, xv, xa, xb, xo, xc, xr, xf⟩ ⟨yk, ys, yt, yn, yv, ya, yb, yo, yc, yr, yf⟩ ⟨apo, aco, apc, acc, apr, acr, apf, acf⟩ ⟨bpo, bco, bpc, bcc, bpr, bcr, bpf, bcf⟩ → SliceS 11 BaS (fun _ => True) ((w0.alloc (.cells #[.int .u8 xk, .int .u8 xs, .string xt, .string xn, .string xv, .int .i64 xa, .int .i64 xb, .slice apo xo.length aco, .slice apc xc.length acc, .slice apr xr.length acr, .slice apf xf.length acf, .int .u8 yk, .int .u8 ys, .string yt, .string yn, .string yv, .int .i64 ya, .int .i64 yb, .slice bpo yo.length bco, .slice bpc yc.length bcc, .slice bpr yr.length bcr, .slice bpf yf.length bcf] 39)).alloc (.cells #[.int .u8 xk, .int .u8 xs, .string xt, .string xn, .string xv, .int .i64 xa, .int .i64 xb, .slice apo xo.length aco, .slice apc xc.length acc, .slice apr xr.length acr, .slice apf xf.length acf, .int .u8 yk, .int .u8 ys, .string yt, .string yn, .string yv, .int .i64 ya, .int .i64 yb, .slice bpo yo.length bco, .slice bpc yc.length bcc, .slice bpr yr.length bcr, .slice bpf yf.length bcf] 39)) [.slice (some ⟨w0.heap.size, 0, none⟩) 2 2] [⟨xk, xs, xt, xn, xv, xa, xb, xo, xc, xr, xf⟩, ⟨yk, ys, yt, yn, yv, ya, yb, yo, yc, yr, yf⟩]) := T1
  have T2' : Hid (∀ (w0 : World), Ba2 w w0 w.heap.size (w.heap.size + 1) ⟨xk, xs, xt, xn, xv, xa, xb, xo, xc, xr, xf⟩ ⟨yk, ys, yt, yn, yv, ya, yb, yo, yc, yr, yf⟩ ⟨apo, aco, apc, acc, apr, acr, apf, acf⟩ ⟨bpo, bco, bpc, bcc, bpr, bcr, bpf, bcf⟩ → SliceS 11 BaS (fun _ => True) ((w0.alloc (.cells #[.int .u8 xk, .int .u8 xs, .string xt, .string xn, .string xv, .int .i64 xa, .int .i64 xb, .slice apo xo.length aco, .slice apc xc.length acc, .slice apr xr.length acr, .slice apf xf.length acf, .int .u8 yk, .int .u8 ys, .string yt, .string yn, .string yv, .int .i64 ya, .int .i64 yb, .slice bpo yo.length bco, .slice bpc yc.length bcc, .slice bpr yr.length bcr, .slice bpf yf.length bcf] 39)).alloc (.cells #[.int .u8 xk, .int .u8 xs, .string xt, .string xn, .string xv, .int .i64 xa, .int .i64 xb, .slice apo xo.length aco, .slice apc xc.length acc, .slice apr xr.length acr, .slice apf xf.length acf, .int .u8 yk, .int .u8 ys, .string yt, .string yn, .string yv, .int .i64 ya, .int .i64 yb, .slice bpo yo.length bco, .slice bpc yc.length bcc, .slice bpr yr.length bcr, .slice bpf yf.length bcf] 39)) [.slice (some ⟨w0.heap.size + 1, 0, none⟩) 2 2] [⟨xk, xs, xt, xn, xv, xa, xb, xo, xc, xr, xf⟩, ⟨yk, ys, yt, yn, yv, ya, yb, yo, yc, yr, yf⟩]) := T2
  clear S2 T1 T2
  go_enter Tryz.func5, Tryz.ntmps5
  go_upto_region 1 with (fail)
  generalize (w.alloc (.cells #[.int .u8 xk, .int .u8 xs, .string xt, .string xn, .string xv, .int .i64 xa, .int .i64 xb, .slice apo xo.length aco, .slice apc xc.length acc, .slice apr xr.length acr, .slice apf xf.length acf] 39)).alloc (.cells #[.int .u8 yk, .int .u8 ys, .string yt, .string yn, .string yv, .int .i64 ya, .int .i64 yb, .slice bpo yo.length bco, .slice bpc yc.length bcc, .slice bpr yr.length bcr, .slice bpf yf.length bcf] 39) = w1 at *
  obtain ⟨c1, d1⟩ := HC.out w1 H0.out
  have HF1 := Lib.hid (HF.out w1 H0.out)
  go_wp2_with fail
  refine HF1.out.mono ?_
  rintro e w2 ⟨bx, rfl, hfx, hb⟩
  have H2 := Lib.hid (H0.out.step hb)
  obtain ⟨c2, d2⟩ := HC.out w2 H2.out
  clear hb c1 d1 HF1
  cases bx with
  | false =>
    go_wp2_with (first | (go_at_call 16; refine (Haw.out _).mono ?_; rintro e wz ⟨rfl, hb⟩; have HZ9 := Lib.hid (H2.out.step hb); clear hb))
    go_ret
    exact ⟨rfl, HZ9.out.bel⟩
  | true =>
    have Hfx := Lib.hid (hfx rfl)
    clear hfx
    have HG2 := Lib.hid (HG.out w2 H2.out)
    go_wp2_with fail
    refine HG2.out.mono ?_
    rintro e w3 ⟨bb, rfl, hfy, hb⟩
    have H3 := Lib.hid (H2.out.step hb)
    obtain ⟨c3, d3⟩ := HC.out w3 H3.out
    clear hb c2 d2 HG2
    cases bb with
    | false =>
      clear hfy
      go_wp2_with (first | (go_at_call 16; refine (Haw.out _).mono ?_; rintro e wz ⟨rfl, hb⟩; have HZ9 := Lib.hid (H3.out.step hb); clear hb))
      go_ret
      exact ⟨rfl, HZ9.out.bel⟩
    | true =>
      have Hfy := Lib.hid (hfy rfl)
      clear hfy
      have HE3 := Lib.hid (HE.out Hfx.out w3 H3.out)
      go_wp2_with fail
      refine HE3.out.mono ?_
      rintro e w4 ⟨v4, rfl, ho4, hb4⟩
      obtain ⟨p4, k4, hv4, -, -, q4, -⟩ := OwnBR.slice ho4
      subst hv4
      have hal : Below w4.heap.size w4 (w4.alloc (.cells #[.int .u8 t, .slice p4 B.length k4] 42)) := (Below.refl _ _).alloc (Nat.le_refl _) _
      have H4 := Lib.hid ((H3.out.step hb4).step hal)
      have Hq4 := Lib.hid (q4.below hal)
      have Hm4 : Hid (Blk (w4.alloc (.cells #[.int .u8 t, .slice p4 B.length k4] 42)) w4.heap.size 42 #[.int .u8 t, .slice p4 B.length k4]) := Lib.hid (Blk.new _ _ _)
      clear ho4 hb4 hal q4 c3 d3 HE3
      go_upto_region 4 with fail
      generalize w4.alloc (.cells #[.int .u8 t, .slice p4 B.length k4] 42) = w5 at *
      generalize w4.heap.size = g4 at *
      obtain ⟨c5, d5⟩ := HC.out w5 H4.out
      have HR5 := Lib.hid (HR.out Hfx.out w5 H4.out)
      go_wp2_with fail
      refine HR5.out.mono ?_
      rintro e w6 ⟨v6, rfl, ho6, hb6⟩
      obtain ⟨p6, k6, hv6, -, -, q6, -⟩ := OwnBR.slice ho6
      subst hv6
      have hal : Below w6.heap.size w6 (w6.alloc (.cells #[.int .u8 t, .slice p6 B.length k6] 42)) := (Below.refl _ _).alloc (Nat.le_refl _) _
      have H6 := Lib.hid ((H4.out.step hb6).step hal)
      have HM6 : Hid (BeM (w6.alloc (.cells #[.int .u8 t, .slice p6 B.length k6] 42)) g4 w6.heap.size t B p4 k4 p6 k6) := Lib.hid ⟨(Hm4.out.below hb6 Hm4.out.lt).below hal (Hm4.out.below hb6 Hm4.out.lt).lt, Blk.new _ _ _, (Hq4.out.below hb6).below hal, q6.below hal⟩
      clear ho6 hb6 hal q6 c5 d5 HR5 Hm4 Hq4
      go_upto_region 5 with fail
      generalize w6.alloc (.cells #[.int .u8 t, .slice p6 B.length k6] 42) = w7 at *
      generalize w6.heap.size = g6 at *
      have hS1 := HC.out w7 H6.out
      have hS2 := HM6.out.cells
      have H8 := Lib.hid (H6.out.step (bel_drawB w7))
      have HM8 := Lib.hid (HM6.out.step (bel_drawB w7))
      have HRk' := Lib.hid (HRk.out Hfx.out)
      have HY' := Lib.hid (HY.out Hfx.out Hfy.out)
      have HZ' := Lib.hid (HZ.out Hfx.out Hfy.out)
      have Heq := Lib.hid (eqB_sl (c := k4) (d := k6) HM8.out.y1 HM8.out.y2)
      clear HF HG HE HR H6 HM6 HRk HY HZ
      go_region_held3 (fun w' => ((∀ i, w'.cell? ⟨w.heap.size, i, none⟩ = (#[.int .u8 xk, .int .u8 xs, .string xt, .string xn, .string xv, .int .i64 xa, .int .i64 xb, .slice apo xo.length aco, .slice apc xc.length acc, .slice apr xr.length acr, .slice apf xf.length acf] : Array Value)[i]?) ∧ (∀ i, w'.cell? ⟨w.heap.size + 1, i, none⟩ = (#[.int .u8 yk, .int .u8 ys, .string yt, .string yn, .string yv, .int .i64 ya, .int .i64 yb, .slice bpo yo.length bco, .slice bpc yc.length bcc, .slice bpr yr.length bcr, .slice bpf yf.length bcf] : Array Value)[i]?)) ∧ ((∀ i, w'.cell? ⟨g4, i, none⟩ = (#[.int .u8 t, .slice p4 B.length k4] : Array Value)[i]?) ∧ (∀ i, w'.cell? ⟨g6, i, none⟩ = (#[.int .u8 t, .slice p6 B.length k6] : Array Value)[i]?)))
        (first | exact ⟨hS1, hS2⟩ | exact ⟨HC.out _ H9.out, HM9.out.cells⟩ | exact ⟨HC.out _ HA.out, HMA.out.cells⟩ | exact ⟨HC.out _ HB.out, HMB.out.cells⟩ | exact ⟨HC.out _ HD.out, HMD.out.cells⟩ | exact ⟨HC.out _ HK.out, HMK.out.cells⟩ | exact ⟨HC.out _ HO.out, HMO.out.cells⟩ | exact ⟨HC.out _ HP.out, HMP.out.cells⟩ | exact ⟨HC.out _ (HD.out.step (bel_al _ _)), (HMD.out.step (bel_al _ _)).cells⟩ | exact ⟨HC.out _ (HK.out.step (bel_al _ _)), (HMK.out.step (bel_al _ _)).cells⟩ | exact ⟨HC.out _ ((HD.out.step (bel_al _ _)).step (bel_al _ _)), ((HMD.out.step (bel_al _ _)).step (bel_al _ _)).cells⟩ | go_keep)
        (first
          | (go_at_call 12; refine Heq.out.mono ?_; rintro e w8 ⟨rfl, rfl⟩; clear Heq)
          | (go_at_call 19; refine (HCk.out _ H8.out).mono ?_; rintro e w9 ⟨rfl, hb⟩; have H9 := Lib.hid (H8.out.step hb); have HM9 := Lib.hid (HM8.out.step hb); clear hb)
          | (go_at_call 20; refine (HRk'.out _ H9.out).mono ?_; rintro e wA ⟨rfl, hb⟩; have HA := Lib.hid (H9.out.step hb); have HMA := Lib.hid (HM9.out.step hb); clear hb)
          | (go_at_call 21; refine (HS.out _ HA.out).mono ?_; rintro e wB ⟨rfl, hb⟩; have HB := Lib.hid (HA.out.step hb); have HMB := Lib.hid (HMA.out.step hb); clear hb)
          | (go_at_call 22; refine (HT.out _ HB.out).mono ?_; rintro e wD ⟨rfl, hb⟩; have HD := Lib.hid (HB.out.step hb); have HMD := Lib.hid (HMB.out.step hb); clear hb)
          | (go_at_call 23; with_reducible refine (HY'.out _ _ (S2'.out _ HD.out)).mono ?_; rintro e wK ⟨vK, rfl, ho, hb⟩; obtain ⟨pK, kK, hvK, -, -, qK, -⟩ := ho.slice; subst hvK; have HqK := Lib.hid qK; have HK := Lib.hid ((HD.out.step (bel_al _ _)).step hb); have HMK := Lib.hid ((HMD.out.step (bel_al _ _)).step hb); clear ho hb qK)
          | (go_at_call 23; with_reducible refine (HY'.out _ _ (T1'.out _ HD.out)).mono ?_; rintro e wK ⟨vK, rfl, ho, hb⟩; obtain ⟨pK, kK, hvK, -, -, qK, -⟩ := ho.slice; subst hvK; have HqK := Lib.hid qK; have HK := Lib.hid (((HD.out.step (bel_al _ _)).step (bel_al _ _)).step hb); have HMK := Lib.hid (((HMD.out.step (bel_al _ _)).step (bel_al _ _)).step hb); have HSK := Lib.hid (HD2.out _ _ _ (T2'.out _ HD.out) hb); clear ho hb qK)
          | (go_at_call 23; with_reducible refine (HY'.out _ _ (T2'.out _ HD.out)).mono ?_; rintro e wK ⟨vK, rfl, ho, hb⟩; obtain ⟨pK, kK, hvK, -, -, qK, -⟩ := ho.slice; subst hvK; have HqK := Lib.hid qK; have HK := Lib.hid (((HD.out.step (bel_al _ _)).step (bel_al _ _)).step hb); have HMK := Lib.hid (((HMD.out.step (bel_al _ _)).step (bel_al _ _)).step hb); have HSK := Lib.hid (HD2.out _ _ _ (T1'.out _ HD.out) hb); clear ho hb qK)
          | (go_at_call 24; with_reducible refine (HZ'.out _ _ (HSK.out)).mono ?_; rintro e wO ⟨vO, rfl, ho, hb⟩; obtain ⟨pO, kO, hvO, -, -, qO, -⟩ := ho.slice; subst hvO; have HqO := Lib.hid qO; have HO := Lib.hid (HK.out.step hb); have HMO := Lib.hid (HMK.out.step hb); have HqK' := Lib.hid (Hid.out HqK |>.below hb); have HeqO := Lib.hid (eqB_sl (c := kK) (d := kO) HqK'.out qO); clear ho hb qO)
          | (go_at_call 24; with_reducible refine (HZ'.out _ _ (S2'.out _ HK.out)).mono ?_; rintro e wO ⟨vO, rfl, ho, hb⟩; obtain ⟨pO, kO, hvO, -, -, qO, -⟩ := ho.slice; subst hvO; have HqO := Lib.hid qO; have HO := Lib.hid ((HK.out.step (bel_al _ _)).step hb); have HMO := Lib.hid ((HMK.out.step (bel_al _ _)).step hb); have HqK' := Lib.hid (Hid.out HqK |>.below (bel_al _ _) |>.below hb); have HeqO := Lib.hid (eqB_sl (c := kK) (d := kO) HqK'.out qO); clear ho hb qO)
          | (go_at_call 12; refine HeqO.out.mono ?_; rintro e wQ ⟨rfl, rfl⟩)
          | (go_at_call 16; refine (Haw.out _).mono ?_; rintro e wP ⟨rfl, hb⟩; have HP := Lib.hid (HO.out.step hb); have HMP := Lib.hid (HMO.out.step hb); clear hb))
      all_goals
        go_wp2
        go_ret
        exact ⟨rfl, HP.out.bel⟩

end Go.Proofs.YthhebfknikfleaaGreat
