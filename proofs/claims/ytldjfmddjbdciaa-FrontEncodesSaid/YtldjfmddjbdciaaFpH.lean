/-
  Messages of clients (layer 6): the walk of FrontBack.
-/
import Derived.Test.YtldjfmddjbdciaaFpG
namespace Go.Proofs.Ytldjfmddjbdciaa
open Go.RowKit
set_option linter.unusedVariables false
set_option linter.unusedSimpArgs false

/-- A message in its block, another one's bytes in theirs. -/
structure FbI (w0 w : World) (x : FoV) (a : FoP) (k : Int) (p : Option Addr) (l : List UInt8) (c : Nat) : Prop where
  b : Blk w w0.heap.size 44 (foCells x a)
  m : Blk w (w0.heap.size + 1) 47 #[.int .u8 k, .slice p l.length c]
  s : FoL (fun _ => True) w x a
  y : BytesIn w p l
  bel : Below w0.heap.size w0 w
section
variable {w0 w w' : World} {x : FoV} {a : FoP} {k : Int} {l : List UInt8} {p : Option Addr} {c : Nat}
theorem FbI.step (H : FbI w0 w x a k p l c) (hb : Below w.heap.size w w') : FbI w0 w' x a k p l c :=
  ⟨H.b.below hb H.b.lt, H.m.below hb H.m.lt, H.s.below hb, H.y.below hb, H.bel.trans (hb.mono H.bel.size)⟩
theorem FbI.cells (H : FbI w0 w x a k p l c) : (∀ i, w.cell? ⟨w0.heap.size, i, none⟩ = (foCells x a)[i]?) ∧ (∀ i, w.cell? ⟨w0.heap.size + 1, i, none⟩ = (#[.int .u8 k, .slice p l.length c] : Array Value)[i]?) := ⟨H.b.cell, H.m.cell⟩
theorem FbI.start {S : Nat → Prop} {w : World} (h : FoL S w x a) (hy : BytesIn w p l) : FbI w ((w.alloc (.cells (foCells x a) 44)).alloc (.cells #[.int .u8 k, .slice p l.length c] 47)) x a k p l c := by
  have e1 : (w.alloc (.cells (foCells x a) 44)).heap.size = w.heap.size + 1 := by simp
  have hb : Below w.heap.size w ((w.alloc (.cells (foCells x a) 44)).alloc (.cells #[.int .u8 k, .slice p l.length c] 47)) := ((Below.refl _ _).alloc (Nat.le_refl _) _).alloc (by simp) _
  refine ⟨(Blk.new _ _ _).alloc _, ?_, (h.below hb).any, hy.below hb, hb⟩
  have := Blk.new (w.alloc (.cells (foCells x a) 44)) 47 #[.int .u8 k, .slice p l.length c]
  rw [e1] at this
  exact this
end

set_option maxRecDepth 100000 in
set_option maxHeartbeats 4000000 in
theorem frontBack_walk (x : FoV) (a : FoP) (k : Int) (h0 : 0 ≤ k) (h1 : k < 256) (p : Option Addr) (l : List UInt8) (c : Nat) (w : World) (hx : FoL (fun k => k < w.heap.size) w x a) (hfb : FoB x) (hin : BytesIn w p l) :
    Calls Try.prog 9 #[foArg x a, .agg #[.int .u8 k, .slice p l.length c]] w fun e w' => e = .returned (.bool true) ∧ Below w.heap.size w w' := by
  have H0 : Hid (FbI w ((w.alloc (.cells (foCells x a) 44)).alloc (.cells #[.int .u8 k, .slice p l.length c] 47)) x a k p l c) := Lib.hid (FbI.start hx hin)
  have Haw := Lib.hid (fun w0 => foAwake w0)
  have HC : Hid (∀ w1 : World, FbI w w1 x a k p l c → (∀ i, w1.cell? ⟨w.heap.size, i, none⟩ = (foCells x a)[i]?) ∧ (∀ i, w1.cell? ⟨w.heap.size + 1, i, none⟩ = (#[.int .u8 k, .slice p l.length c] : Array Value)[i]?)) := Lib.hid (fun w1 H => H.cells)
  have HF := Lib.hid (fun (w0 : World) (H : FbI w w0 x a k p l c) => fewF_any _ x a w0 H.s)
  have HE := Lib.hid (fun (hf : FewF x) (w0 : World) (H : FbI w w0 x a k p l c) => enc_any _ x a w0 H.s hfb hf.small)
  have HD := Lib.hid (fun (hl : l.length ≤ 2000) (w0 : World) (H : FbI w w0 x a k p l c) => dec_any k h0 h1 p l c w0 (by omega) H.y)
  have Hdp := Lib.hid (fun hl => dec_parts k l hl)
  have HG := Lib.hid (fun (hf : FewF x) (hck : checkF x = 0) (q : Option Addr) (d : Nat) (w0 : World) hb => dec_any x.kind hfb.1 hfb.2.1 q (bodyF x) d w0 (body_few hf hfb hck) hb)
  have HS := Lib.hid (fun (w0 : World) (b : FoP) (H : FbI w w0 x a k p l c) (S : Nat → Prop) h2 => foSame_any _ S x x a b w0 H.s h2)
  rw [foEq_self] at HS
  have Hev : Hid (encF x = if checkF x = 0 then (x.kind, bodyF x, 0) else (0, [], checkF x)) := Lib.hid rfl
  have Hde : Hid (checkF x = 0 → decF x.kind (bodyF x) = (x, 0)) := Lib.hid (fun h => dec_enc hfb h)
  unfold FewFR at HF
  unfold EncR at HE
  unfold DecR at HD HG
  rw [Hev.out] at HE
  generalize FewF x = fwx at *
  generalize bodyF x = B at *
  generalize checkF x = ck at *
  clear hx hfb hin Hev
  generalize hdv : decF k l = dv at *
  have HdvX := Lib.hid hdv
  clear hdv
  obtain ⟨gv, er⟩ := dv
  dsimp only at HD Hdp
  obtain ⟨xk, xw, xn, xp, xt, xo, xf, xr, xc, xm⟩ := x
  obtain ⟨apo, aco, apf, acf, apr, acr, app, acp⟩ := a
  dsimp only at *
  unfold foArg at HF HE HS HG ⊢
  unfold foCells at HC HF HE HS H0 HG ⊢
  dsimp only at *
  go_enter Try.func9, Try.ntmps9
  go_upto_region 1 with (fail)
  generalize (w.alloc (.cells #[.int .u8 xk, .int .u8 xw, .string xn, .string xp, .string xt, .slice apo xo.length aco, .slice apf xf.length acf, .slice apr xr.length acr, .slice app xc.length acp, .int .i64 xm] 44)).alloc (.cells #[.int .u8 k, .slice p l.length c] 47) = w1 at *
  obtain ⟨c1, d1⟩ := HC.out w1 H0.out
  have HF1 := Lib.hid (HF.out w1 H0.out)
  go_wp2_with fail
  refine HF1.out.mono ?_
  rintro e w2 ⟨bx, rfl, hfx, hb⟩
  have H2 := Lib.hid (H0.out.step hb)
  obtain ⟨c2, d2⟩ := HC.out w2 H2.out
  clear hb c1 d1 HF1 HF H0
  cases bx with
  | false =>
    go_wp2_with (first | (go_at_call 25; refine (Haw.out _).mono ?_; rintro e wz ⟨rfl, hb⟩; have HZ := Lib.hid (H2.out.step hb); clear hb))
    go_ret
    exact ⟨rfl, HZ.out.bel⟩
  | true =>
    have Hfx := Lib.hid (hfx rfl)
    clear hfx
    by_cases hbig : (2000 : Int) < (l.length : Int)
    · go_wp2_with (first | (go_at_call 25; refine (Haw.out _).mono ?_; rintro e wz ⟨rfl, hb⟩; have HZ := Lib.hid (H2.out.step hb); clear hb))
      go_ret
      exact ⟨rfl, HZ.out.bel⟩
    · have hl : l.length ≤ 2000 := by omega
      have HD' := Lib.hid (HD.out hl)
      have Hdp' := Lib.hid (Hdp.out hl)
      clear HD Hdp hl
      have HD := HD'
      have Hdp := Hdp'
      clear HD' Hdp'
      have HE2 := Lib.hid (HE.out Hfx.out w2 H2.out)
      by_cases hck : ck = 0
      · subst hck
        have HG' := Lib.hid (HG.out Hfx.out rfl)
        rw [Hde.out rfl] at HG'
        rw [if_pos rfl] at HE2
        clear HE HG Hde
        dsimp only at HG' HE2
        go_wp2_with fail
        refine HE2.out.mono ?_
        rintro e w3 ⟨v3, rfl, ho3, hb3⟩
        obtain ⟨p3, k3, hv3, -, -, q3, -⟩ := OwnBR.slice ho3
        subst hv3
        have hal : Below w3.heap.size w3 (w3.alloc (.cells #[.int .u8 xk, .slice p3 B.length k3] 47)) := (Below.refl _ _).alloc (Nat.le_refl _) _
        have H3 := Lib.hid ((H2.out.step hb3).step hal)
        have HG3 := Lib.hid (HG'.out p3 k3 _ (q3.below hal))
        have c3 := (Blk.new w3 47 #[.int .u8 xk, .slice p3 B.length k3]).cell
        clear ho3 hb3 q3 hal HE2 HG' c2 d2 H2
        go_upto_region 5 with fail
        generalize w3.alloc (.cells #[.int .u8 xk, .slice p3 B.length k3] 47) = w4 at *
        generalize w3.heap.size = g4 at *
        go_wp2_with fail
        refine HG3.out.mono ?_
        rintro e w5 ⟨⟨bpo, bco, bpf, bcf, bpr, bcr, bpp, bcp⟩, rfl, hf5, hb5⟩
        try dsimp only at hf5 ⊢
        have hal : Below w5.heap.size w5 (w5.alloc (.cells #[.int .u8 xk, .int .u8 xw, .string xn, .string xp, .string xt, .slice bpo xo.length bco, .slice bpf xf.length bcf, .slice bpr xr.length bcr, .slice bpp xc.length bcp, .int .i64 xm] 44)) := (Below.refl _ _).alloc (Nat.le_refl _) _
        have H5 := Lib.hid ((H3.out.step hb5).step hal)
        have HS5 := Lib.hid (HS.out _ _ H5.out _ (hf5.below hal))
        have d5 := (Blk.new w5 44 #[.int .u8 xk, .int .u8 xw, .string xn, .string xp, .string xt, .slice bpo xo.length bco, .slice bpf xf.length bcf, .slice bpr xr.length bcr, .slice bpp xc.length bcp, .int .i64 xm]).cell
        dsimp only at HS5
        clear hf5 hb5 hal HG3 c3 H3
        go_upto_region 6 with fail
        generalize w5.alloc (.cells #[.int .u8 xk, .int .u8 xw, .string xn, .string xp, .string xt, .slice bpo xo.length bco, .slice bpf xf.length bcf, .slice bpr xr.length bcr, .slice bpp xc.length bcp, .int .i64 xm] 44) = w6 at *
        generalize w5.heap.size = g6 at *
        obtain ⟨c6, -⟩ := HC.out w6 H5.out
        go_upto_region 8 with (first | (go_at_call 30; refine HS5.out.mono ?_; rintro e wB ⟨rfl, hb⟩; have HB := Lib.hid (H5.out.step hb); clear hb c6 d5 HS5 H5))
        obtain ⟨c8, d8⟩ := HC.out wB HB.out
        have HD8 := Lib.hid (HD.out wB HB.out)
        rcases Hdp.out with ⟨he0, hev, hgb, hgs⟩ | ⟨he0, hz0⟩
        · have Hen := Lib.hid (fun (S : Nat → Prop) (a : FoP) (w0 : World) hs => enc_any S gv a w0 hs hgb hgs)
          unfold EncR at Hen
          rw [hev] at Hen
          dsimp only at Hen
          subst he0
          clear hev hgb hgs HD Hdp
          obtain ⟨yk, yw, yn, yp, yt, yo, yf, yr, yc, ym⟩ := gv
          unfold foArg foCells at Hen HD8
          dsimp only at Hen HD8
          go_wp2_with fail
          refine HD8.out.mono ?_
          rintro e w9 ⟨⟨bpo, bco, bpf, bcf, bpr, bcr, bpp, bcp⟩, rfl, hf9, hb9⟩
          try dsimp only at hf9 ⊢
          have hal : Below w9.heap.size w9 (w9.alloc (.cells #[.int .u8 yk, .int .u8 yw, .string yn, .string yp, .string yt, .slice bpo yo.length bco, .slice bpf yf.length bcf, .slice bpr yr.length bcr, .slice bpp yc.length bcp, .int .i64 ym] 44)) := (Below.refl _ _).alloc (Nat.le_refl _) _
          have H9 := Lib.hid ((HB.out.step hb9).step hal)
          have Hen9 := Lib.hid (Hen.out _ _ _ (hf9.below hal))
          have cy := (Blk.new w9 44 #[.int .u8 yk, .int .u8 yw, .string yn, .string yp, .string yt, .slice bpo yo.length bco, .slice bpf yf.length bcf, .slice bpr yr.length bcr, .slice bpp yc.length bcp, .int .i64 ym]).cell
          dsimp only at Hen9
          clear hf9 hb9 hal HD8 Hen c8 d8 HB
          go_upto_region 11 with fail
          generalize w9.alloc (.cells #[.int .u8 yk, .int .u8 yw, .string yn, .string yp, .string yt, .slice bpo yo.length bco, .slice bpf yf.length bcf, .slice bpr yr.length bcr, .slice bpp yc.length bcp, .int .i64 ym] 44) = wa at *
          generalize w9.heap.size = ga at *
          go_wp2_with fail
          refine Hen9.out.mono ?_
          rintro e wb ⟨vb, rfl, hob, hbb⟩
          obtain ⟨pb, cb, hvb, -, -, qb, -⟩ := OwnBR.slice hob
          subst hvb
          have hal : Below wb.heap.size wb (wb.alloc (.cells #[.int .u8 k, .slice pb l.length cb] 47)) := (Below.refl _ _).alloc (Nat.le_refl _) _
          have Hb := Lib.hid ((H9.out.step hbb).step hal)
          have Hqb := Lib.hid (qb.below hal)
          have HMb : Hid (Blk (wb.alloc (.cells #[.int .u8 k, .slice pb l.length cb] 47)) wb.heap.size 47 #[.int .u8 k, .slice pb l.length cb]) := Lib.hid (Blk.new _ _ _)
          clear hob hbb qb hal Hen9 cy H9
          go_upto_region 12 with fail
          generalize wb.alloc (.cells #[.int .u8 k, .slice pb l.length cb] 47) = wd at *
          generalize wb.heap.size = gd at *
          obtain ⟨ce, de⟩ := HC.out wd Hb.out
          have cm := HMb.out.cell
          have Heq := Lib.hid (equal_any pb p l l cb c wd Hqb.out Hb.out.y)
          rw [beq_self_eq_true] at Heq
          go_wp2_with (first
            | (go_at_call 20; refine Heq.out.mono ?_; rintro e we ⟨rfl, rfl⟩)
            | (go_at_call 25; refine (Haw.out _).mono ?_; rintro e wz ⟨rfl, hb⟩; have HZ := Lib.hid (Hb.out.step hb); clear hb))
          go_ret
          exact ⟨rfl, HZ.out.bel⟩
        · subst hz0
          have HSz := Lib.hid (fun (S : Nat → Prop) (b : FoP) (w0 : World) h1 => foSame_any S (fun _ => False) (foZero 0) (foZero 0) b foNil w0 h1 (FoL.zero _ _ 0))
          rw [foEq_self] at HSz
          have hei : (er == 0) = false := by simpa using he0
          clear HD Hdp
          unfold foArg foCells foZero at HSz HD8
          unfold foNil at HSz
          dsimp only [List.length_nil] at HSz HD8
          go_wp2_with fail
          refine HD8.out.mono ?_
          rintro e w9 ⟨⟨zpo, zco, zpf, zcf, zpr, zcr, zpp, zcp⟩, rfl, hf9, hb9⟩
          try dsimp only at hf9 ⊢
          have hal : Below w9.heap.size w9 (w9.alloc (.cells #[.int .u8 0, .int .u8 0, .string ⟨#[]⟩, .string ⟨#[]⟩, .string ⟨#[]⟩, .slice zpo 0 zco, .slice zpf 0 zcf, .slice zpr 0 zcr, .slice zpp 0 zcp, .int .i64 0] 44)) := (Below.refl _ _).alloc (Nat.le_refl _) _
          have H9 := Lib.hid ((HB.out.step hb9).step hal)
          have HSz9 := Lib.hid (HSz.out _ _ _ (hf9.below hal))
          have cy := (Blk.new w9 44 #[.int .u8 0, .int .u8 0, .string ⟨#[]⟩, .string ⟨#[]⟩, .string ⟨#[]⟩, .slice zpo 0 zco, .slice zpf 0 zcf, .slice zpr 0 zcr, .slice zpp 0 zcp, .int .i64 0]).cell
          dsimp only at HSz9
          clear hf9 hb9 hal HD8 HSz c8 d8 HB
          go_upto_region 10 with fail
          generalize w9.alloc (.cells #[.int .u8 0, .int .u8 0, .string ⟨#[]⟩, .string ⟨#[]⟩, .string ⟨#[]⟩, .slice zpo 0 zco, .slice zpf 0 zcf, .slice zpr 0 zcr, .slice zpp 0 zcp, .int .i64 0] 44) = wa at *
          generalize w9.heap.size = ga at *
          go_wp2_with (first
            | (go_at_call 30; refine HSz9.out.mono ?_; rintro e wb ⟨rfl, hb⟩; have Hb := Lib.hid (H9.out.step hb); clear hb)
            | (go_at_call 25; refine (Haw.out _).mono ?_; rintro e wz ⟨rfl, hb⟩; have HZ := Lib.hid (Hb.out.step hb); clear hb))
          go_ret
          exact ⟨rfl, HZ.out.bel⟩
      · rw [if_neg hck] at HE2
        clear HE HG Hde
        dsimp only at HE2
        have hci : (ck == 0) = false := by simpa using hck
        go_upto_region 4 with (first | (go_at_call 26; refine HE2.out.mono ?_; rintro e w3 ⟨v3, rfl, ho3, hb3⟩; obtain ⟨p3, k3, hv3, -, -, q3, -⟩ := OwnBR.slice ho3; subst hv3; have H3 := Lib.hid (H2.out.step hb3); clear ho3 hb3 q3 c2 d2 H2 HE2))
        have hal : Below w3.heap.size w3 (w3.alloc (.cells #[.int .u8 0, .slice p3 ([] : List UInt8).length k3] 47)) := (Below.refl _ _).alloc (Nat.le_refl _) _
        have HB := Lib.hid (H3.out.step hal)
        simp only [List.length_nil] at HB ⊢
        clear hal H3
        generalize w3.alloc (.cells #[.int .u8 0, .slice p3 0 k3] 47) = wB at *
        go_upto_region 8 with fail
        obtain ⟨c8, d8⟩ := HC.out wB HB.out
        have HD8 := Lib.hid (HD.out wB HB.out)
        rcases Hdp.out with ⟨he0, hev, hgb, hgs⟩ | ⟨he0, hz0⟩
        · have Hen := Lib.hid (fun (S : Nat → Prop) (a : FoP) (w0 : World) hs => enc_any S gv a w0 hs hgb hgs)
          unfold EncR at Hen
          rw [hev] at Hen
          dsimp only at Hen
          subst he0
          clear hev hgb hgs HD Hdp
          obtain ⟨yk, yw, yn, yp, yt, yo, yf, yr, yc, ym⟩ := gv
          unfold foArg foCells at Hen HD8
          dsimp only at Hen HD8
          go_wp2_with fail
          refine HD8.out.mono ?_
          rintro e w9 ⟨⟨bpo, bco, bpf, bcf, bpr, bcr, bpp, bcp⟩, rfl, hf9, hb9⟩
          try dsimp only at hf9 ⊢
          have hal : Below w9.heap.size w9 (w9.alloc (.cells #[.int .u8 yk, .int .u8 yw, .string yn, .string yp, .string yt, .slice bpo yo.length bco, .slice bpf yf.length bcf, .slice bpr yr.length bcr, .slice bpp yc.length bcp, .int .i64 ym] 44)) := (Below.refl _ _).alloc (Nat.le_refl _) _
          have H9 := Lib.hid ((HB.out.step hb9).step hal)
          have Hen9 := Lib.hid (Hen.out _ _ _ (hf9.below hal))
          have cy := (Blk.new w9 44 #[.int .u8 yk, .int .u8 yw, .string yn, .string yp, .string yt, .slice bpo yo.length bco, .slice bpf yf.length bcf, .slice bpr yr.length bcr, .slice bpp yc.length bcp, .int .i64 ym]).cell
          dsimp only at Hen9
          clear hf9 hb9 hal HD8 Hen c8 d8 HB
          go_upto_region 11 with fail
          generalize w9.alloc (.cells #[.int .u8 yk, .int .u8 yw, .string yn, .string yp, .string yt, .slice bpo yo.length bco, .slice bpf yf.length bcf, .slice bpr yr.length bcr, .slice bpp yc.length bcp, .int .i64 ym] 44) = wa at *
          generalize w9.heap.size = ga at *
          go_wp2_with fail
          refine Hen9.out.mono ?_
          rintro e wb ⟨vb, rfl, hob, hbb⟩
          obtain ⟨pb, cb, hvb, -, -, qb, -⟩ := OwnBR.slice hob
          subst hvb
          have hal : Below wb.heap.size wb (wb.alloc (.cells #[.int .u8 k, .slice pb l.length cb] 47)) := (Below.refl _ _).alloc (Nat.le_refl _) _
          have Hb := Lib.hid ((H9.out.step hbb).step hal)
          have Hqb := Lib.hid (qb.below hal)
          have HMb : Hid (Blk (wb.alloc (.cells #[.int .u8 k, .slice pb l.length cb] 47)) wb.heap.size 47 #[.int .u8 k, .slice pb l.length cb]) := Lib.hid (Blk.new _ _ _)
          clear hob hbb qb hal Hen9 cy H9
          go_upto_region 12 with fail
          generalize wb.alloc (.cells #[.int .u8 k, .slice pb l.length cb] 47) = wd at *
          generalize wb.heap.size = gd at *
          obtain ⟨ce, de⟩ := HC.out wd Hb.out
          have cm := HMb.out.cell
          have Heq := Lib.hid (equal_any pb p l l cb c wd Hqb.out Hb.out.y)
          rw [beq_self_eq_true] at Heq
          go_wp2_with (first
            | (go_at_call 20; refine Heq.out.mono ?_; rintro e we ⟨rfl, rfl⟩)
            | (go_at_call 25; refine (Haw.out _).mono ?_; rintro e wz ⟨rfl, hb⟩; have HZ := Lib.hid (Hb.out.step hb); clear hb))
          go_ret
          exact ⟨rfl, HZ.out.bel⟩
        · subst hz0
          have HSz := Lib.hid (fun (S : Nat → Prop) (b : FoP) (w0 : World) h1 => foSame_any S (fun _ => False) (foZero 0) (foZero 0) b foNil w0 h1 (FoL.zero _ _ 0))
          rw [foEq_self] at HSz
          have hei : (er == 0) = false := by simpa using he0
          clear HD Hdp
          unfold foArg foCells foZero at HSz HD8
          unfold foNil at HSz
          dsimp only [List.length_nil] at HSz HD8
          go_wp2_with fail
          refine HD8.out.mono ?_
          rintro e w9 ⟨⟨zpo, zco, zpf, zcf, zpr, zcr, zpp, zcp⟩, rfl, hf9, hb9⟩
          try dsimp only at hf9 ⊢
          have hal : Below w9.heap.size w9 (w9.alloc (.cells #[.int .u8 0, .int .u8 0, .string ⟨#[]⟩, .string ⟨#[]⟩, .string ⟨#[]⟩, .slice zpo 0 zco, .slice zpf 0 zcf, .slice zpr 0 zcr, .slice zpp 0 zcp, .int .i64 0] 44)) := (Below.refl _ _).alloc (Nat.le_refl _) _
          have H9 := Lib.hid ((HB.out.step hb9).step hal)
          have HSz9 := Lib.hid (HSz.out _ _ _ (hf9.below hal))
          have cy := (Blk.new w9 44 #[.int .u8 0, .int .u8 0, .string ⟨#[]⟩, .string ⟨#[]⟩, .string ⟨#[]⟩, .slice zpo 0 zco, .slice zpf 0 zcf, .slice zpr 0 zcr, .slice zpp 0 zcp, .int .i64 0]).cell
          dsimp only at HSz9
          clear hf9 hb9 hal HD8 HSz c8 d8 HB
          go_upto_region 10 with fail
          generalize w9.alloc (.cells #[.int .u8 0, .int .u8 0, .string ⟨#[]⟩, .string ⟨#[]⟩, .string ⟨#[]⟩, .slice zpo 0 zco, .slice zpf 0 zcf, .slice zpr 0 zcr, .slice zpp 0 zcp, .int .i64 0] 44) = wa at *
          generalize w9.heap.size = ga at *
          go_wp2_with (first
            | (go_at_call 30; refine HSz9.out.mono ?_; rintro e wb ⟨rfl, hb⟩; have Hb := Lib.hid (H9.out.step hb); clear hb)
            | (go_at_call 25; refine (Haw.out _).mono ?_; rintro e wz ⟨rfl, hb⟩; have HZ := Lib.hid (Hb.out.step hb); clear hb))
          go_ret
          exact ⟨rfl, HZ.out.bel⟩

end Go.Proofs.Ytldjfmddjbdciaa
