/-
  The walk of QueueSame (layer 21).
-/
import Derived.Test.YtpdkoijgemgaiaaQuM
import Derived.StillTailTactics
namespace Go.Proofs.Ytpdkoijgemgaiaa
open Go.RowKit
set_option linter.unusedVariables false
set_option linter.unusedSimpArgs false

theorem idsL_hidden (x y : EnV) : idsL [hideE x, hideE y] = [] := by simp [idsL, idsO, hideE]

theorem SameI.stepB {w0 w w' : World} {x y : EnV} {a b : EnP} {C : Nat} (h : SameI w0 w x y a b) (hb : Below C w w') (hC : w0.heap.size + 2 ≤ C) : SameI w0 w' x y a b :=
  ⟨h.b1.below hb (by omega), h.b2.below hb (by omega), h.l1.keep (Kept.below hb (fun k _ hk => ⟨hk, by omega⟩)), h.l2.keep (Kept.below hb (fun k _ hk => ⟨hk, by omega⟩)), h.bel.trans (hb.mono (by omega))⟩
theorem SameI.step {w0 w w' : World} {x y : EnV} {a b : EnP} (h : SameI w0 w x y a b) (hb : Below w.heap.size w w') : SameI w0 w' x y a b :=
  ⟨h.b1.below hb h.b1.lt, h.b2.below hb h.b2.lt, h.l1.keep (Kept.all hb), h.l2.keep (Kept.all hb), h.bel.trans (hb.mono h.bel.size)⟩
theorem SameI.slice {w0 w : World} {x y : EnV} {a b : EnP} (h : SameI w0 w x y a b) (cs : Array Value) (hcs : cs.toList = [enCells x a, enCells y b].flatten) :
    SliceS 8 EnS (fun _ => True) (w.alloc (.cells cs 26)) [.slice (some ⟨w.heap.size, 0, none⟩) 2 2] [x, y] :=
  SliceS.newList (S := fun k => k < w0.heap.size) (S' := fun _ => True) EnS.still w 26 cs [enCells x a, enCells y b] [x, y] ⟨⟨rfl, a, rfl, h.l1⟩, ⟨rfl, b, rfl, h.l2⟩, trivial⟩ hcs (by simp [maxLen]) (fun _ _ _ => trivial) trivial

theorem SameI.two {w0 w w' : World} {x y : EnV} {a b : EnP} (h : SameI w0 w x y a b) (hb : Below w.heap.size w w') :
    (∀ i, w'.cell? ⟨w0.heap.size, i, none⟩ = (enArg x a).cells[i]?) ∧ (∀ i, w'.cell? ⟨w0.heap.size + 1, i, none⟩ = (enArg y b).cells[i]?) := ⟨(h.step hb).b1.cell, (h.step hb).b2.cell⟩

theorem ownI_slice {B : Nat} {w : World} {p : Option Addr} {n c : Nat} {xs : List Int} (h : OwnI B w (.slice p n c) xs) : SliceS 1 IntU (fun _ => True) w [.slice p n c] xs := by
  obtain ⟨p', c', e, hs⟩ := h.slice IntU.still (S' := fun _ => True) (fun _ _ _ => trivial) (fun _ _ => trivial)
  rw [e]
  exact hs
theorem sameInts (p q : Option Addr) (n m c d : Nat) (xs : List Int) (w w9 : World) (hb : Below w9.heap.size w9 w) (hx : SliceS 1 IntU (fun _ => True) w9 [.slice p n c] xs) (hy : SliceS 1 IntU (fun _ => True) w [.slice q m d] xs) :
    Calls Try.prog 36 #[.slice p n c, .slice q m d] w fun e w' => e = .returned (.bool true) ∧ Below w9.heap.size w9 w' := by
  refine (equal_ints _ _ p q n m c d xs xs w (hx.below IntU.still hb) hy).mono ?_
  rintro e w' ⟨rfl, r, rfl⟩
  exact ⟨by rw [listEq_self intEq_self], hb.trans (bel_drewN _ _ _ hb.size)⟩

set_option maxRecDepth 100000 in
set_option maxHeartbeats 10000000 in
theorem quSame_walk (S S' : Nat → Prop) (x y : EnV) (a b : EnP) (w : World) (h1 : EnL S w x a) (h2 : EnL S' w y b) :
    Calls Try.prog 7 #[enArg x a, enArg y b] w fun e w' => e = .returned (.bool true) ∧ Below w.heap.size w w' := by
  have H0 := Lib.hid (SameI.start h1 h2)
  have Haw := Lib.hid quAwake
  have Hnew : Hid (∀ w0, Calls Try.prog 24 #[.int .i64 2] w0 fun e w' =>
      e = .returned (.tuple #[.pointer (some ⟨w0.heap.size, 0, none⟩), .int .i64 0]) ∧ QO 30 w0.heap.size w' w0.heap.size (fun _ => False) [] 2 (.slice none 0 0) ∧ Below w0.heap.size w0 w') := Lib.hid (fun w0 => qNew_ok 2 w0 (by omega) (by omega))
  clear h1 h2
  have Hsl := Lib.hid (fun (w0 w1 : World) (h : SameI w0 w1 x y a b) => h.slice (enCells x a ++ enCells y b).toArray (by simp))
  obtain ⟨ev, hev⟩ : ∃ ev, ev = enEq x y := ⟨_, rfl⟩
  obtain ⟨ids, hids⟩ : ∃ ids, ids = idsL [x, y] := ⟨_, rfl⟩
  have HSxy := Lib.hid (fun (wx : World) (h : SameI w wx x y a b) => qSame_any _ _ x y a b wx h.l1 h.l2)
  have HRxy := Lib.hid (fun (wx : World) (h : SameI w wx x y a b) => rSame_any _ _ x y a b wx h.l1 h.l2)
  have HSxx := Lib.hid (fun (wx : World) (h : SameI w wx x y a b) => qSame_any _ _ x x a a wx h.l1 h.l1)
  rw [enEq_self] at HSxx
  rw [← hev] at HSxy HRxy
  have HIdx := Lib.hid (fun (wx : World) (h : SameI w wx x y a b) (hs : ∀ z ∈ [x, y], EnSmall z) => ids_any _ _ 2 2 [x, y] _ (Hsl.out w wx h) hs (by simp))
  rw [← hids] at HIdx
  have HTwo := Lib.hid (fun (w9 wx : World) (h : SameI w w9 x y a b) (hb : Below w9.heap.size w9 wx) => h.two hb)
  have Hids := Lib.hid hids
  clear hev hids
  obtain ⟨xk, xh, xf, xd, xg, xb, xc, xr⟩ := x
  obtain ⟨yk, yh, yf, yd, yg, yb, yc, yr⟩ := y
  obtain ⟨pg, cg, pb, cb, pc, cc, pr, cr⟩ := a
  obtain ⟨qg, dg, qb, db, qc, dc, qr, dr⟩ := b
  unfold enArg at H0 HSxy HRxy HSxx HTwo ⊢
  unfold enCells at Hsl HIdx
  simp only [Value.cells] at H0 HTwo
  dsimp only [List.cons_append, List.nil_append] at *
  go_enter Try.func7, Try.ntmps7
  go_upto_region 1 with (fail)
  generalize (w.alloc (.cells #[.int .i64 xk, .bool xh, .string xf, .string xd, .slice pg xg.length cg, .slice pb xb.length cb, .slice pc xc.length cc, .slice pr xr.length cr] 26)).alloc (.cells #[.int .i64 yk, .bool yh, .string yf, .string yd, .slice qg yg.length dg, .slice qb yb.length db, .slice qc yc.length dc, .slice qr yr.length dr] 26) = w1 at *
  have hc1 : ∀ i, w1.cell? ⟨w.heap.size, i, none⟩ = (#[.int .i64 xk, .bool xh, .string xf, .string xd, .slice pg xg.length cg, .slice pb xb.length cb, .slice pc xc.length cc, .slice pr xr.length cr] : Array Value)[i]? := H0.out.b1.cell
  have hd1 : ∀ i, w1.cell? ⟨w.heap.size + 1, i, none⟩ = (#[.int .i64 yk, .bool yh, .string yf, .string yd, .slice qg yg.length dg, .slice qb yb.length db, .slice qc yc.length dc, .slice qr yr.length dr] : Array Value)[i]? := H0.out.b2.cell
  have hs1 := Hsl.out w w1 H0.out
  have hal1 := (Below.refl w1.heap.size w1).alloc (Nat.le_refl _) (.cells #[.int .i64 xk, .bool xh, .string xf, .string xd, .slice pg xg.length cg, .slice pb xb.length cb, .slice pc xc.length cc, .slice pr xr.length cr, .int .i64 yk, .bool yh, .string yf, .string yd, .slice qg yg.length dg, .slice qb yb.length db, .slice qc yc.length dc, .slice qr yr.length dr] 26)
  have H2 := Lib.hid (H0.out.step hal1)
  have HEn := Lib.hid (entries_any _ _ 2 2 _ 2 _ hs1)
  clear hs1 hal1 H0
  go_wp2_with fail
  refine HEn.out.mono ?_
  rintro e w2 ⟨bb, rfl, hf, hb2⟩
  have H3 := Lib.hid (H2.out.step hb2)
  clear hb2 H2 HEn hc1 hd1
  cases bb with
  | false =>
    clear hf
    go_wp2_with (go_at_call 22; refine (Haw.out _).mono ?_; rintro e w4 ⟨rfl, hb⟩)
    go_ret
    exact ⟨rfl, H3.out.bel.trans (hb.mono H3.out.bel.size)⟩
  | true =>
    obtain ⟨_, hfew⟩ := hf rfl
    have Hsm : Hid (∀ z ∈ [(⟨xk, xh, xf, xd, xg, xb, xc, xr⟩ : EnV), ⟨yk, yh, yf, yd, yg, yb, yc, yr⟩], EnSmall z) := Lib.hid (fun z hz => (hfew z hz).small)
    clear hf hfew
    go_wp2_with fail
    refine (Hnew.out _).mono ?_
    rintro e w3 ⟨rfl, hq3, hb3⟩
    have H4 := Lib.hid (H3.out.step hb3)
    have HQ3 := Lib.hid hq3
    have hsl3 := hq3.blk.lt
    have hwz := H3.out.bel.size
    have hwz2 : w.heap.size + 1 < w2.heap.size := H3.out.b2.lt
    clear hq3 hb3 H3 Hnew
    generalize w2.heap.size = sb at *
    have hc4 : ∀ i, w3.cell? ⟨w.heap.size, i, none⟩ = (#[.int .i64 xk, .bool xh, .string xf, .string xd, .slice pg xg.length cg, .slice pb xb.length cb, .slice pc xc.length cc, .slice pr xr.length cr] : Array Value)[i]? := H4.out.b1.cell
    have hd4 : ∀ i, w3.cell? ⟨w.heap.size + 1, i, none⟩ = (#[.int .i64 yk, .bool yh, .string yf, .string yd, .slice qg yg.length dg, .slice qb yb.length db, .slice qc yc.length dc, .slice qr yr.length dr] : Array Value)[i]? := H4.out.b2.cell
    have hs4 := Hsl.out w w3 H4.out
    have hal4 := (Below.refl w3.heap.size w3).alloc (Nat.le_refl _) (.cells #[.int .i64 xk, .bool xh, .string xf, .string xd, .slice pg xg.length cg, .slice pb xb.length cb, .slice pc xc.length cc, .slice pr xr.length cr, .int .i64 yk, .bool yh, .string yf, .string yd, .slice qg yg.length dg, .slice qb yb.length db, .slice qc yc.length dc, .slice qr yr.length dr] 26)
    have H5 := Lib.hid (H4.out.step hal4)
    have hq5 := HQ3.out.still hal4
    have hz5 : (w3.alloc (.cells #[.int .i64 xk, .bool xh, .string xf, .string xd, .slice pg xg.length cg, .slice pb xb.length cb, .slice pc xc.length cc, .slice pr xr.length cr, .int .i64 yk, .bool yh, .string yf, .string yd, .slice qg yg.length dg, .slice qb yb.length db, .slice qc yc.length dc, .slice qr yr.length dr] 26)).heap.size = w3.heap.size + 1 := by simp
    have HP := Lib.hid (qPush_ok sb sb _ _ [] _ 2 _ _ 2 2 _ hq5 hs4 Hsm.out (by simp) (by omega) (by omega))
    have HQ5 := Lib.hid hq5
    have Hz5 := Lib.hid hz5
    clear hs4 hal4 hq5 hz5 H4 HQ3
    go_wp2_with fail
    refine HP.out.mono ?_
    rintro e w6 ⟨rfl, v6, hq6, hr6, hT6⟩
    have hb6 := HQ5.out.below hT6 (by rw [Hz5.out]; omega)
    have H6 := Lib.hid (H5.out.stepB hb6 (by omega))
    have hz6 : w3.heap.size + 1 ≤ w6.heap.size := by have := hb6.size; rw [Hz5.out] at this; exact this
    have hq6' := hq6.weak (E' := fun k => k < w6.heap.size ∧ k ≠ sb) (fun k hk hE => ⟨hk, fun e => hq6.noE (by rw [← e]; exact hE)⟩) (fun e => e.2 rfl)
    rw [List.nil_append] at hq6'
    have HQ6 := Lib.hid hq6'
    clear hq6 hq6' hr6 hT6 hb6 HP HQ5 H5 hc4 hd4 Hz5
    go_wp2_with fail
    refine (qHide_any sb sb _ _ 2 v6 w6 HQ6.out (by omega) (fun k hk => hk.1)).mono ?_
    rintro e w7 ⟨vi, rfl, hoi, hq7, hT7⟩
    have hb7 := HQ6.out.below hT7 (by omega)
    have hz7 := hT7.size
    have H7 := Lib.hid (H6.out.stepB hb7 (by omega))
    rw [← Hids.out] at hoi
    have HI7 := Lib.hid hoi
    have HQ7 := Lib.hid hq7
    clear hoi hq7 hT7 hb7 H6 HQ6
    obtain ⟨pi, ci, rfl, _⟩ := HI7.out.slice IntU.still (S' := fun _ => True) (fun _ _ _ => trivial) (fun _ _ => trivial)
    go_wp2_with fail
    refine (qList_any _ sb sb _ _ 2 v6 w7 HQ7.out).mono ?_
    rintro e w8 ⟨vl, rfl, hol, hb8⟩
    have H8 := Lib.hid (H7.out.step hb8)
    have HI8 := Lib.hid (HI7.out.below' IntU.still hb8)
    obtain ⟨pl, cl, rfl, hsl8⟩ := hol.slice EnS.still (S' := fun _ => True) (fun _ _ _ => trivial) (fun _ _ => trivial)
    obtain ⟨lb, lo, a1, rfl, hS1, hbl1, hL1, _, x1, _, _, _, x5, _, _⟩ := en_at hsl8 (k := 0) (by simp)
    obtain ⟨lb', lo', a2, e2, hS2, hbl2, hL2, _, y1, _, _, _, y5, _, _⟩ := en_at hsl8 (k := 1) (by simp)
    cases e2
    have HId := Lib.hid (ids_any _ _ _ cl _ w8.drew (hsl8.below EnS.still (below_dropN (w := w8) (Below.refl _ _) (Nat.le_refl _))) (fun z hz => by have := HQ7.out.small z hz; exact this) (by simp))
    have hx1 : w8.cell? ⟨lb, lo + 1, none⟩ = some (.bool true) := by simpa [hideE] using x1
    have hx5 : w8.cell? ⟨lb, lo + 5, none⟩ = some (.slice a1.pb 0 a1.cb) := by simpa [hideE] using x5
    have hy1 : w8.cell? ⟨lb, lo + 8 + 1, none⟩ = some (.bool true) := by simpa [hideE] using y1
    have hy5 : w8.cell? ⟨lb, lo + 8 + 5, none⟩ = some (.slice a2.pb 0 a2.cb) := by simpa [hideE] using y5
    have hz8 := hb8.size
    clear x1 x5 y1 y5 hL1 hL2 hol hb8 hsl8 H7 HI7 HQ7 hS1 hS2 hbl2
    simp only [List.map_cons, List.map_nil, List.length_cons, List.length_nil, Nat.zero_add] at HId ⊢
    rw [idsL_hidden] at HId
    go_upto_region 8 with (fail)
    go_region_held3 (fun w' => (w'.cell? ⟨lb, lo + 1, none⟩ = some (.bool true) ∧ w'.cell? ⟨lb, lo + 5, none⟩ = some (.slice a1.pb 0 a1.cb)) ∧ (w'.cell? ⟨lb, lo + 8 + 1, none⟩ = some (.bool true) ∧ w'.cell? ⟨lb, lo + 8 + 5, none⟩ = some (.slice a2.pb 0 a2.cb)))
      (first | exact ⟨⟨hx1, hx5⟩, hy1, hy5⟩ | exact hS9 | go_keep)
      ((go_at_call 34; refine HId.out.mono ?_; rintro e w9 ⟨v9, rfl, ho9, hb9⟩; obtain ⟨p9, c9, rfl, _⟩ := ho9.slice IntU.still (S' := fun _ => True) (fun _ _ _ => trivial) (fun _ _ => trivial); have hb9' := below_dropN (w := w8) hb9 (Nat.le_refl _); have H9 := Lib.hid (H8.out.step hb9'); have HI9 := Lib.hid (HI8.out.below' IntU.still hb9'); have hz9 := hb9'.size; have hS9 := (show (w9.cell? ⟨lb, lo + 1, none⟩ = some (.bool true) ∧ w9.cell? ⟨lb, lo + 5, none⟩ = some (.slice a1.pb 0 a1.cb)) ∧ (w9.cell? ⟨lb, lo + 8 + 1, none⟩ = some (.bool true) ∧ w9.cell? ⟨lb, lo + 8 + 5, none⟩ = some (.slice a2.pb 0 a2.cb)) from ⟨⟨(hb9'.cell (p := ⟨lb, lo + 1, none⟩) hbl1).trans hx1, (hb9'.cell (p := ⟨lb, lo + 5, none⟩) hbl1).trans hx5⟩, (hb9'.cell (p := ⟨lb, lo + 8 + 1, none⟩) hbl1).trans hy1, (hb9'.cell (p := ⟨lb, lo + 8 + 5, none⟩) hbl1).trans hy5⟩); clear ho9 hb9 hb9'))
    clear hx1 hx5 hy1 hy5 hS9 hbl1 HId
    go_upto_region 10 with (fail)
    have H9o := H9.out
    have HTwo9 := Lib.hid (fun (wx : World) (hb : Below w9.heap.size w9 wx) => HTwo.out w9 wx H9o hb)
    have hS0 := HTwo9.out w9 (Below.refl _ _)
    have HSxy9 := Lib.hid (fun (wx : World) (hb : Below w9.heap.size w9 wx) => HSxy.out wx (H9o.step hb))
    have HRxy9 := Lib.hid (fun (wx : World) (hb : Below w9.heap.size w9 wx) => HRxy.out wx (H9o.step hb))
    have HSxx9 := Lib.hid (fun (wx : World) (hb : Below w9.heap.size w9 wx) => HSxx.out wx (H9o.step hb))
    have HIdx9 := Lib.hid (fun (wx : World) (hb : Below w9.heap.size w9 wx) => HIdx.out wx (H9o.step hb) Hsm.out)
    have HBn : Hid (Below w9.heap.size w9 w9.drew) := Lib.hid (below_dropN (Below.refl _ _) (Nat.le_refl _))
    have HB9 := Lib.hid H9.out.bel
    have HPi := Lib.hid (ownI_slice HI9.out)
    clear H8 HI8 H9 H9o Hsl HSxy HRxy HSxx HIdx HTwo
    go_region_held3 (fun w' => (∀ i, w'.cell? ⟨w.heap.size, i, none⟩ = (#[.int .i64 xk, .bool xh, .string xf, .string xd, .slice pg xg.length cg, .slice pb xb.length cb, .slice pc xc.length cc, .slice pr xr.length cr] : Array Value)[i]?) ∧ (∀ i, w'.cell? ⟨w.heap.size + 1, i, none⟩ = (#[.int .i64 yk, .bool yh, .string yf, .string yd, .slice qg yg.length dg, .slice qb yb.length db, .slice qc yc.length dc, .slice qr yr.length dr] : Array Value)[i]?))
      (first | exact hSn | (with_reducible exact hSal _) | exact hS0 | go_keep)
      (first
        | (go_at_call 35; ((with_reducible refine (HRxy9.out _ HBn.out).mono ?_); rintro e wn ⟨rfl, hbn⟩; have HBn := Lib.hid (HBn.out.trans (hbn.mono HBn.out.size)); have hSn := HTwo9.out _ HBn.out; have hSal := fun ob => HTwo9.out _ (HBn.out.alloc HBn.out.size ob); clear hbn))
        | (go_at_call 25; ((with_reducible refine (HSxy9.out _ HBn.out).mono ?_); rintro e wn ⟨rfl, hbn⟩; have HBn := Lib.hid (HBn.out.trans (hbn.mono HBn.out.size)); have hSn := HTwo9.out _ HBn.out; have hSal := fun ob => HTwo9.out _ (HBn.out.alloc HBn.out.size ob); clear hbn))
        | (go_at_call 25; ((with_reducible refine (HSxx9.out _ HBn.out).mono ?_); rintro e wn ⟨rfl, hbn⟩; have HBn := Lib.hid (HBn.out.trans (hbn.mono HBn.out.size)); have hSn := HTwo9.out _ HBn.out; have hSal := fun ob => HTwo9.out _ (HBn.out.alloc HBn.out.size ob); clear hbn))
        | (go_at_call 34; refine (HIdx9.out _ HBn.out).mono ?_; rintro e wn ⟨vm, rfl, hom, hbn⟩; obtain ⟨pm, cm, rfl, hsm⟩ := hom.slice IntU.still (S' := fun _ => True) (fun _ _ _ => trivial) (fun _ _ => trivial); have HBn := Lib.hid ((HBn.out.alloc HBn.out.size _).trans (hbn.mono (by have := HBn.out.size; simp; omega))); have hSn := HTwo9.out _ HBn.out; have Hsm2 := Lib.hid hsm; clear hbn hom hsm)
        | (go_at_call 36; refine (sameInts pi pm _ _ ci cm ids _ w9 HBn.out HPi.out Hsm2.out).mono ?_; rintro e wn ⟨rfl, hbn⟩; have HBn := Lib.hid hbn; have hSn := HTwo9.out _ HBn.out; clear hbn)
        | (go_at_call 22; refine (Haw.out _).mono ?_; rintro e wn ⟨rfl, hbn⟩; have HBn := Lib.hid (HBn.out.trans (hbn.mono HBn.out.size)); have hSn := HTwo9.out _ HBn.out; clear hbn))
    all_goals
      go_wp2_with fail
      go_ret
      exact ⟨rfl, HB9.out.trans (HBn.out.mono HB9.out.size)⟩

theorem quSame_read (s s' : Array Value) (x y : EnV) (w : World) (h : EnS (fun k => k < w.heap.size) w s.toList x) (h' : EnS (fun k => k < w.heap.size) w s'.toList y) : Calls Try.prog 7 #[.agg s, .agg s'] w fun e w' => e = .returned (.bool true) ∧ Below w.heap.size w w' := by
  obtain ⟨a, hs, hl⟩ := h
  obtain ⟨b, hs', hl'⟩ := h'
  have e : s = (enCells x a).toArray := by rw [← hs]
  have e' : s' = (enCells y b).toArray := by rw [← hs']
  subst e e'
  exact quSame_walk _ _ x y a b w hl hl'

end Go.Proofs.Ytpdkoijgemgaiaa
