/-
  Got of both as one contract; beside each other; same; awake (layer 22).
-/
import Derived.Test.YtjfhpafaopeogaaMaE
import Derived.Test.YtjfhpafaopeogaaMaF
import Derived.Test.YtjfhpafaopeogaaMaH
import Derived.Test.YtjfhpafaopeogaaMaJ
import Derived.Test.YtjfhpafaopeogaaMaK
import Derived.Test.YtjfhpafaopeogaaMaL
import Derived.Test.YtjfhpafaopeogaaMaM
namespace Go.Proofs.Ytjfhpafaopeogaa
open Go.RowKit
set_option linter.unusedVariables false
set_option linter.unusedSimpArgs false

theorem got_any (B sb : Nat) (E : Nat → Prop) (L : List EnV) (most : Nat) (v : Value) (b : BkV) (w : World) (h : QO 126 B w sb E L most v) (hB : B ≤ w.heap.size) :
    Calls Try.prog 32 #[.pointer (some ⟨sb, 0, none⟩), bkArg b] w (GotR 126 B sb E L most v b.kind b.status w) := by
  cases L with
  | nil => exact got_none B sb E most v b w h hB
  | cons x T =>
    cases ht : takesB x.kind b.kind with
    | false => exact got_untaken B sb E x T most v b w h hB ht
    | true =>
      cases hf : failsB x.kind b.kind with
      | true => exact got_fails B sb E x T most v b w h hB ht hf (fails_ends hf)
      | false =>
        cases he : endsB x.kind b.kind with
        | true => exact got_ends B sb E x T most v b w h hB ht hf he
        | false => exact got_kept B sb E x T most v b w h hB ht hf he

theorem rgot_any (B sb : Nat) (E : Nat → Prop) (L : List EnV) (most : Nat) (v : Value) (b : BkV) (w : World) (h : QO 88 B w sb E L most v) (hB : B ≤ w.heap.size) (hb0 : 0 ≤ b.kind) (hb1 : b.kind < 256) :
    Calls Try.prog 41 #[.pointer (some ⟨sb, 0, none⟩), bkArg b] w (GotR 88 B sb E L most v b.kind b.status w) := by
  cases L with
  | nil => exact rgot_none B sb E most v b w h
  | cons x T =>
    cases ht : takesB x.kind b.kind with
    | false => exact rgot_untaken B sb E x T most v b w h hb0 hb1 ht
    | true =>
      cases hf : failsB x.kind b.kind with
      | true => exact rgot_fails B sb E x T most v b w h hB hb0 hb1 ht hf (fails_ends hf)
      | false =>
        cases he : endsB x.kind b.kind with
        | true => exact rgot_ends B sb E x T most v b w h hB hb0 hb1 ht hf he
        | false => exact rgot_kept B sb E x T most v b w h hB hb0 hb1 ht hf he

section
variable {B : Nat} {w : World} {qb xb : Nat} {Eq Ex : Nat → Prop} {L Lx L' : List EnV} {most : Nat} {vq vx : Value} {w' : World}
theorem Pair.opq (h : Pair B w qb xb Eq Ex L Lx most vq vx) (ho : OpM 126 B qb Eq L' most vq w w') : (∃ Eq' vq', Pair B w' qb xb Eq' Ex L' Lx most vq' vx) ∧ Below B w w' := by
  obtain ⟨v', h1, h2, h3⟩ := ho
  have hT : QT qb vq w w' := h3.mono (fun _ _ e => .inl e)
  exact ⟨⟨_, _, h.stepq h1 h2 hT⟩, h.belowq hT⟩
theorem Pair.opx (h : Pair B w qb xb Eq Ex L Lx most vq vx) (ho : OpM 88 B xb Ex L' most vx w w') : (∃ Ex' vx', Pair B w' qb xb Eq Ex' L L' most vq vx') ∧ Below B w w' := by
  obtain ⟨v', h1, h2, h3⟩ := ho
  have hT : QT xb vx w w' := h3.mono (fun _ _ e => .inl e)
  exact ⟨⟨_, _, h.stepx h1 h2 hT⟩, h.belowx hT⟩
theorem Pair.gG (h : Pair B w qb xb Eq Ex L Lx most vq vx) : ∀ j, gG Eq vq qb w j → j ≠ xb := by
  intro j hj
  have := h.x.blk.lt
  rcases hj.1 with e | e | e
  · exact (h.d1 j (.inl e.1)).1
  · exact (h.d1 j (.inr (.inr e))).1
  · omega

theorem pair_got_q (h : Pair B w qb xb Eq Ex L Lx most vq vx) (b : BkV) :
    Calls Try.prog 32 #[.pointer (some ⟨qb, 0, none⟩), bkArg b] w fun e w' => ∃ p, e = .returned (.tuple #[resArg (gotV L b.kind b.status).1 p, .int .i64 (gotV L b.kind b.status).2.1]) ∧ ResL (fun j => j ≠ xb) w' (gotV L b.kind b.status).1 p ∧ (∃ Eq' vq', Pair B w' qb xb Eq' Ex (gotV L b.kind b.status).2.2 Lx most vq' vx) ∧ Below B w w' ∧ Touch (fun i => i = qb) w w' := by
  refine (got_any B qb Eq L most vq b w h.q h.base).mono ?_
  rintro e w' ⟨p, rfl, hl, ho⟩
  obtain ⟨h1, h2⟩ := h.opq ho
  exact ⟨p, rfl, hl.keep (Kept.mono w' (fun k _ hk => h.gG k hk)), h1, h2, opM_touch ho⟩

theorem pair_got_x (h : Pair B w qb xb Eq Ex L Lx most vq vx) (b : BkV) (hb0 : 0 ≤ b.kind) (hb1 : b.kind < 256) {r : ResV} {p : ResP} (hy : ResL (fun j => j ≠ xb) w r p) :
    Calls Try.prog 41 #[.pointer (some ⟨xb, 0, none⟩), bkArg b] w fun e w' => ∃ p', e = .returned (.tuple #[resArg (gotV Lx b.kind b.status).1 p', .int .i64 (gotV Lx b.kind b.status).2.1]) ∧ ResL (fun _ => True) w' (gotV Lx b.kind b.status).1 p' ∧ ResL (fun _ => True) w' r p ∧ (∃ Ex' vx', Pair B w' qb xb Eq Ex' L (gotV Lx b.kind b.status).2.2 most vq vx') ∧ Below B w w' ∧ Touch (fun i => i = xb) w w' := by
  refine (rgot_any B xb Ex Lx most vx b w h.x h.base hb0 hb1).mono ?_
  rintro e w' ⟨p', rfl, hl, ho⟩
  obtain ⟨h1, h2⟩ := h.opx ho
  exact ⟨p', rfl, hl.keep (Kept.mono w' (fun k _ hk => trivial)), hy.keep (Kept.touch (opM_touch ho) (fun k _ hk => ⟨trivial, hk⟩)), h1, h2, opM_touch ho⟩

theorem pair_flush_q (h : Pair B w qb xb Eq Ex L Lx most vq vx) :
    Calls Try.prog 39 #[.pointer (some ⟨qb, 0, none⟩)] w fun e w' => ∃ p c, e = .returned (.slice p (L.take (ahead notSyn L)).length c) ∧ SliceS 8 EnS (fun j => j ≠ xb) w' [.slice p (L.take (ahead notSyn L)).length c] (L.take (ahead notSyn L)) ∧ (∃ Eq' vq', Pair B w' qb xb Eq' Ex (L.drop (ahead notSyn L)) Lx most vq' vx) ∧ Below B w w' := by
  refine (flush_any B qb Eq L most vq w h.q h.base).mono ?_
  rintro e w' ⟨vo, rfl, hl, ho⟩
  obtain ⟨h1, h2⟩ := h.opq ho
  have hx := h.x.blk.lt
  have hrw := hl.row
  obtain ⟨p, c, rfl, hs⟩ := hl.slice EnS.still (S' := fun j => j ≠ xb) (fun k _ hk => by have hk' : w.heap.size ≤ k := hk; omega) (fun k hk => by have := (hrw k hk).1; omega)
  exact ⟨p, c, rfl, hs, h1, h2⟩

theorem pair_flush_x (h : Pair B w qb xb Eq Ex L Lx most vq vx) {ys : List EnV} {q : Option Addr} {m d : Nat} (hy : SliceS 8 EnS (fun j => j ≠ xb) w [.slice q m d] ys) :
    Calls Try.prog 40 #[.pointer (some ⟨xb, 0, none⟩)] w fun e w' => ∃ p c, e = .returned (.slice p (Lx.take (ahead notSyn Lx)).length c) ∧ SliceS 8 EnS (fun _ => True) w' [.slice p (Lx.take (ahead notSyn Lx)).length c] (Lx.take (ahead notSyn Lx)) ∧ SliceS 8 EnS (fun _ => True) w' [.slice q m d] ys ∧ (∃ Ex' vx', Pair B w' qb xb Eq Ex' L (Lx.drop (ahead notSyn Lx)) most vq vx') ∧ Below B w w' := by
  refine (rflush_any B xb Ex Lx most vx w h.x h.base).mono ?_
  rintro e w' ⟨vo, rfl, hl, ho⟩
  obtain ⟨h1, h2⟩ := h.opx ho
  obtain ⟨p, c, rfl, hs⟩ := hl.slice EnS.still (S' := fun _ => True) (fun _ _ _ => trivial) (fun _ _ => trivial)
  exact ⟨p, c, rfl, hs, (SliceS.still EnS.still) _ _ _ _ _ _ hy (Kept.touch (opM_touch ho) (fun k _ hk => ⟨trivial, hk⟩)), h1, h2⟩
end

set_option maxRecDepth 100000 in
set_option maxHeartbeats 8000000 in
/-- Two results of the same. -/
theorem matchSame_any (G G' : Nat → Prop) (r : ResV) (p p' : ResP) (w : World) (h1 : ResL G w r p) (h2 : ResL G' w r p') :
    Calls Try.prog 42 #[resArg r p, resArg r p'] w fun e w' => e = .returned (.bool true) ∧ Below w.heap.size w w' := by
  obtain ⟨W, hW⟩ : ∃ W, W = (w.alloc (.cells (resCells r p) 62)).alloc (.cells (resCells r p') 82) := ⟨_, rfl⟩
  have hbW : Below w.heap.size w W := by rw [hW]; exact ((Below.refl _ _).alloc (Nat.le_refl _) _).alloc (by simp) _
  have hz : W.heap.size = w.heap.size + 2 := by rw [hW]; simp
  have e1 : Blk W w.heap.size 62 (resCells r p) := by rw [hW]; exact (Blk.new _ _ _).alloc _
  have e2 : Blk W (w.heap.size + 1) 82 (resCells r p') := by
    rw [hW]
    have := Blk.new (w.alloc (.cells (resCells r p) 62)) 82 (resCells r p')
    simpa using this
  have HL1 := Lib.hid (h1.keep (Kept.all hbW))
  have HL2 := Lib.hid (h2.keep (Kept.all hbW))
  have Hb := Lib.hid hbW
  have He := Lib.hid (And.intro e1 e2)
  have HW := Lib.hid hW
  have Hz := Lib.hid hz
  have Hsm := Lib.hid (fun w0 a b G G' (g1 : EnL G w0 r.name a) (g2 : EnL G' w0 r.name b) => by
    have := rSame_any G G' r.name r.name a b w0 g1 g2
    rw [enEq_self] at this
    exact this)
  have hc1 := e1.cell
  have hc2 := e2.cell
  clear h1 h2 hbW e1 e2 hW hz
  obtain ⟨sh, ⟨xk, xh, xf, xd, xg, xb, xc, xr⟩, en, fd, dr, rdy⟩ := r
  obtain ⟨⟨pg, cg, pb, cb, pc, cc, pr, cr⟩, pe, ce, pf, cf, pd, cd⟩ := p
  obtain ⟨⟨qg, dg, qb, db, qc, dc, qr, dq⟩, qe, de, qf, df, qd, dd⟩ := p'
  unfold resArg
  unfold resCells at hc1 hc2 HW ⊢
  unfold enArg at Hsm
  dsimp only at *
  go_enter Try.func42, Try.ntmps42
  go_upto_region 1 with (fail)
  rw [← HW.out]
  clear HW
  have hs1 : (sh == sh) = true := by simp
  have hs2 : (rdy == rdy) = true := by simp
  go_wp2_with fail
  refine (Hsm.out _ ⟨pg, cg, pb, cb, pc, cc, pr, cr⟩ ⟨qg, dg, qb, db, qc, dc, qr, dq⟩ _ _ HL1.out.name HL2.out.name).mono ?_
  rintro e w2 ⟨rfl, hb2⟩
  have HB2 := Lib.hid hb2
  have hx2 := (He.out.1.below HB2.out He.out.1.lt).cell
  have hy2 := (He.out.2.below HB2.out He.out.2.lt).cell
  unfold resCells at hx2 hy2
  dsimp only at hx2 hy2
  clear hb2 hc1 hc2
  go_wp2_with fail
  refine (rAll_same _ _ pe qe _ _ ce de en w2 (SliceS.below EnS.still HL1.out.ended HB2.out) (SliceS.below EnS.still HL2.out.ended HB2.out)).mono ?_
  rintro e w3 ⟨rfl, hb3⟩
  have HB3 := Lib.hid (HB2.out.trans (hb3.mono HB2.out.size))
  have hx3 := (He.out.1.below HB3.out He.out.1.lt).cell
  have hy3 := (He.out.2.below HB3.out He.out.2.lt).cell
  unfold resCells at hx3 hy3
  dsimp only at hx3 hy3
  clear hb3 hx2 hy2
  go_wp2_with fail
  refine (rAll_same _ _ pf qf _ _ cf df fd w3 (SliceS.below EnS.still HL1.out.failed HB3.out) (SliceS.below EnS.still HL2.out.failed HB3.out)).mono ?_
  rintro e w4 ⟨rfl, hb4⟩
  have HB4 := Lib.hid (HB3.out.trans (hb4.mono HB3.out.size))
  have hx4 := (He.out.1.below HB4.out He.out.1.lt).cell
  have hy4 := (He.out.2.below HB4.out He.out.2.lt).cell
  unfold resCells at hx4 hy4
  dsimp only at hx4 hy4
  clear hb4 hx3 hy3
  go_wp2_with fail
  refine (rAll_same _ _ pd qd _ _ cd dd dr w4 (SliceS.below EnS.still HL1.out.dropped HB4.out) (SliceS.below EnS.still HL2.out.dropped HB4.out)).mono ?_
  rintro e w5 ⟨rfl, hb5⟩
  have HB5 := Lib.hid (HB4.out.trans (hb5.mono HB4.out.size))
  have hx5 := (He.out.1.below HB5.out He.out.1.lt).cell
  have hy5 := (He.out.2.below HB5.out He.out.2.lt).cell
  unfold resCells at hx5 hy5
  dsimp only at hx5 hy5
  clear hb5 hx4 hy4
  go_wp2_with fail
  go_ret
  exact ⟨rfl, Hb.out.trans (HB5.out.mono (by have := Hz.out; omega))⟩

def bkE : BkV := ⟨69, 0, ⟨#[]⟩, ⟨#[]⟩, ⟨#[]⟩, 0, 0, none, 0, 0, none, 0, 0, none, 0, 0, none, 0, 0⟩
theorem gotV_awake : gotV [enK 2, enK 3, enK 8] 69 0 = (⟨true, enK 2, [], [enK 2], [enK 3], 0⟩, 0, [enK 8]) := by
  have h1 : takesB (enK 2).kind 69 = true := by decide +kernel
  have h2 : failsB (enK 2).kind 69 = true := by decide +kernel
  have a1 : ahead isSync [enK 3, enK 8] = 1 := by
    have g1 : isSync (enK 3) = false := rfl
    have g2 : isSync (enK 8) = true := rfl
    simp [ahead, List.takeWhile_cons, g1, g2]
  have a2 : ahead notSyn [enK 8] = 0 := by
    have g1 : notSyn (enK 8) = true := rfl
    simp [ahead, List.takeWhile_cons, g1]
  have hh : (enK 2).hide = false := rfl
  simp [gotV, h1, h2, a1, a2, insteadV, hh, readyV]

set_option maxRecDepth 100000 in
set_option maxHeartbeats 8000000 in
theorem matchAwake (w : World) : Calls Try.prog 29 #[] w fun e w' => e = .returned (.bool true) ∧ Below w.heap.size w w' := by
  have Hnew : Hid (Calls Try.prog 30 #[.int .i64 4] w fun e w' =>
      e = .returned (.tuple #[.pointer (some ⟨w.heap.size, 0, none⟩), .int .i64 0]) ∧ QO 126 w.heap.size w' w.heap.size (fun _ => False) [] 4 (.slice none 0 0) ∧ Below w.heap.size w w') := Lib.hid (qNew_ok 4 w (by omega) (by omega))
  go_enter Try.func29, Try.ntmps29
  go_wp2_with fail
  refine Hnew.out.mono ?_
  rintro e w1 ⟨rfl, hq1, hb1⟩
  have HQ1 := Lib.hid hq1
  have HB1 := Lib.hid hb1
  have hz1 : w.heap.size < w1.heap.size := hq1.blk.lt
  clear hq1 hb1 Hnew
  go_wp2_with fail
  have hal : Below w1.heap.size w1 (w1.alloc (.cells #[.int .i64 2, .bool false, .string ⟨#[]⟩, .string ⟨#[]⟩, .slice none 0 0, .slice none 0 0, .slice none 0 0, .slice none 0 0, .int .i64 3, .bool false, .string ⟨#[]⟩, .string ⟨#[]⟩, .slice none 0 0, .slice none 0 0, .slice none 0 0, .slice none 0 0, .int .i64 8, .bool false, .string ⟨#[]⟩, .string ⟨#[]⟩, .slice none 0 0, .slice none 0 0, .slice none 0 0, .slice none 0 0] 52)) := (Below.refl _ _).alloc (Nat.le_refl _) _
  have hsl := SliceS.newList (S := fun _ => True) (S' := fun _ => True) EnS.still w1 52 #[.int .i64 2, .bool false, .string ⟨#[]⟩, .string ⟨#[]⟩, .slice none 0 0, .slice none 0 0, .slice none 0 0, .slice none 0 0, .int .i64 3, .bool false, .string ⟨#[]⟩, .string ⟨#[]⟩, .slice none 0 0, .slice none 0 0, .slice none 0 0, .slice none 0 0, .int .i64 8, .bool false, .string ⟨#[]⟩, .string ⟨#[]⟩, .slice none 0 0, .slice none 0 0, .slice none 0 0, .slice none 0 0]
    [enCells (enK 2) enZeroP, enCells (enK 3) enZeroP, enCells (enK 8) enZeroP] [enK 2, enK 3, enK 8] ⟨⟨rfl, enZeroP, rfl, enZero_l _ _ _⟩, ⟨rfl, enZeroP, rfl, enZero_l _ _ _⟩, ⟨rfl, enZeroP, rfl, enZero_l _ _ _⟩, trivial⟩ rfl (by simp [maxLen]) (fun _ _ h => h) trivial
  have hz1a : w1.heap.size + 1 = (w1.alloc (.cells #[.int .i64 2, .bool false, .string ⟨#[]⟩, .string ⟨#[]⟩, .slice none 0 0, .slice none 0 0, .slice none 0 0, .slice none 0 0, .int .i64 3, .bool false, .string ⟨#[]⟩, .string ⟨#[]⟩, .slice none 0 0, .slice none 0 0, .slice none 0 0, .slice none 0 0, .int .i64 8, .bool false, .string ⟨#[]⟩, .string ⟨#[]⟩, .slice none 0 0, .slice none 0 0, .slice none 0 0, .slice none 0 0] 52)).heap.size := by simp
  have hq1a := HQ1.out.still hal
  have hB1a := HB1.out.trans (hal.mono (Nat.le_of_lt hz1))
  generalize w1.alloc (.cells #[.int .i64 2, .bool false, .string ⟨#[]⟩, .string ⟨#[]⟩, .slice none 0 0, .slice none 0 0, .slice none 0 0, .slice none 0 0, .int .i64 3, .bool false, .string ⟨#[]⟩, .string ⟨#[]⟩, .slice none 0 0, .slice none 0 0, .slice none 0 0, .slice none 0 0, .int .i64 8, .bool false, .string ⟨#[]⟩, .string ⟨#[]⟩, .slice none 0 0, .slice none 0 0, .slice none 0 0, .slice none 0 0] 52) = w2 at *
  refine (qPush_ok w.heap.size w.heap.size _ _ [] [enK 2, enK 3, enK 8] 4 _ _ 3 3 w2 hq1a hsl (fun x hx => by
    rcases List.mem_cons.1 hx with rfl | hx
    · exact enK_small 2
    · rcases List.mem_cons.1 hx with rfl | hx
      · exact enK_small 3
      · rw [List.mem_singleton.1 hx]; exact enK_small 8) (by simp) (by omega) (by omega)).mono ?_
  rintro e w3 ⟨rfl, v3, hq3, hr3, hT3⟩
  have hz3 := hT3.size
  rw [List.nil_append] at hq3
  have HB3 := Lib.hid (hB1a.trans (hq1a.below hT3 (by omega)))
  have Hgot := Lib.hid (got_any w.heap.size w.heap.size _ _ 4 v3 bkE w3 hq3 (by omega))
  have Hq3 := Lib.hid hq3
  clear hq3 hr3 hT3 hq1a hB1a hsl hal HQ1 HB1
  unfold bkArg bkE at Hgot
  dsimp only at Hgot
  go_wp2_with fail
  refine Hgot.out.mono ?_
  unfold GotR
  rw [gotV_awake]
  rintro e w4 ⟨⟨⟨pg, cg, pb, cb, pc, cc, pr, cr⟩, pe, ce, pf, cf, pd, cd⟩, rfl, hl4, ho4⟩
  have HB4 := Lib.hid (HB3.out.trans (Hq3.out.belowS (opM_touch ho4) (by omega)))
  obtain ⟨v4, hq4, _, _⟩ := ho4
  have HQ4 := Lib.hid hq4
  clear hl4 hq4 Hgot
  have hra : resArg ⟨true, enK 2, [], [enK 2], [enK 3], 0⟩ ⟨⟨pg, cg, pb, cb, pc, cc, pr, cr⟩, pe, ce, pf, cf, pd, cd⟩ = .agg #[.bool true, .int .i64 2, .bool false, .string ⟨#[]⟩, .string ⟨#[]⟩, .slice pg 0 cg, .slice pb 0 cb, .slice pc 0 cc, .slice pr 0 cr, .slice pe 0 ce, .slice pf 1 cf, .slice pd 1 cd, .int .u8 0] := rfl
  rw [hra]
  dsimp only
  go_upto_region 5 with (fail)
  have hal : Below w4.heap.size w4 (w4.alloc (.cells #[.bool true, .int .i64 2, .bool false, .string ⟨#[]⟩, .string ⟨#[]⟩, .slice pg 0 cg, .slice pb 0 cb, .slice pc 0 cc, .slice pr 0 cr, .slice pe 0 ce, .slice pf 1 cf, .slice pd 1 cd, .int .u8 0] 62)) := (Below.refl _ _).alloc (Nat.le_refl _) _
  have hE := (Blk.new w4 62 #[.bool true, .int .i64 2, .bool false, .string ⟨#[]⟩, .string ⟨#[]⟩, .slice pg 0 cg, .slice pb 0 cb, .slice pc 0 cc, .slice pr 0 cr, .slice pe 0 ce, .slice pf 1 cf, .slice pd 1 cd, .int .u8 0]).cell
  have HLen := Lib.hid (qLen_any _ _ _ _ _ _ _ _ (HQ4.out.still hal))
  have HB5 := Lib.hid (HB4.out.trans (hal.mono HB4.out.size))
  clear hal
  generalize w4.alloc (.cells #[.bool true, .int .i64 2, .bool false, .string ⟨#[]⟩, .string ⟨#[]⟩, .slice pg 0 cg, .slice pb 0 cb, .slice pc 0 cc, .slice pr 0 cr, .slice pe 0 ce, .slice pf 1 cf, .slice pd 1 cd, .int .u8 0] 62) = w5 at *
  go_wp2_with (go_at_call 67; refine HLen.out.mono ?_; rintro e w6 ⟨rfl, rfl⟩)
  go_ret
  exact ⟨rfl, HB5.out⟩

end Go.Proofs.Ytjfhpafaopeogaa
