/-
  The walk of QueueLives (layer 21).
-/
import Derived.Test.YtpdkoijgemgaiaaQuV
import Derived.StillTailTactics
import Derived.Deep.DeepCutAuto
import Derived.Deep.CutBlock
namespace Go.Proofs.Ytpdkoijgemgaiaa
open Go.RowKit
set_option linter.unusedVariables false
set_option linter.unusedSimpArgs false

theorem ownI_sliceU {B : Nat} {w : World} {p : Option Addr} {n c : Nat} {xs : List Int} (h : OwnI B w (.slice p n c) xs) : SliceS 1 IntU (fun _ => True) w [.slice p n c] xs := by
  obtain ⟨p', c', e, hs⟩ := h.slice IntU.still (S' := fun _ => True) (fun _ _ _ => trivial) (fun _ _ => trivial)
  rw [e]
  exact hs
theorem sameIntsU (p q : Option Addr) (n m c d : Nat) (xs : List Int) (w : World) (hx : SliceS 1 IntU (fun _ => True) w [.slice p n c] xs) (hy : SliceS 1 IntU (fun _ => True) w [.slice q m d] xs) :
    Calls Try.prog 36 #[.slice p n c, .slice q m d] w fun e w' => e = .returned (.bool true) ∧ Below w.heap.size w w' := by
  refine (equal_ints _ _ p q n m c d xs xs w hx hy).mono ?_
  rintro e w' ⟨rfl, r, rfl⟩
  exact ⟨by rw [listEq_self intEq_self], bel_drewN _ _ _ (Nat.le_refl _)⟩

/-- Between two calls. -/
def LivI (w : World) (qb xb most : Nat) (wr : World) : Prop :=
  ∃ Eq Ex vq vx L, Pair w.heap.size wr qb xb Eq Ex L L most vq vx ∧ Below w.heap.size w wr

theorem LivI.still {w wr w' : World} {qb xb most : Nat} (h : LivI w qb xb most wr) (hb : Below wr.heap.size wr w') : LivI w qb xb most w' := by
  obtain ⟨Eq, Ex, vq, vx, L, h1, h2⟩ := h
  exact ⟨Eq, Ex, vq, vx, L, h1.still hb, h2.trans (hb.mono h2.size)⟩

theorem Pair.start {w w1 w2 : World} {most : Nat} (hq : QO 30 w.heap.size w1 w.heap.size (fun _ => False) [] most (.slice none 0 0)) (hb1 : Below w.heap.size w w1)
    (hx : QO 81 w1.heap.size w2 w1.heap.size (fun _ => False) [] most (.slice none 0 0)) (hb2 : Below w1.heap.size w1 w2) : LivI w w.heap.size w1.heap.size most w2 := by
  have hz1 := hq.blk.lt
  have hz2 := hx.blk.lt
  refine ⟨fun _ => False, fun k => k < w.heap.size, .slice none 0 0, .slice none 0 0, [], ⟨hq.still hb2, ?_, fun _ e => e.elim, fun k hk => by omega, ?_, ?_, fun k hk => hk, by omega⟩, hb1.trans (hb2.mono (by omega))⟩
  · have h1 : QO 81 w.heap.size w2 w1.heap.size (fun _ => False) [] most (.slice none 0 0) := ⟨hx.blk, OwnS.empty _, by omega, hx.no, hx.noE, hx.small, hx.len, hx.lim⟩
    exact h1.weak (fun _ _ e => e.elim) (by omega)
  · rintro k (e | e | e)
    · exact e.elim
    · exact ⟨by omega, by simp [rowOf]⟩
    · simp [rowOf] at e
  · rintro k (e | e | e)
    · exact ⟨by omega, by simp [rowOf]⟩
    · exact ⟨by omega, by simp [rowOf]⟩
    · simp [rowOf] at e

set_option maxRecDepth 100000 in
set_option maxHeartbeats 10000000 in
theorem quLives_bad (most : Int) (u : Value) (w : World) (h : most < 1 ∨ 4096 < most) :
    Calls Try.prog 10 #[.int .i64 most, u] w fun e w' => e = .returned (.bool true) ∧ Below w.heap.size w w' := by
  have H1 := Lib.hid (qNew_bad most w h)
  have H2 := Lib.hid (rNew_bad most w h)
  have Haw := Lib.hid quAwake
  clear h
  go_enter Try.func10, Try.ntmps10
  go_wp2_with fail
  refine H1.out.mono ?_
  rintro e w1 ⟨rfl, rfl⟩
  go_wp2_with fail
  refine H2.out.mono ?_
  rintro e w1 ⟨rfl, rfl⟩
  go_wp2_with fail
  refine (Haw.out _).mono ?_
  rintro e w1 ⟨rfl, hb⟩
  have HB := Lib.hid hb
  clear hb
  go_wp2_with fail
  go_ret
  exact ⟨rfl, HB.out⟩

set_option maxRecDepth 100000 in
set_option maxHeartbeats 10000000 in
theorem quLives_ok (most : Nat) (p : Option Addr) (n c : Nat) (ks : List QDoV) (w : World) (h1 : 1 ≤ most) (h2 : most ≤ 4096) (hx : SliceS 2 QDoS (fun k => k < w.heap.size) w [.slice p n c] ks) :
    Calls Try.prog 10 #[.int .i64 (most : Int), .slice p n c] w fun e w' => e = .returned (.bool true) ∧ Below w.heap.size w w' := by
  obtain ⟨rfl, hlc, hcm⟩ := hx.len
  unfold maxLen at hcm
  have Hx := Lib.hid hx
  have H1 := Lib.hid (qNew_ok most w h1 h2)
  have H2 := Lib.hid (fun w0 => rNew_ok most w0 h1 h2)
  have Haw := Lib.hid quAwake
  clear hx
  go_enter Try.func10, Try.ntmps10
  go_wp2_with fail
  refine H1.out.mono ?_
  rintro e w1 ⟨rfl, hq1, hb1⟩
  have HQ1 := Lib.hid (And.intro hq1 hb1)
  clear hq1 hb1 H1
  go_wp2_with fail
  refine (H2.out _).mono ?_
  rintro e w2 ⟨rfl, hx2, hb2⟩
  have HI := Lib.hid (Pair.start HQ1.out.1 HQ1.out.2 hx2 hb2)
  have HB2 := Lib.hid (HQ1.out.2.trans (hb2.mono HQ1.out.2.size))
  have HF := Lib.hid (qFew_any _ _ _ _ _ _ (SliceS.below QDoS.still Hx.out HB2.out))
  clear hx2 hb2 HQ1 H2
  generalize w1.heap.size = xb at *
  go_wp2_with fail
  refine HF.out.mono ?_
  rintro e w3 ⟨b, rfl, hf, hb3⟩
  have HI3 := Lib.hid (HI.out.still hb3)
  have HB3 := Lib.hid (HB2.out.trans (hb3.mono HB2.out.size))
  clear hb3 HI HB2 HF
  cases b with
  | false =>
    clear hf
    go_wp2_with (go_at_call 22; refine (Haw.out _).mono ?_; rintro e w4 ⟨rfl, hb⟩)
    go_ret
    exact ⟨rfl, HB3.out.trans (hb.mono HB3.out.size)⟩
  | true =>
    have Hfew := Lib.hid (hf rfl)
    clear hf HB3
    go_wp2_with fail
    go_loopw [48] (fun i wr => ∃ k : Nat, k ≤ ks.length ∧ i = .int .i64 k ∧ LivI w w.heap.size xb most wr) (fun i _ => ks.length - (intOf i).toNat)
    case atStart => exact ⟨0, Nat.zero_le _, rfl, HI3.out⟩
    case round =>
      clear HI3
      obtain ⟨k, hk, rfl, hI⟩ := hrel
      have HI := Lib.hid hI
      clear hI
      by_cases hlt : k < ks.length
      · obtain ⟨Eq, Ex, vq, vx, L, hP, hB⟩ := HI.out
        obtain ⟨db, d0, eq, ed, rfl, hS, hbl, hse, c0, c1⟩ := qdo_at (SliceS.below QDoS.still Hx.out hB) hlt
        have Hfx := Lib.hid (Hfew.out _ (List.getElem_mem hlt))
        have HP := Lib.hid hP
        have HB := Lib.hid hB
        have HSE := Lib.hid hse
        have hbs := hB.size
        have hwk : IntKind.i64.wrap ((k : Int) + 1) = (k : Int) + 1 := by rw [IntKind.wrap_i64]; omega
        clear hP hB hse HI hS
        generalize ks[k] = x at *
        obtain ⟨op, ents⟩ := x
        dsimp only at *
        have hlti : (k : Int) < (ks.length : Int) := by omega
        go_upto_region 10 with (fail)
        have hal : Below wr.heap.size wr (wr.alloc (.cells #[.int .i64 op, .slice eq ents.length ed] 77)) := (Below.refl _ _).alloc (Nat.le_refl _) _
        have HP4 := Lib.hid (HP.out.still hal)
        have HB4 := Lib.hid (HB.out.trans (hal.mono hbs))
        have HSE4 := Lib.hid (HSE.out.below EnS.still hal)
        have hd4 := (Blk.new wr 77 #[.int .i64 op, .slice eq ents.length ed]).cell
        have hdd : wr.heap.size ≠ w.heap.size ∧ wr.heap.size ≠ xb ∧ rowOf vq ≠ some wr.heap.size ∧ rowOf vx ≠ some wr.heap.size := ⟨by have := HP.out.q.blk.lt; omega, by have := HP.out.x.blk.lt; omega, fun e => by have := (HP.out.q.own.row _ e).2; omega, fun e => by have := (HP.out.x.own.row _ e).2; omega⟩
        have hdl : wr.heap.size < (wr.alloc (.cells #[.int .i64 op, .slice eq ents.length ed] 77)).heap.size := by simp
        have Hdd := Lib.hid hdd
        clear hal HP HB HSE c0 c1 hdd
        generalize wr.alloc (.cells #[.int .i64 op, .slice eq ents.length ed] 77) = w4 at *
        generalize wr.heap.size = dd at *
        have hsm : ∀ x ∈ ents, EnSmall x := fun x hx => (Hfx.out.2 x hx).small
        have Hsm := Lib.hid hsm
        clear hsm
        have HB4s := HB4.out.size
        go_upto_block 2 with (fail)
        go_cut [11] (fun v wx => v = .bool true ∧ LivI w w.heap.size xb most wx)
        case first =>
          by_cases hop : op = 0 ∨ op = 1 ∨ op = 2
          · have hbd : Below w4.heap.size w4 w4.drew := below_dropN (Below.refl _ _) (Nat.le_refl _)
            have HPd := Lib.hid (HP4.out.still hbd)
            have HSd := Lib.hid (HSE4.out.below EnS.still hbd)
            have HPu := Lib.hid (pair_push_q HPd.out HSd.out Hsm.out h1)
            have HBd := Lib.hid (HB4.out.trans (hbd.mono HB4s))
            have hdd' : dd < w4.drew.heap.size := hdl
            have hS4 : w4.drew.cell? ⟨dd, 1, none⟩ = some (.slice eq ents.length ed) := by have := hd4 1; simpa using this
            clear hbd
            generalize hzz : pushZ L ents most = z at *
            generalize hll : pushL L ents most = L2 at *
            have Hzz := Lib.hid hzz
            have Hll := Lib.hid hll
            clear hzz hll
            rcases hop with rfl | rfl | rfl
            all_goals
              go_upto_region 16 with (fail)
              go_region_held3 (fun w' => w'.cell? ⟨dd, 1, none⟩ = some (.slice eq ents.length ed))
                (first | exact hS6 | exact hS5 | exact hS4 | go_keep)
                (first
                  | (go_at_call 17; refine HPu.out.mono ?_; rintro e w5 ⟨rfl, Eq5, vq5, hp5, hT5⟩; have HP5 := Lib.hid hp5; have hb5 := HPd.out.belowq hT5; have hz5 := hT5.size; have HB5 := Lib.hid (HBd.out.trans hb5); have hS5 := (hT5.cell (x := ⟨dd, 1, none⟩) hdd' (fun e => by rcases e with e | e; (· exact Hdd.out.1 e); (· exact Hdd.out.2.2.1 e))).trans hS4; have HPx := Lib.hid (pair_push_x hp5 ((SliceS.still EnS.still) _ _ _ _ _ _ HSd.out (Kept.below hb5 (fun k _ hk => ⟨hk, hk⟩))) Hsm.out); rw [Hzz.out, Hll.out] at HPx; clear hp5 hT5 hb5)
                  | (go_at_call 49; refine HPx.out.mono ?_; rintro e w6 ⟨rfl, Ex6, vx6, hp6, hT6⟩; have HL6 := Lib.hid (show LivI w w.heap.size xb most w6 from ⟨_, _, _, _, _, hp6, HB5.out.trans (HP5.out.belowx hT6)⟩); have hS6 := (hT6.cell (x := ⟨dd, 1, none⟩) (Nat.lt_of_lt_of_le hdd' hz5) (fun e => by rcases e with e | e; (· exact Hdd.out.2.1 e); (· exact Hdd.out.2.2.2 e))).trans hS5; clear hp6 hT6))
              go_wp2_with fail
              all_goals
                go_meet
                exact ⟨by simp, HL6.out⟩
          · have hn0 : (op == 0) = false := by simp; omega
            have hn1 : (op == 1) = false := by simp; omega
            have hn2 : (op == 2) = false := by simp; omega
            clear hop
            by_cases hop3 : op = 3
            · subst hop3
              clear hn0 hn1 hn2
              go_wp2_with fail
              refine (pair_pop_q HP4.out).mono ?_
              rintro e w5 ⟨a, G, rfl, hl5, hG5, Eq5, vq5, hp5, hb5⟩
              have hy : ∃ y, popX L = y := ⟨_, rfl⟩
              obtain ⟨y, hy⟩ := hy
              have hpb : ∃ z, popB L = z := ⟨_, rfl⟩
              obtain ⟨zb, hpb⟩ := hpb
              have hL2 : ∃ z, popL L = z := ⟨_, rfl⟩
              obtain ⟨L2, hL2⟩ := hL2
              rw [hy] at hl5
              rw [hL2] at hp5
              rw [hy, hpb]
              have Hy := Lib.hid (And.intro hy (And.intro hpb hL2))
              have HP5 := Lib.hid hp5
              have HB5 := Lib.hid (HB4.out.trans hb5)
              have HL5 := Lib.hid hl5
              have HG5 := Lib.hid hG5
              have hz5 := HB5.out.size
              clear hy hpb hL2 hp5 hb5 hl5 hG5
              obtain ⟨yk, yh, yf, yd, yg, yb, yc, yr⟩ := y
              obtain ⟨pg, cg, pb, cb, pc, cc, pr, cr⟩ := a
              unfold enArg
              dsimp only at *
              go_upto_region 19 with (fail)
              have hal5 : Below w5.heap.size w5 (w5.alloc (.cells #[.int .i64 yk, .bool yh, .string yf, .string yd, .slice pg yg.length cg, .slice pb yb.length cb, .slice pc yc.length cc, .slice pr yr.length cr] 26)) := (Below.refl _ _).alloc (Nat.le_refl _) _
              have HE5 : Hid (Blk (w5.alloc (.cells #[.int .i64 yk, .bool yh, .string yf, .string yd, .slice pg yg.length cg, .slice pb yb.length cb, .slice pc yc.length cc, .slice pr yr.length cr] 26)) w5.heap.size 26 #[.int .i64 yk, .bool yh, .string yf, .string yd, .slice pg yg.length cg, .slice pb yb.length cb, .slice pc yc.length cc, .slice pr yr.length cr]) := Lib.hid (Blk.new _ _ _)
              have HP6 := Lib.hid (HP5.out.still hal5)
              have HB6 := Lib.hid (HB5.out.trans (hal5.mono hz5))
              have hpx := pair_pop_x HP6.out (HL5.out.keep (Kept.all hal5)) HG5.out
              rw [Hy.out.1, Hy.out.2.1, Hy.out.2.2] at hpx
              have HPx := Lib.hid hpx
              have hg5 : w5.heap.size ≠ xb ∧ rowOf vx ≠ some w5.heap.size := ⟨by have := HP5.out.x.blk.lt; omega, fun e => by have := (HP5.out.x.own.row _ e).2; omega⟩
              have Hg5 := Lib.hid hg5
              clear hpx hal5 hg5 HP5
              generalize w5.alloc (.cells #[.int .i64 yk, .bool yh, .string yf, .string yd, .slice pg yg.length cg, .slice pb yb.length cb, .slice pc yc.length cc, .slice pr yr.length cr] 26) = w6 at *
              generalize w5.heap.size = g5 at *
              go_wp2_with fail
              refine HPx.out.mono ?_
              rintro e w7 ⟨a7, rfl, hl7, hl57, Ex7, vx7, hp7, hT7⟩
              have hE7 := hT7.blk HE5.out (fun e => by rcases e with e | e; (· exact Hg5.out.1 e); (· exact Hg5.out.2 e))
              have hb7 := HP6.out.belowx hT7
              obtain ⟨qg, dg, qb', db', qc, dc, qr, dr⟩ := a7
              unfold enArg
              dsimp only
              have hSm := Lib.hid (fun w8 (h8 : Below w7.heap.size w7 w8) => qSame_any _ _ ⟨yk, yh, yf, yd, yg, yb, yc, yr⟩ ⟨yk, yh, yf, yd, yg, yb, yc, yr⟩ ⟨pg, cg, pb, cb, pc, cc, pr, cr⟩ ⟨qg, dg, qb', db', qc, dc, qr, dr⟩ w8 (hl57.keep (Kept.all h8)) (hl7.keep (Kept.all h8)))
              rw [enEq_self] at hSm
              unfold enArg at hSm
              dsimp only at hSm
              have hal7 : Below w7.heap.size w7 (w7.alloc (.cells #[.int .i64 yk, .bool yh, .string yf, .string yd, .slice qg yg.length dg, .slice qb' yb.length db', .slice qc yc.length dc, .slice qr yr.length dr] 26)) := (Below.refl _ _).alloc (Nat.le_refl _) _
              have HS8 := Lib.hid (hSm.out _ hal7)
              have hc8 := (hE7.alloc (.cells #[.int .i64 yk, .bool yh, .string yf, .string yd, .slice qg yg.length dg, .slice qb' yb.length db', .slice qc yc.length dc, .slice qr yr.length dr] 26)).cell
              have hd8 := (Blk.new w7 26 #[.int .i64 yk, .bool yh, .string yf, .string yd, .slice qg yg.length dg, .slice qb' yb.length db', .slice qc yc.length dc, .slice qr yr.length dr]).cell
              have HI8 : Hid (LivI w w.heap.size xb most (w7.alloc (.cells #[.int .i64 yk, .bool yh, .string yf, .string yd, .slice qg yg.length dg, .slice qb' yb.length db', .slice qc yc.length dc, .slice qr yr.length dr] 26))) := Lib.hid ⟨_, _, _, _, _, hp7.still hal7, (HB6.out.trans hb7).trans (hal7.mono (HB6.out.trans hb7).size)⟩
              clear hl7 hl57 hp7 hT7 hE7 hb7 hal7 hSm HPx
              go_upto_region 20 with (fail)
              generalize w7.alloc (.cells #[.int .i64 yk, .bool yh, .string yf, .string yd, .slice qg yg.length dg, .slice qb' yb.length db', .slice qc yc.length dc, .slice qr yr.length dr] 26) = w8 at *
              generalize w7.heap.size = g7 at *
              have hzz : (zb == zb) = true := by simp
              go_wp2_with (go_at_call 25; refine HS8.out.mono ?_; rintro e w9 ⟨rfl, hb9⟩; have HI9 := Lib.hid (HI8.out.still hb9); clear hb9)
              all_goals
                go_meet
                exact ⟨by simp, HI9.out⟩
            · have hn3 : (op == 3) = false := by simp; omega
              by_cases hop4 : op = 4
              · subst hop4
                go_wp2_with fail
                refine (pair_skip_q HP4.out).mono ?_
                rintro e w5 ⟨p5, n5, c5, G5, rfl, hl5, hG5, Eq5, vq5, hp5, hb5⟩
                have hz5 := (HB4.out.trans hb5).size
                have HB5 := Lib.hid (HB4.out.trans hb5)
                have HPx := Lib.hid (pair_skip_x hp5 hl5 hG5)
                clear hl5 hG5 hp5 hb5
                generalize L.take (ahead isSync L) = ys at *
                generalize L.drop (ahead isSync L) = L2 at *
                go_wp2_with fail
                refine HPx.out.mono ?_
                rintro e w6 ⟨p6, n6, c6, rfl, hl6, hl56, Ex6, vx6, hp6, hb6⟩
                have HB6 := Lib.hid (HB5.out.trans hb6)
                have HA := Lib.hid (rAll_same _ _ _ _ _ _ _ _ _ _ hl56 hl6)
                have HI6 : Hid (LivI w w.heap.size xb most w6) := Lib.hid ⟨_, _, _, _, _, hp6, HB6.out⟩
                clear hl6 hl56 hp6 hb6 HPx
                go_wp2_with fail
                refine HA.out.mono ?_
                rintro e w7 ⟨rfl, hb7⟩
                have HI7 := Lib.hid (HI6.out.still hb7)
                clear hb7
                go_wp2_with fail
                go_meet
                exact ⟨rfl, HI7.out⟩
              · have hn4 : (op == 4) = false := by simp; omega
                go_wp2_with fail
                refine (pair_hide_q HP4.out).mono ?_
                rintro e w5 ⟨p5, n5, c5, rfl, hi5, Eq5, vq5, hp5, hb5⟩
                have HB5 := Lib.hid (HB4.out.trans hb5)
                have HPx := Lib.hid (pair_hide_x hp5 hi5 (fun k hk => by have h5 := (hi5.row k hk).1; exact ⟨by have := HP4.out.x.blk.lt; omega, fun e => by have := (HP4.out.x.own.row _ e).2; omega⟩))
                clear hi5 hp5 hb5
                generalize idsL L = is at *
                generalize L.map hideE = L2 at *
                go_wp2_with fail
                refine HPx.out.mono ?_
                rintro e w6 ⟨p6, n6, c6, rfl, hi6, hi56, Ex6, vx6, hp6, hb6⟩
                have HB6 := Lib.hid (HB5.out.trans hb6)
                have HA := Lib.hid (sameIntsU _ _ _ _ _ _ _ _ (ownI_sliceU hi56) (ownI_sliceU hi6))
                have HI6 : Hid (LivI w w.heap.size xb most w6) := Lib.hid ⟨_, _, _, _, _, hp6, HB6.out⟩
                clear hi6 hi56 hp6 hb6 HPx
                go_wp2_with fail
                refine HA.out.mono ?_
                rintro e w7 ⟨rfl, hb7⟩
                have HI7 := Lib.hid (HI6.out.still hb7)
                clear hb7
                go_wp2_with fail
                go_meet
                exact ⟨rfl, HI7.out⟩
        case rest =>
          obtain ⟨rfl, Eq9, Ex9, vq9, vx9, L9, hP9, hB9⟩ := hcut
          have HP9 := Lib.hid hP9
          have HB9 := Lib.hid hB9
          clear HP4 HB4 HSE4 hd4 hdl Hsm HB4s Hdd hP9 hB9
          obtain ⟨px, cx, rfl, _⟩ := HP9.out.x.slice
          cases L9 with
          | nil =>
            have Hh := Lib.hid (qHead_none (some ⟨w.heap.size, 0, none⟩) wc (qLen_any _ _ _ _ _ _ _ _ (HP9.out.q.still ((Below.refl _ _).alloc (Nat.le_refl _) _))))
            unfold enArg enZero enZeroP at Hh
            dsimp only [List.length_nil] at Hh ⊢
            go_wp2_with fail
            refine Hh.out.mono ?_
            rintro e w5 ⟨rfl, hb5⟩
            go_upto_region 24 with (fail)
            have hb7 := hb5.alloc hb5.size (.cells #[.int .i64 0, .bool false, .string ⟨#[]⟩, .string ⟨#[]⟩, .slice none 0 0, .slice none 0 0, .slice none 0 0, .slice none 0 0] 26)
            have HP7 := Lib.hid (HP9.out.still hb7)
            have HI7 : Hid (LivI w w.heap.size xb most (w5.alloc (.cells #[.int .i64 0, .bool false, .string ⟨#[]⟩, .string ⟨#[]⟩, .slice none 0 0, .slice none 0 0, .slice none 0 0, .slice none 0 0] 26))) := Lib.hid ⟨_, _, _, _, _, HP7.out, HB9.out.trans (hb7.mono HB9.out.size)⟩
            clear hb5 hb7 Hh HP9 HB9
            generalize w5.alloc (.cells #[.int .i64 0, .bool false, .string ⟨#[]⟩, .string ⟨#[]⟩, .slice none 0 0, .slice none 0 0, .slice none 0 0, .slice none 0 0] 26) = w7 at *
            have hx7 := HP7.out.x.blk.cell
            obtain ⟨pq, cq, rfl, _⟩ := HP7.out.q.slice
            have hq7 := HP7.out.q.blk.cell
            dsimp only [List.length_nil] at hx7 hq7
            have HLi : Hid (∀ r, Calls Try.prog 21 #[.pointer (some ⟨w.heap.size, 0, none⟩)] (w7.drewN r) fun e w' => e = .returned (.slice none 0 0) ∧ w' = w7.drewN r) := Lib.hid (fun r => qList_empty _ _ _ _ _ hq7)
            have HLe : Hid (∀ r, Calls Try.prog 20 #[.pointer (some ⟨w.heap.size, 0, none⟩)] (w7.drewN r) fun e w' => e = .returned (.int .i64 0) ∧ w' = w7.drewN r) := Lib.hid (fun r => qLen_empty _ _ _ _ _ hq7)
            have HAl : Hid (∀ r, Calls Try.prog 51 #[.slice none 0 0, .slice px 0 cx] (w7.drewN r) fun e w' => e = .returned (.bool true) ∧ w' = w7.drewN r) := Lib.hid (fun r => rAll_empty _ _ _ _ _)
            clear hq7
            go_quiet ((first
              | (go_at_call 21; exact Calls.quiet_of_same (HLi.out _))
              | (go_at_call 20; exact Calls.quiet_of_same (HLe.out _))
              | (go_at_call 51; exact Calls.quiet_of_same (HAl.out _))))
            all_goals
              go_wp2_with fail
              go_roundw
              case rel => exact ⟨k + 1, by omega, by go_num, HI7.out.still (bel_drewN _ _ _ (Nat.le_refl _))⟩
              case measure => simp [intOf]; omega
          | cons y L9 =>
            have Hh := Lib.hid (qHead_some _ _ _ _ _ _ _ _ HP9.out.q)
            go_wp2_with fail
            refine Hh.out.mono ?_
            rintro e w5 ⟨a, rfl, hl5, hb5⟩
            have HL5 := Lib.hid hl5
            have Hb5 := Lib.hid hb5
            clear hl5 hb5 Hh
            obtain ⟨n, hn⟩ : ∃ n, n = (y :: L9).length := ⟨_, rfl⟩
            obtain ⟨lb, lo, a2, hpx, hS2, hbl2, hL2, c0, c1, c2, c3, c4, c5, c6, c7⟩ := en_at (HP9.out.x.src) (k := 0) (by simp)
            subst hpx
            simp only [List.getElem_cons_zero, Nat.zero_mul, Nat.add_zero] at c0 c1 c2 c3 c4 c5 c6 c7 hL2
            have HL2 := Lib.hid hL2
            have hn0 : (0 : Int) < (n : Int) := by rw [hn]; simp
            have hnn : 0 < n := by omega
            have hx0 := HP9.out.x.blk.cell
            rw [← hn] at hx0
            have Hn := Lib.hid hn
            clear hL2 hS2 hn
            obtain ⟨yk, yh, yf, yd, yg, yb, yc, yr⟩ := y
            obtain ⟨pg, cg, pb, cb, pc, cc, pr, cr⟩ := a
            obtain ⟨qg, dg, qb', db', qc, dc, qr, dr⟩ := a2
            unfold enArg
            dsimp only at *
            go_upto_region 24 with (fail)
            have hb7 := Hb5.out.alloc Hb5.out.size (.cells #[.int .i64 yk, .bool yh, .string yf, .string yd, .slice pg yg.length cg, .slice pb yb.length cb, .slice pc yc.length cc, .slice pr yr.length cr] 26)
            have hal7 : Below w5.heap.size w5 (w5.alloc (.cells #[.int .i64 yk, .bool yh, .string yf, .string yd, .slice pg yg.length cg, .slice pb yb.length cb, .slice pc yc.length cc, .slice pr yr.length cr] 26)) := (Below.refl _ _).alloc (Nat.le_refl _) _
            have HP7 := Lib.hid (HP9.out.still hb7)
            have HI7 : Hid (LivI w w.heap.size xb most (w5.alloc (.cells #[.int .i64 yk, .bool yh, .string yf, .string yd, .slice pg yg.length cg, .slice pb yb.length cb, .slice pc yc.length cc, .slice pr yr.length cr] 26))) := Lib.hid ⟨_, _, _, _, _, HP7.out, HB9.out.trans (hb7.mono HB9.out.size)⟩
            have HL57 := Lib.hid (HL5.out.keep (Kept.all hal7))
            have HL27 := Lib.hid (HL2.out.keep (Kept.all hb7))
            have hg7 := (Blk.new w5 26 #[.int .i64 yk, .bool yh, .string yf, .string yd, .slice pg yg.length cg, .slice pb yb.length cb, .slice pc yc.length cc, .slice pr yr.length cr]).cell
            have HGB : w5.heap.size < (w5.alloc (.cells #[.int .i64 yk, .bool yh, .string yf, .string yd, .slice pg yg.length cg, .slice pb yb.length cb, .slice pc yc.length cc, .slice pr yr.length cr] 26)).heap.size := by simp
            have HXB := HP7.out.x.blk.lt
            have HLB : lb < (w5.alloc (.cells #[.int .i64 yk, .bool yh, .string yf, .string yd, .slice pg yg.length cg, .slice pb yb.length cb, .slice pc yc.length cc, .slice pr yr.length cr] 26)).heap.size := by have := hb7.size; omega
            have hx7 := fun i => (hb7.cell (p := ⟨xb, i, none⟩) HP9.out.x.blk.lt).trans (hx0 i)
            have c0 := (hb7.cell (p := ⟨lb, lo, none⟩) hbl2).trans c0
            have c1 := (hb7.cell (p := ⟨lb, lo + 1, none⟩) hbl2).trans c1
            have c2 := (hb7.cell (p := ⟨lb, lo + 2, none⟩) hbl2).trans c2
            have c3 := (hb7.cell (p := ⟨lb, lo + 3, none⟩) hbl2).trans c3
            have c4 := (hb7.cell (p := ⟨lb, lo + 4, none⟩) hbl2).trans c4
            have c5 := (hb7.cell (p := ⟨lb, lo + 5, none⟩) hbl2).trans c5
            have c6 := (hb7.cell (p := ⟨lb, lo + 6, none⟩) hbl2).trans c6
            have c7 := (hb7.cell (p := ⟨lb, lo + 7, none⟩) hbl2).trans c7
            clear hb7 hal7 HP9 HB9 hx0 HL5 Hb5 HL2
            generalize w5.alloc (.cells #[.int .i64 yk, .bool yh, .string yf, .string yd, .slice pg yg.length cg, .slice pb yb.length cb, .slice pc yc.length cc, .slice pr yr.length cr] 26) = w7 at *
            have HK : Hid (∀ wx, Below w7.heap.size w7 wx → ((∀ i, wx.cell? ⟨xb, i, none⟩ = (#[.slice (some ⟨lb, lo, none⟩) n cx, .int .i64 (most : Int)] : Array Value)[i]?) ∧ (∀ i, wx.cell? ⟨w5.heap.size, i, none⟩ = (#[.int .i64 yk, .bool yh, .string yf, .string yd, .slice pg yg.length cg, .slice pb yb.length cb, .slice pc yc.length cc, .slice pr yr.length cr] : Array Value)[i]?)) ∧ (wx.cell? ⟨lb, lo, none⟩ = some (.int .i64 yk) ∧ wx.cell? ⟨lb, lo + 1, none⟩ = some (.bool yh) ∧ wx.cell? ⟨lb, lo + 2, none⟩ = some (.string yf) ∧ wx.cell? ⟨lb, lo + 3, none⟩ = some (.string yd) ∧ wx.cell? ⟨lb, lo + 4, none⟩ = some (.slice qg yg.length dg) ∧ wx.cell? ⟨lb, lo + 5, none⟩ = some (.slice qb' yb.length db') ∧ wx.cell? ⟨lb, lo + 6, none⟩ = some (.slice qc yc.length dc) ∧ wx.cell? ⟨lb, lo + 7, none⟩ = some (.slice qr yr.length dr))) := Lib.hid (fun wx hb => ⟨⟨fun i => (hb.cell (p := ⟨xb, i, none⟩) HXB).trans (hx7 i), fun i => (hb.cell (p := ⟨w5.heap.size, i, none⟩) HGB).trans (hg7 i)⟩, (hb.cell (p := ⟨lb, lo, none⟩) HLB).trans c0, (hb.cell (p := ⟨lb, lo + 1, none⟩) HLB).trans c1, (hb.cell (p := ⟨lb, lo + 2, none⟩) HLB).trans c2, (hb.cell (p := ⟨lb, lo + 3, none⟩) HLB).trans c3, (hb.cell (p := ⟨lb, lo + 4, none⟩) HLB).trans c4, (hb.cell (p := ⟨lb, lo + 5, none⟩) HLB).trans c5, (hb.cell (p := ⟨lb, lo + 6, none⟩) HLB).trans c6, (hb.cell (p := ⟨lb, lo + 7, none⟩) HLB).trans c7⟩)
            have hbd : Below w7.heap.size w7 w7.drew := below_dropN (Below.refl _ _) (Nat.le_refl _)
            have Hb0 := Lib.hid hbd
            have hS0 := HK.out w7 (Below.refl _ _)
            have Hli := Lib.hid (qList_any _ _ _ _ _ _ _ _ (HP7.out.still hbd).q)
            have HSm := Lib.hid (fun wx (hb : Below w7.heap.size w7 wx) => rSame_any _ _ ⟨yk, yh, yf, yd, yg, yb, yc, yr⟩ ⟨yk, yh, yf, yd, yg, yb, yc, yr⟩ ⟨pg, cg, pb, cb, pc, cc, pr, cr⟩ ⟨qg, dg, qb', db', qc, dc, qr, dr⟩ wx (HL57.out.keep (Kept.all hb)) (HL27.out.keep (Kept.all hb)))
            rw [enEq_self] at HSm
            unfold enArg at HSm
            dsimp only at HSm
            have HAl0 : Hid (∀ wl pl cl, Below w7.heap.size w7 wl → SliceS 8 EnS (fun _ => True) wl [.slice pl n cl] (⟨yk, yh, yf, yd, yg, yb, yc, yr⟩ :: L9) → Calls Try.prog 51 #[.slice pl n cl, .slice (some ⟨lb, lo, none⟩) n cx] wl fun e w' => e = .returned (.bool true) ∧ Below wl.heap.size wl w') := Lib.hid (fun wl pl cl hb hs => by
              have h := (HP7.out.still hb).x.src
              rw [← Hn.out] at h
              exact rAll_same _ _ _ _ _ _ _ _ _ wl hs h)
            have HLe0 : Hid (∀ wl, Below w7.heap.size w7 wl → Calls Try.prog 20 #[.pointer (some ⟨w.heap.size, 0, none⟩)] wl fun e w' => e = .returned (.int .i64 (n : Int)) ∧ wl = w') := Lib.hid (fun wl hb => by
              have h := qLen_any _ _ _ _ _ _ _ _ (HP7.out.still hb).q
              rw [← Hn.out] at h
              exact h)
            clear hbd HL57 HL27 hx7 hg7 c0 c1 c2 c3 c4 c5 c6 c7
            go_region_held3 (fun w' => ((∀ i, w'.cell? ⟨xb, i, none⟩ = (#[.slice (some ⟨lb, lo, none⟩) n cx, .int .i64 (most : Int)] : Array Value)[i]?) ∧ (∀ i, w'.cell? ⟨w5.heap.size, i, none⟩ = (#[.int .i64 yk, .bool yh, .string yf, .string yd, .slice pg yg.length cg, .slice pb yb.length cb, .slice pc yc.length cc, .slice pr yr.length cr] : Array Value)[i]?)) ∧ (w'.cell? ⟨lb, lo, none⟩ = some (.int .i64 yk) ∧ w'.cell? ⟨lb, lo + 1, none⟩ = some (.bool yh) ∧ w'.cell? ⟨lb, lo + 2, none⟩ = some (.string yf) ∧ w'.cell? ⟨lb, lo + 3, none⟩ = some (.string yd) ∧ w'.cell? ⟨lb, lo + 4, none⟩ = some (.slice qg yg.length dg) ∧ w'.cell? ⟨lb, lo + 5, none⟩ = some (.slice qb' yb.length db') ∧ w'.cell? ⟨lb, lo + 6, none⟩ = some (.slice qc yc.length dc) ∧ w'.cell? ⟨lb, lo + 7, none⟩ = some (.slice qr yr.length dr)))
              (first | exact hSs | exact hSa | exact hSl | exact hS0 | go_keep)
              (first
                | (go_at_call 21; refine Hli.out.mono ?_; rintro e wl ⟨vl, rfl, hol, hbl9⟩; obtain ⟨pl, cl, rfl, hsl⟩ := hol.slice EnS.still (S' := fun _ => True) (fun _ _ _ => trivial) (fun _ _ => trivial); rw [← Hn.out] at hsl ⊢; have Hbl := Lib.hid (Hb0.out.trans (hbl9.mono Hb0.out.size)); have hSl := HK.out wl Hbl.out; have HAl := Lib.hid (HAl0.out wl pl cl Hbl.out hsl); clear hol hbl9 hsl)
                | (go_at_call 51; refine HAl.out.mono ?_; rintro e wa ⟨rfl, hba⟩; have Hba := Lib.hid (Hbl.out.trans (hba.mono Hbl.out.size)); have hSa := HK.out wa Hba.out; have HLe := Lib.hid (HLe0.out wa Hba.out); clear hba)
                | (go_at_call 20; refine HLe.out.mono ?_; rintro e wn ⟨rfl, rfl⟩)
                | (go_at_call 35; refine (HSm.out _ Hba.out).mono ?_; rintro e ws ⟨rfl, hbs9⟩; have Hbs := Lib.hid (Hba.out.trans (hbs9.mono Hba.out.size)); have hSs := HK.out ws Hbs.out; clear hbs9))
            all_goals
              go_wp2_with fail
              go_roundw
              case rel => exact ⟨k + 1, by omega, by go_num, HI7.out.still Hbs.out⟩
              case measure => simp [intOf]; omega
      · obtain rfl : k = ks.length := by omega
        obtain ⟨Eq, Ex, vq, vx, L, hP, hB⟩ := HI.out
        have HB := Lib.hid hB
        clear hP hB
        go_wp2_with (go_at_call 22; refine (Haw.out _).mono ?_; rintro e w4 ⟨rfl, hb⟩)
        go_ret
        exact ⟨rfl, HB.out.trans (hb.mono HB.out.size)⟩

theorem quLives_any (most : Int) (p : Option Addr) (n c : Nat) (ks : List QDoV) (w : World) (hx : SliceS 2 QDoS (fun k => k < w.heap.size) w [.slice p n c] ks) :
    Calls Try.prog 10 #[.int .i64 most, .slice p n c] w fun e w' => e = .returned (.bool true) ∧ Below w.heap.size w w' := by
  by_cases h : most < 1 ∨ 4096 < most
  · exact quLives_bad most _ w h
  · obtain ⟨m, rfl⟩ := Int.eq_ofNat_of_zero_le (show 0 ≤ most by omega)
    exact quLives_ok m p n c ks w (by omega) (by omega) hx

end Go.Proofs.Ytpdkoijgemgaiaa
