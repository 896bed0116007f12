/-
  Ground: RcG, RcH.
-/
import Derived.Test.YtacnmdlefonjmaaGreatPcZP17
import Derived.Test.YtacnmdlefonjmaaGreatPcZP18
import Derived.BigQuiet
import Derived.StillTailTactics
import Derived.Deep.DeepCutAuto
import Derived.Deep.CutBlock
/-
  Both clients side by side (layer 39).
-/
namespace Go.Proofs.YtacnmdlefonjmaaGreat
open Go.RowKit
set_option linter.unusedVariables false
set_option linter.unusedSimpArgs false

theorem frNew_bad (most room : Int) (hello : Bool) (w : World) (h : most < 4 ∨ 65536 < most ∨ room ≤ most ∨ 262144 < room) :
    Calls Tryz.prog 21 #[.int .i64 most, .int .i64 room, .bool hello] w fun e w' => e = .returned (.tuple #[.pointer none, .int .i64 1]) ∧ w = w' := by
  have hc : most < 4 ∨ (¬ most < 4 ∧ 65536 < most) ∨ (¬ most < 4 ∧ ¬ 65536 < most ∧ room ≤ most) ∨ (¬ most < 4 ∧ ¬ 65536 < most ∧ ¬ room ≤ most ∧ 262144 < room) := by omega
  clear h
  rcases hc with h | ⟨h1, h2⟩ | ⟨h1, h2, h3⟩ | ⟨h1, h2, h3, h4⟩
  all_goals
    go_enter Tryz.func21, Tryz.ntmps21
    go_wp2
    go_ret2
    exact ⟨rfl, rfl⟩
theorem clNew_bad (most room : Int) (w : World) (h : most < 4 ∨ 65536 < most ∨ room ≤ most ∨ 262144 < room) :
    Calls Tryz.prog 5 #[.int .i64 most, .int .i64 room] w fun e w' => e = .returned (.tuple #[.pointer none, .int .i64 1]) ∧ w = w' := by
  have HN := Lib.hid (frNew_bad most room true w h)
  clear h
  go_enter Tryz.func5, Tryz.ntmps5
  go_wp2_with fail
  refine HN.out.mono ?_
  rintro e w1 ⟨rfl, rfl⟩
  go_wp2_with fail
  go_ret2
  exact ⟨rfl, rfl⟩

theorem restL_le (t : Bool) (most : Nat) (L : List UInt8) (wrong : Int) : (restL t most L wrong).length ≤ L.length := by
  unfold restL nextL
  split
  · rename_i h
    split at h
    · simp only [Option.some.injEq, Prod.mk.injEq] at h
      rw [← h.2.2, List.length_drop]
      omega
    · cases h
  · exact Nat.le_refl _

/-- Both clients, side by side. -/
structure Duo (B : Nat) (w : World) (c1 s1 : Nat) (t : Bool) (L1 : List UInt8) (e1 : Int) (v1 : Value) (c2 s2 : Nat) (h : Bool) (L2 : List UInt8) (e2 : Int) (v2 : Value) (most room : Nat) : Prop where
  c : ClO B w c1 s1 t L1 most room e1 v1
  d : RcO B w c2 s2 h L2 most room e2 v2
  n1 : c1 ≠ c2
  n2 : c1 ≠ s2
  n3 : s1 ≠ c2
  n4 : s1 ≠ s2
  r1 : ∀ k, rowOf v1 = some k → k ≠ c2 ∧ k ≠ s2
  r2 : ∀ k, rowOf v2 = some k → k ≠ c1 ∧ k ≠ s1
  r3 : ∀ k, rowOf v1 = some k → rowOf v2 ≠ some k
section
variable {B : Nat} {w w' : World} {c1 s1 : Nat} {t t' : Bool} {L1 L1' : List UInt8} {e1 e1' : Int} {v1 v1' : Value} {c2 s2 : Nat} {h h' : Bool} {L2 L2' : List UInt8} {e2 e2' : Int} {v2 v2' : Value} {most room : Nat}
theorem Duo.still (H : Duo B w c1 s1 t L1 e1 v1 c2 s2 h L2 e2 v2 most room) (hb : Below w.heap.size w w') : Duo B w' c1 s1 t L1 e1 v1 c2 s2 h L2 e2 v2 most room :=
  ⟨H.c.still hb, H.d.still hb, H.n1, H.n2, H.n3, H.n4, H.r1, H.r2, H.r3⟩
theorem Duo.cstep (H : Duo B w c1 s1 t L1 e1 v1 c2 s2 h L2 e2 v2 most room) (hc : ClO B w' c1 s1 t' L1' most room e1' v1') (hr : ∀ k, rowOf v1' = some k → rowOf v1 = some k ∨ w.heap.size ≤ k) (hT : Touch (fun i => i = c1 ∨ i = s1 ∨ rowOf v1 = some i) w w') :
    Duo B w' c1 s1 t' L1' e1' v1' c2 s2 h L2 e2 v2 most room := by
  have l1 := H.d.blk.lt
  have l2 := H.d.fr.blk.lt
  have n1 := H.n1; have n2 := H.n2; have n3 := H.n3; have n4 := H.n4
  refine ⟨hc, H.d.touch hT ?_ ?_ ?_, n1, n2, n3, n4, ?_, H.r2, ?_⟩
  · rintro (e | e | e)
    · omega
    · omega
    · exact (H.r1 _ e).1 rfl
  · rintro (e | e | e)
    · omega
    · omega
    · exact (H.r1 _ e).2 rfl
  · rintro k hk (e | e | e)
    · exact (H.r2 k hk).1 e
    · exact (H.r2 k hk).2 e
    · exact H.r3 k e hk
  · intro k hk
    rcases hr k hk with e | e
    · exact H.r1 k e
    · exact ⟨by omega, by omega⟩
  · intro k hk e'
    rcases hr k hk with e | e
    · exact H.r3 k e e'
    · have := (H.d.fr.own.row k e').2; omega
theorem Duo.dstep (H : Duo B w c1 s1 t L1 e1 v1 c2 s2 h L2 e2 v2 most room) (hd : RcO B w' c2 s2 h' L2' most room e2' v2') (hr : ∀ k, rowOf v2' = some k → rowOf v2 = some k ∨ w.heap.size ≤ k) (hT : Touch (fun i => i = s2) w w') :
    Duo B w' c1 s1 t L1 e1 v1 c2 s2 h' L2' e2' v2' most room := by
  have l1 := H.c.blk.lt
  have l2 := H.c.fr.blk.lt
  have n1 := H.n1; have n2 := H.n2; have n3 := H.n3; have n4 := H.n4
  refine ⟨H.c.touch hT (by omega) (by omega) (fun k hk e => (H.r1 k hk).2 e), hd, n1, n2, n3, n4, H.r1, ?_, ?_⟩
  · intro k hk
    rcases hr k hk with e | e
    · exact H.r2 k e
    · exact ⟨by omega, by omega⟩
  · intro k hk e'
    rcases hr k e' with e | e
    · exact H.r3 k hk e
    · have := (H.c.fr.own.row k hk).2; omega
/-- What such steps leave as it was. -/
theorem Duo.belowc (H : Duo B w c1 s1 t L1 e1 v1 c2 s2 h L2 e2 v2 most room) (hT : Touch (fun i => i = c1 ∨ i = s1 ∨ rowOf v1 = some i) w w') (hB : B ≤ w.heap.size) : Below B w w' :=
  hT.below hB (fun k e => by
    have := H.c.cB; have := H.c.fr.sB
    rcases e with e | e | e
    · omega
    · omega
    · exact (H.c.fr.own.row k e).1)
theorem Duo.belowd (H : Duo B w c1 s1 t L1 e1 v1 c2 s2 h L2 e2 v2 most room) (hT : Touch (fun i => i = s2) w w') (hB : B ≤ w.heap.size) : Below B w w' :=
  hT.below hB (fun k e => by have := H.d.fr.sB; omega)
end
/-- Between two calls. -/
def LivC (w : World) (c1 s1 c2 s2 most room : Nat) (wr : World) : Prop :=
  ∃ h L e v1 v2, Duo w.heap.size wr c1 s1 (!h) L e v1 c2 s2 h L e v2 most room ∧ L.length ≤ room ∧ Below w.heap.size w wr
theorem LivC.still {w wr w' : World} {c1 s1 c2 s2 most room : Nat} (H : LivC w c1 s1 c2 s2 most room wr) (hb : Below wr.heap.size wr w') : LivC w c1 s1 c2 s2 most room w' := by
  obtain ⟨h, L, e, v1, v2, h1, h2, h3⟩ := H
  exact ⟨h, L, e, v1, v2, h1.still hb, h2, h3.trans (hb.mono h3.size)⟩
theorem LivC.start {w w1 w2 : World} {c1 s1 c2 s2 most room : Nat} (hc : ClO w.heap.size w1 c1 s1 false [] most room 0 (.slice none 0 0)) (hb1 : Below w.heap.size w w1) (hd : RcO w1.heap.size w2 c2 s2 true [] most room 0 (.slice none 0 0)) (hb2 : Below w1.heap.size w1 w2) : LivC w c1 s1 c2 s2 most room w2 := by
  have l1 := hc.blk.lt
  have l2 := hc.fr.blk.lt
  have l3 := hd.cB
  have l4 := hd.fr.sB
  have l5 := hb1.size
  refine ⟨true, [], 0, .slice none 0 0, .slice none 0 0, ⟨hc.still hb2, ⟨hd.blk, ⟨hd.fr.blk, OwnR.base hd.fr.own l5, by omega, hd.fr.no⟩, by omega, hd.ne, hd.no⟩, by omega, by omega, by omega, by omega, fun k hk => by simp [rowOf] at hk, fun k hk => by simp [rowOf] at hk, fun k hk => by simp [rowOf] at hk⟩, Nat.zero_le _, hb1.trans (hb2.mono l5)⟩

end Go.Proofs.YtacnmdlefonjmaaGreat

/-
  The walk of ClientLives (layer 39; printed by gen_rch.py).
-/
namespace Go.Proofs.YtacnmdlefonjmaaGreat
open Go.RowKit
set_option linter.unusedVariables false
set_option linter.unusedSimpArgs false

set_option maxRecDepth 100000 in
set_option maxHeartbeats 10000000 in
theorem clientLives_bad (most room : Int) (u : Value) (w : World) (h : most < 4 ∨ 65536 < most ∨ room ≤ most ∨ 262144 < room) :
    Calls Tryz.prog 3 #[.int .i64 most, .int .i64 room, u] w fun e w' => e = .returned (.bool true) ∧ Below w.heap.size w w' := by
  have H1 := Lib.hid (clNew_bad most room w h)
  have H2 := Lib.hid (rcNew_bad most room w h)
  have Haw := Lib.hid clAwake
  clear h
  go_enter Tryz.func3, Tryz.ntmps3
  go_wp2_with fail
  refine H1.out.mono ?_
  rintro e w1 ⟨rfl, rfl⟩
  go_wp2_with fail
  refine H2.out.mono ?_
  rintro e w1 ⟨rfl, rfl⟩
  go_wp2_with fail
  refine (Haw.out _).mono ?_
  rintro e w1 ⟨rfl, hb⟩
  have HB := Lib.hid hb
  clear hb
  go_wp2_with fail
  go_ret
  exact ⟨rfl, HB.out⟩

set_option maxRecDepth 100000 in
set_option maxHeartbeats 16000000 in
theorem clientLives_ok (most room : Nat) (p : Option Addr) (n c : Nat) (ks : List CDoV) (w : World) (h1 : 4 ≤ most) (h2 : most ≤ 65536) (h3 : most < room) (h4 : room ≤ 262144) (hx : SliceS 2 CDoS (fun k => k < w.heap.size) w [.slice p n c] ks) :
    Calls Tryz.prog 3 #[.int .i64 (most : Int), .int .i64 (room : Int), .slice p n c] w fun e w' => e = .returned (.bool true) ∧ Below w.heap.size w w' := by
  obtain ⟨rfl, hlc, hcm⟩ := hx.len
  unfold maxLen at hcm
  have Hx := Lib.hid hx
  have H1 := Lib.hid (clNew_ok most room w h1 h2 h3 h4)
  have H2 := Lib.hid (fun w0 => rcNew_ok most room w0 h1 h2 h3 h4)
  have Haw := Lib.hid clAwake
  clear hx
  go_enter Tryz.func3, Tryz.ntmps3
  go_wp2_with fail
  refine H1.out.mono ?_
  rintro e w1 ⟨c1, s1, rfl, hq1, hb1⟩
  have HQ1 := Lib.hid (And.intro hq1 hb1)
  clear hq1 hb1 H1
  go_wp2_with fail
  refine (H2.out _).mono ?_
  rintro e w2 ⟨c2, s2, rfl, hx2, hb2⟩
  have HI := Lib.hid (LivC.start HQ1.out.1 HQ1.out.2 hx2 hb2)
  have HB2 := Lib.hid (HQ1.out.2.trans (hb2.mono HQ1.out.2.size))
  have HF := Lib.hid (cFew_any _ _ _ _ _ _ (SliceS.below CDoS.still Hx.out HB2.out))
  clear hx2 hb2 HQ1 H2
  go_wp2_with fail
  refine HF.out.mono ?_
  rintro e w3 ⟨b, rfl, hb3⟩
  have HI3 := Lib.hid (HI.out.still hb3)
  have HB3 := Lib.hid (HB2.out.trans (hb3.mono HB2.out.size))
  clear hb3 HI HB2 HF
  cases b with
  | false =>
    go_wp2_with (go_at_call 8; refine (Haw.out _).mono ?_; rintro e w4 ⟨rfl, hb⟩)
    go_ret
    exact ⟨rfl, HB3.out.trans (hb.mono HB3.out.size)⟩
  | true =>
    clear HB3
    go_wp2_with fail
    go_loopw [46] (fun i wr => ∃ k : Nat, k ≤ ks.length ∧ i = .int .i64 k ∧ LivC w c1 s1 c2 s2 most room wr) (fun i _ => ks.length - (intOf i).toNat)
    case atStart => exact ⟨0, Nat.zero_le _, rfl, HI3.out⟩
    case round =>
      clear HI3
      obtain ⟨k, hk, rfl, hI⟩ := hrel
      have HI := Lib.hid hI
      clear hI
      by_cases hlt : k < ks.length
      · obtain ⟨h, L, er, v1, v2, hP, hLr, hB⟩ := HI.out
        obtain ⟨db, d0, q, d, rfl, hS, hbl, hse, c0, c1'⟩ := cdo_at (SliceS.below CDoS.still Hx.out hB) hlt
        have HP := Lib.hid hP
        have HB := Lib.hid hB
        have HSE := Lib.hid hse
        have hbs := hB.size
        have hwk : IntKind.i64.wrap ((k : Int) + 1) = (k : Int) + 1 := by rw [IntKind.wrap_i64]; omega
        clear hP hB hse HI hS
        generalize ks[k] = x at *
        obtain ⟨op, l⟩ := x
        dsimp only at *
        have hlti : (k : Int) < (ks.length : Int) := by omega
        go_upto_region 11 with (fail)
        have hal : Below wr.heap.size wr (wr.alloc (.cells #[.int .i64 op, .slice q l.length d] 34)) := (Below.refl _ _).alloc (Nat.le_refl _) _
        have HP4 := Lib.hid (HP.out.still hal)
        have HB4 := Lib.hid (HB.out.trans (hal.mono hbs))
        have HSE4 := Lib.hid (BytesS.still _ _ _ _ _ _ (BytesS.still _ _ _ _ _ _ HSE.out (Kept.below hal (S' := fun k => k < w.heap.size) (fun k hk hs => ⟨hs, by omega⟩))) (Kept.all (Below.refl _ _)))
        have hd4 := (Blk.new wr 34 #[.int .i64 op, .slice q l.length d]).cell
        have hdd : wr.heap.size ≠ c1 ∧ wr.heap.size ≠ s1 ∧ wr.heap.size ≠ c2 ∧ wr.heap.size ≠ s2 ∧ rowOf v1 ≠ some wr.heap.size ∧ rowOf v2 ≠ some wr.heap.size := ⟨by have := HP.out.c.blk.lt; omega, by have := HP.out.c.fr.blk.lt; omega, by have := HP.out.d.blk.lt; omega, by have := HP.out.d.fr.blk.lt; omega, fun e => by have := (HP.out.c.fr.own.row _ e).2; omega, fun e => by have := (HP.out.d.fr.own.row _ e).2; omega⟩
        have hdl : wr.heap.size < (wr.alloc (.cells #[.int .i64 op, .slice q l.length d] 34)).heap.size := by simp
        have Hdd := Lib.hid hdd
        clear hal HP HB HSE c0 c1' hdd
        generalize wr.alloc (.cells #[.int .i64 op, .slice q l.length d] 34) = w4 at *
        generalize wr.heap.size = dd at *
        have HB4s := HB4.out.size
        have hr0 : 0 < room := by omega
        have hLL : L.length ≤ 262144 := by omega
        go_upto_block 2 with (fail)
        go_cut [13] (fun v wx => v = .bool true ∧ LivC w c1 s1 c2 s2 most room wx)
        case first =>
          by_cases hop : op = 0 ∨ op = 1 ∨ op = 2
          · have hbd : Below w4.heap.size w4 w4.drew := belowDr w4
            have HPd := Lib.hid (HP4.out.still hbd)
            have hSd := (BytesS.still _ _ _ _ _ _ HSE4.out (Kept.below hbd (S' := fun k => k < w.heap.size) (fun k hk hs => ⟨hs, by omega⟩)))
            have HSd := Lib.hid hSd
            have HBd := Lib.hid (HB4.out.trans (hbd.mono HB4s))
            have hdd' : dd < w4.drew.heap.size := hdl
            have hzd : w.heap.size ≤ w4.drew.heap.size := HB4s
            have hS4 : w4.drew.cell? ⟨dd, 1, none⟩ = some (.slice q l.length d) ∧ w4.drew.cell? ⟨c2, 0, none⟩ = some (.pointer (some ⟨s2, 0, none⟩)) := ⟨by have := hd4 1; simpa using this, by have := HPd.out.d.blk.cell 0; simpa using this⟩
            clear hbd
            by_cases hfit : L.length + l.length ≤ room
            · have HPu := Lib.hid (clFeed_ok _ _ _ _ _ _ _ _ _ q l d _ HPd.out.c hr0 h4 hfit hzd hSd.parts.2.2.2)
              clear hSd
              rcases hop with rfl | rfl | rfl
              all_goals
                go_upto_region 17 with (fail)
                go_region_held3 (fun w' => w'.cell? ⟨dd, 1, none⟩ = some (.slice q l.length d) ∧ w'.cell? ⟨c2, 0, none⟩ = some (.pointer (some ⟨s2, 0, none⟩)))
                  (first | exact hS6 | exact hS5 | exact hS4 | go_keep)
                  (first
                    | (go_at_call 9; refine HPu.out.mono ?_; rintro e w5 ⟨v5, rfl, hc5, hr5, hT5⟩; have hT5' : Touch (fun i => i = c1 ∨ i = s1 ∨ rowOf v1 = some i) w4.drew w5 := hT5.mono (fun i _ e => .inr e); have hP5 := HPd.out.cstep hc5 hr5 hT5'; have HP5 := Lib.hid hP5; have hb5 := HPd.out.belowc hT5' hzd; have HB5 := Lib.hid (HBd.out.trans hb5); have hz5 := hT5.size; have hS5 : w5.cell? ⟨dd, 1, none⟩ = some (.slice q l.length d) ∧ w5.cell? ⟨c2, 0, none⟩ = some (.pointer (some ⟨s2, 0, none⟩)) := ⟨(hT5'.cell (x := ⟨dd, 1, none⟩) hdd' (fun e => by rcases e with e | e | e; (· exact Hdd.out.1 e); (· exact Hdd.out.2.1 e); (· exact Hdd.out.2.2.2.2.1 e))).trans hS4.1, by have := hP5.d.blk.cell 0; simpa using this⟩; have hl5 := (BytesS.still _ _ _ _ _ _ HSd.out (Kept.below hb5 (S' := fun k => k < w.heap.size) (fun k hk hs => ⟨hs, by omega⟩))).parts.2.2.2; have HPx := Lib.hid (rfFeed_ok _ _ _ _ _ _ _ _ q l d _ hP5.d.fr h4 hfit (Nat.le_trans hzd hz5) hl5); clear hc5 hr5 hT5 hT5' hP5 hb5 hl5)
                    | (go_at_call 10; refine HPx.out.mono ?_; rintro e w6 ⟨v6, rfl, hf6, hr6, hT6⟩; have hP6 := HP5.out.dstep (HP5.out.d.step hf6 (fun k hk => .inr (hr6 k hk)) hT6) (fun k hk => .inr (hr6 k hk)) hT6; have HL6 := Lib.hid (show LivC w c1 s1 c2 s2 most room w6 from ⟨_, _, _, _, _, hP6, by rw [List.length_append]; exact hfit, HB5.out.trans (HP5.out.belowd hT6 (Nat.le_trans hzd hz5))⟩); have hS6 : w6.cell? ⟨dd, 1, none⟩ = some (.slice q l.length d) ∧ w6.cell? ⟨c2, 0, none⟩ = some (.pointer (some ⟨s2, 0, none⟩)) := ⟨(hT6.cell (x := ⟨dd, 1, none⟩) (Nat.lt_of_lt_of_le hdd' hz5) (fun e => Hdd.out.2.2.2.1 e)).trans hS5.1, by have := hP6.d.blk.cell 0; simpa using this⟩; clear hf6 hr6 hT6 hP6))
                go_wp2_with fail
                all_goals
                  go_meet
                  exact ⟨by simp, HL6.out⟩
            · have hfull : room < L.length + l.length := by omega
              have HPu := Lib.hid (clFeed_full _ _ _ _ _ _ _ _ _ q l.length d _ HPd.out.c hr0 h4 hLr hfull)
              have HPx := Lib.hid (fun r => rfFeed_full _ _ _ _ _ _ _ _ q l.length d (w4.drewN r) (HP4.out.d.fr.still (belowDN w4 r)) h4 hLr hfull)
              have HLd := Lib.hid (show LivC w c1 s1 c2 s2 most room w4 from ⟨_, _, _, _, _, HP4.out, hLr, HB4.out⟩)
              clear hSd
              rcases hop with rfl | rfl | rfl
              all_goals
                go_upto_region 17 with (fail)
                go_region_held3 (fun w' => w'.cell? ⟨dd, 1, none⟩ = some (.slice q l.length d) ∧ w'.cell? ⟨c2, 0, none⟩ = some (.pointer (some ⟨s2, 0, none⟩)))
                  (first | exact hS4 | go_keep)
                  (first
                    | (go_at_call 9; refine HPu.out.mono ?_; rintro e w5 ⟨rfl, r5, rfl⟩)
                    | (go_at_call 10; refine (HPx.out _).mono ?_; rintro e w6 ⟨rfl, r6, rfl⟩))
                go_wp2_with fail
                all_goals
                  go_meet
                  first | exact ⟨by simp, HLd.out.still (belowDN _ _)⟩ | exact ⟨by simp, (HLd.out.still (belowDN _ _)).still (belowDN _ _)⟩
          · have hn0 : (op == 0) = false := by simp; omega
            have hn1 : (op == 1) = false := by simp; omega
            have hn2 : (op == 2) = false := by simp; omega
            clear hop
            by_cases hop3 : op = 3
            · subst hop3
              clear hn0 hn1 hn2
              go_wp2_with fail
              refine (clPeek_any _ _ _ _ _ _ _ _ _ _ HP4.out.c hr0 hLL h2).mono ?_
              rintro e w5 ⟨⟨pi, ci, ai, rfl, hs5, hl5⟩, hc5, hT5⟩
              have hT5' : Touch (fun i => i = c1 ∨ i = s1 ∨ rowOf v1 = some i) w4 w5 := hT5.mono (fun i _ e => .inr (.inl e))
              have hP5 := HP4.out.cstep hc5 (fun k hk => .inl hk) hT5'
              have HB5 := Lib.hid (HB4.out.trans (HP4.out.belowc hT5' HB4s))
              have HP5 := Lib.hid hP5
              have HS5 := Lib.hid (And.intro hs5 hl5)
              have hs2 := HP4.out.d.fr.blk.lt
              clear hs5 hl5 hc5 hT5 hT5' hP5
              obtain ⟨pk, hpk⟩ : ∃ pk, pk = peekV (!h) most L er := ⟨_, rfl⟩
              rw [← hpk] at HS5 ⊢
              have Hpk := Lib.hid hpk
              clear hpk
              go_wp2_with fail
              refine (rcPeek_any _ _ _ _ _ _ _ _ _ _ HP5.out.d hLL h2).mono ?_
              rintro e w6 ⟨⟨pj, cj, aj, rfl, hs6, hl6⟩, hd6, hT6⟩
              have hP6 := HP5.out.dstep hd6 (fun k hk => .inl hk) hT6
              rw [← Hpk.out] at hs6 hl6 ⊢
              have hz5 := HB5.out.size
              have HL6 := Lib.hid (show LivC w c1 s1 c2 s2 most room w6 from ⟨_, _, _, _, _, hP6, hLr, HB5.out.trans (HP5.out.belowd hT6 hz5)⟩)
              have HSm := Lib.hid (itSame_true _ _ pk pi pj ci cj ai aj w6 ((SliceS.still PrS.still) _ _ _ _ _ _ HS5.out.1 (Kept.touch hT6 (S' := fun j => w4.heap.size ≤ j) (fun j _ h => ⟨h, by omega⟩))) hs6 (HS5.out.2.keep (Kept.touch hT6 (S' := fun j => w4.heap.size ≤ j) (fun j _ h => ⟨h, by omega⟩))) hl6)
              clear hs6 hl6 hd6 hT6 hP6
              go_wp2_with fail
              refine HSm.out.mono ?_
              rintro e w7 ⟨rfl, hb7⟩
              have HL7 := Lib.hid (HL6.out.still hb7)
              clear hb7
              go_wp2_with fail
              go_meet
              exact ⟨rfl, HL7.out⟩
            · have hn3 : (op == 3) = false := by simp; omega
              by_cases hop4 : op = 4 ∨ op = 5
              · rcases hop4 with rfl | rfl
                all_goals
                  clear hn0 hn1 hn2 hn3 hop3
                  go_wp2_with fail
                  refine (clTake_any _ _ _ _ _ _ _ _ _ _ HP4.out.c hr0 hLL h2).mono ?_
                  rintro e w5 ⟨⟨pi, ci, ai, rfl, hs5, hl5⟩, v5, hc5, hr5, hT5⟩
                  have hT5' : Touch (fun i => i = c1 ∨ i = s1 ∨ rowOf v1 = some i) w4 w5 := hT5.mono (fun i _ e => .inr e)
                  have hP5 := HP4.out.cstep hc5 (fun k hk => .inl (hr5 k hk)) hT5'
                  have HB5 := Lib.hid (HB4.out.trans (HP4.out.belowc hT5' HB4s))
                  have HP5 := Lib.hid hP5
                  have HS5 := Lib.hid (And.intro hs5 hl5)
                  have hs2 := HP4.out.d.fr.blk.lt
                  clear hs5 hl5 hc5 hr5 hT5 hT5' hP5
                  obtain ⟨pk, hpk⟩ : ∃ pk, pk = peekV (!h) most L er := ⟨_, rfl⟩
                  rw [← hpk] at HS5 ⊢
                  have Hpk := Lib.hid hpk
                  clear hpk
                  go_wp2_with fail
                  refine (rcTake_any _ _ _ _ _ _ _ _ _ _ HP5.out.d hLL h2).mono ?_
                  rintro e w6 ⟨⟨pj, cj, aj, rfl, hs6, hl6⟩, v6, hd6, hr6, hT6⟩
                  have hP6 := HP5.out.dstep hd6 hr6 hT6
                  rw [← Hpk.out] at hs6 hl6 ⊢
                  have hz5 := HB5.out.size
                  have HL6 := Lib.hid (show LivC w c1 s1 c2 s2 most room w6 from ⟨_, _, _, _, _, hP6, Nat.le_trans (restL_le _ _ _ _) hLr, HB5.out.trans (HP5.out.belowd hT6 hz5)⟩)
                  have HSm := Lib.hid (itSame_true _ _ pk pi pj ci cj ai aj w6 ((SliceS.still PrS.still) _ _ _ _ _ _ HS5.out.1 (Kept.touch hT6 (S' := fun j => w4.heap.size ≤ j) (fun j _ h => ⟨h, by omega⟩))) hs6 (HS5.out.2.keep (Kept.touch hT6 (S' := fun j => w4.heap.size ≤ j) (fun j _ h => ⟨h, by omega⟩))) hl6)
                  clear hs6 hl6 hd6 hr6 hT6 hP6
                  go_wp2_with fail
                  refine HSm.out.mono ?_
                  rintro e w7 ⟨rfl, hb7⟩
                  have HL7 := Lib.hid (HL6.out.still hb7)
                  clear hb7
                  go_wp2_with fail
                  go_meet
                  exact ⟨rfl, HL7.out⟩
              · have hn4 : (op == 4) = false := by simp; omega
                have hn5 : (op == 5) = false := by simp; omega
                go_wp2_with fail
                refine (clBegin_any _ _ _ _ _ _ _ _ _ _ HP4.out.c hr0).mono ?_
                rintro e w5 ⟨rfl, hc5, hT5⟩
                have hT5' : Touch (fun i => i = c1 ∨ i = s1 ∨ rowOf v1 = some i) w4 w5 := hT5.mono (fun i _ e => e.elim .inl (fun e => .inr (.inl e)))
                have hP5 := HP4.out.cstep hc5 (fun k hk => .inl hk) hT5'
                have HB5 := Lib.hid (HB4.out.trans (HP4.out.belowc hT5' HB4s))
                have HP5 := Lib.hid hP5
                have hk2 := hP5.d.blk.cell
                have hf2 := hP5.d.fr.blk.cell
                have hz2 := hP5.d.fr.blk.frozen 3
                have hz5 := HB5.out.size
                have hT6 : Touch (fun i => i = s2) w5 (w5.setCell ⟨s2, 3, none⟩ (.bool false)) := (Touch.refl (fun i => i = s2) w5).setCell (x := ⟨s2, 3, none⟩) (fun _ => rfl) _
                have HL6 := Lib.hid (show LivC w c1 s1 c2 s2 most room (w5.setCell ⟨s2, 3, none⟩ (.bool false)) from ⟨false, _, _, _, _, hP5.dstep (hP5.d.step (hP5.d.fr.setHello false) (fun k hk => .inl hk) hT6) (fun k hk => .inl hk) hT6, hLr, HB5.out.trans (hP5.belowd hT6 hz5)⟩)
                clear hc5 hT5 hT5' hP5 hT6
                go_wp2_with fail
                go_meet
                exact ⟨rfl, HL6.out⟩
        case rest =>
          obtain ⟨rfl, hI9⟩ := hcut
          have HI9 := Lib.hid hI9
          obtain ⟨h9, L9, e9, v9, u9', hP9, hL9, hB9⟩ := hI9
          clear HP4 HB4 HSE4 hd4 hdl HB4s Hdd hB9 hLL hLr
          obtain ⟨px, cx, rfl, _⟩ := hP9.d.fr.own.slice
          have hk2 := hP9.d.blk.cell
          have hf2 := hP9.d.fr.blk.cell
          have HSz : Hid (∀ r, Calls Tryz.prog 17 #[.pointer (some ⟨c1, 0, none⟩)] (wc.drewN r) fun e w' => e = .returned (.int .i64 (L9.length : Nat)) ∧ w' = wc.drewN r) := Lib.hid (fun r => (clSize_any _ _ _ _ _ _ _ _ _ _ (hP9.c.still (belowDN wc r)) hr0).mono (fun e w' ⟨h1, h2⟩ => ⟨h1, h2.symm⟩))
          clear hP9
          go_upto_region 23 with (fail)
          go_quiet ((go_at_call 17; exact Calls.quiet_of_same (HSz.out _)))
          all_goals
            go_wp2_with fail
            go_roundw
            case rel => exact ⟨k + 1, by omega, by go_num, HI9.out.still (belowDN _ _)⟩
            case measure => simp [intOf]; omega
      · obtain rfl : k = ks.length := by omega
        obtain ⟨h, L, er, v1, v2, hP, hLr, hB⟩ := HI.out
        have HB := Lib.hid hB
        clear hP hB
        go_wp2_with (go_at_call 8; refine (Haw.out _).mono ?_; rintro e w4 ⟨rfl, hb⟩)
        go_ret
        exact ⟨rfl, HB.out.trans (hb.mono HB.out.size)⟩

theorem clientLives_any (most room : Int) (p : Option Addr) (n c : Nat) (ks : List CDoV) (w : World) (hx : SliceS 2 CDoS (fun k => k < w.heap.size) w [.slice p n c] ks) :
    Calls Tryz.prog 3 #[.int .i64 most, .int .i64 room, .slice p n c] w fun e w' => e = .returned (.bool true) ∧ Below w.heap.size w w' := by
  by_cases h : most < 4 ∨ 65536 < most ∨ room ≤ most ∨ 262144 < room
  · exact clientLives_bad most room _ w h
  · obtain ⟨m, rfl⟩ := Int.eq_ofNat_of_zero_le (show 0 ≤ most by omega)
    obtain ⟨r, rfl⟩ := Int.eq_ofNat_of_zero_le (show 0 ≤ room by omega)
    exact clientLives_ok m r p n c ks w (by omega) (by omega) (by omega) (by omega) hx

end Go.Proofs.YtacnmdlefonjmaaGreat

