/-
  Messages of servers (layer 7): whether one may be: the program's.
-/
import Derived.Test.YthhebfknikfleaaGreatBaE
import Derived.Test.YthhebfknikfleaaGreatBaD
import Derived.Test.YthhebfknikfleaaGreatBaG
import Derived.Test.YthhebfknikfleaaGreatRgH
namespace Go.Proofs.YthhebfknikfleaaGreat
open Go.RowKit
set_option linter.unusedVariables false
set_option linter.unusedSimpArgs false

/-- A message in a block. -/
structure Ba1 (w0 w : World) (g : Nat) (x : BaV) (a : BaP) : Prop where
  b : Blk w g 39 (baCells x a)
  l : BaL (fun _ => True) w x a
  bel : Below w0.heap.size w0 w
section
variable {w0 w w' : World} {g : Nat} {x : BaV} {a : BaP}
theorem Ba1.step (h : Ba1 w0 w g x a) (hb : Below w.heap.size w w') : Ba1 w0 w' g x a := ⟨h.b.below hb h.b.lt, h.l.below hb, h.bel.trans (hb.mono h.bel.size)⟩
theorem Ba1.drew1 (h : Ba1 w0 w g x a) : Ba1 w0 (w.drewN 1) g x a := h.step (bel_drawN w 1)
theorem Ba1.start {S : Nat → Prop} {w : World} (h : BaL S w x a) : Ba1 w (w.alloc (.cells (baCells x a) 39)) w.heap.size x a := by
  have hb : Below w.heap.size w (w.alloc (.cells (baCells x a) 39)) := (Below.refl _ _).alloc (Nat.le_refl _) _
  exact ⟨Blk.new _ _ _, (h.below hb).any, hb⟩
end

theorem below_drewN' {B : Nat} (w : World) (r : Nat) (hB : B ≤ w.heap.size) : Below B w (w.drewN r) := ((Touch.refl (fun _ => False) w).drewN r).below hB (fun _ e => e.elim)

set_option maxRecDepth 100000 in
set_option maxHeartbeats 4000000 in
theorem bcheck_any (S : Nat → Prop) (x : BaV) (a : BaP) (w : World) (h : BaL S w x a) (hfb : BaB x) : Calls Tryz.prog 19 #[baArg x a] w fun e w' => e = .returned (.int .i64 (checkB x)) ∧ Below w.heap.size w w' := by
  have H0 := Lib.hid (Ba1.start h)
  have Hv : Hid (checkB x = if servK x.kind = true then (if okB x = true then 0 else 1) else 9) := Lib.hid rfl
  have Hok : Hid (okB x = ((cleanB x.tag && (cleanB x.name && cleanB x.value)) && ((colsB x.cols && (fieldsB x.fields && (valuesV x.row && between x.oids 0 4294967295))) && (inR x.n 0 4294967295 && (inR x.m 0 4294967295 && (statusB x && baEq x (keptB x))))))) := Lib.hid (by
    unfold okB listsB textsB numsB7
    generalize (cleanB x.tag && (cleanB x.name && cleanB x.value)) = a1
    generalize colsB x.cols = a2
    generalize fieldsB x.fields = a3
    generalize valuesV x.row = a4
    generalize between x.oids 0 4294967295 = a5
    generalize inR x.n 0 4294967295 = a6
    generalize inR x.m 0 4294967295 = a7
    generalize statusB x = a8
    generalize baEq x (keptB x) = a9
    cases a1 <;> cases a2 <;> cases a3 <;> cases a4 <;> cases a5 <;> cases a6 <;> cases a7 <;> cases a8 <;> cases a9 <;> rfl)
  have HKn := Lib.hid (fun w0 : World => bknown_any x.kind hfb.1 hfb.2.1 w0)
  have HT1 := Lib.hid (fun w0 : World => clean_any x.tag w0)
  have HT2 := Lib.hid (fun w0 : World => clean_any x.name w0)
  have HT3 := Lib.hid (fun w0 : World => clean_any x.value w0)
  have HI1 := Lib.hid (fun w0 : World => oid_any x.n w0)
  have HI2 := Lib.hid (fun w0 : World => oid_any x.m w0)
  have HQ1 := Lib.hid (fun w0 : World => (oid_any x.n w0).mono (fun e w' h => (⟨h.1, h.2.symm⟩ : e = .returned (.bool (inR x.n 0 4294967295)) ∧ w' = w0)))
  have HQ2 := Lib.hid (fun w0 : World => (oid_any x.m w0).mono (fun e w' h => (⟨h.1, h.2.symm⟩ : e = .returned (.bool (inR x.m 0 4294967295)) ∧ w' = w0)))
  have HO := Lib.hid (fun (w0 : World) (H : Ba1 w w0 w.heap.size x a) => boids_any _ _ _ _ _ w0 H.l.lo)
  have HD := Lib.hid (fun (w0 : World) (H : Ba1 w w0 w.heap.size x a) => bcols_any _ _ _ _ _ w0 H.l.lc)
  have HF := Lib.hid (fun (w0 : World) (H : Ba1 w w0 w.heap.size x a) => bfields_any _ _ _ _ _ w0 H.l.lf)
  have HP := Lib.hid (fun (w0 : World) (H : Ba1 w w0 w.heap.size x a) => brow_any _ _ _ _ _ w0 H.l.lr)
  have HSt := Lib.hid (fun w0 : World => status_any x a w0)
  have HOf := Lib.hid (fun (w0 : World) (H : Ba1 w w0 w.heap.size x a) => bof_any _ x a w0 H.l)
  have HSm := Lib.hid (fun (a' : BaP) (w0 : World) (H : Ba1 w w0 w.heap.size x a) hk => bsame_any _ (fun _ => True) x (keptB x) a a' w0 H.l hk)
  have HC : Hid (∀ w1 : World, Ba1 w w1 w.heap.size x a → ∀ i, w1.cell? ⟨w.heap.size, i, none⟩ = (baCells x a)[i]?) := Lib.hid (fun w1 H => H.b.cell)
  unfold KeptB at HOf
  generalize checkB x = cv at *
  generalize okB x = ov at *
  generalize servK x.kind = kv at *
  generalize cleanB x.tag = t1 at *
  generalize cleanB x.name = t2 at *
  generalize cleanB x.value = t3 at *
  generalize colsB x.cols = bd at *
  generalize fieldsB x.fields = bf at *
  generalize valuesV x.row = br at *
  generalize between x.oids 0 4294967295 = bo at *
  generalize inR x.n 0 4294967295 = bn at *
  generalize inR x.m 0 4294967295 = bm at *
  generalize statusB x = stv at *
  generalize baEq x (keptB x) = sv at *
  generalize keptB x = kx at *
  obtain ⟨xk, xs, xt, xn, xv, xa, xb, xo, xc, xr, xf⟩ := x
  obtain ⟨apo, aco, apc, acc, apr, acr, apf, acf⟩ := a
  clear h hfb
  unfold baArg at *
  dsimp only at *
  generalize hKXA : kx = kx' at *
  clear hKXA
  unfold baCells at HC HOf HSm HSt ⊢
  dsimp only at HC HOf HSm HSt ⊢
  go_enter Tryz.func19, Tryz.ntmps19
  go_upto_region 1 with (fail)
  unfold baCells at H0
  dsimp only at H0
  generalize w.alloc (.cells #[.int .u8 xk, .int .u8 xs, .string xt, .string xn, .string xv, .int .i64 xa, .int .i64 xb, .slice apo xo.length aco, .slice apc xc.length acc, .slice apr xr.length acr, .slice apf xf.length acf] 39) = w1 at *
  have hc1 := HC.out w1 H0.out
  go_wp2_with fail
  refine (HKn.out _).mono ?_
  rintro e w2 ⟨rfl, hb⟩
  have H2 := Lib.hid (H0.out.step hb)
  have hc2 := HC.out w2 H2.out
  clear hb hc1
  cases kv with
  | false =>
    have Hv2 : Hid (cv = 9) := Lib.hid (by rw [Hv.out]; rfl)
    go_wp2_with fail
    go_ret
    exact ⟨ret_int Hv2.out.symm, H2.out.bel⟩
  | true =>
    have Hv2 : Hid (cv = if ov = true then 0 else 1) := Lib.hid (by rw [Hv.out]; rfl)
    obtain ⟨tv, htv⟩ : ∃ tv, tv = (t1 && (t2 && t3)) := ⟨_, rfl⟩
    have Htv := Lib.hid htv
    obtain ⟨lv, hlv⟩ : ∃ lv, lv = (bd && (bf && (br && bo))) := ⟨_, rfl⟩
    have Hlv := Lib.hid hlv
    rw [← hlv, ← htv] at Hok
    clear hlv htv Hv HKn
    go_upto_region 3 with fail
    go_cut [3] (fun v wx => v = .bool tv ∧ wx = w2)
    case first =>
      go_wp2_with fail
      refine (HT1.out _).mono ?_
      rintro e w3 ⟨rfl, rfl⟩
      cases t1 with
      | false =>
        go_wp2_with fail
        go_meet
        exact ⟨by rw [Htv.out]; rfl, rfl⟩
      | true =>
        go_wp2_with fail
        refine (HT2.out _).mono ?_
        rintro e w3 ⟨rfl, rfl⟩
        cases t2 with
        | false =>
          go_wp2_with fail
          go_meet
          exact ⟨by rw [Htv.out]; rfl, rfl⟩
        | true =>
          go_wp2_with fail
          refine (HT3.out _).mono ?_
          rintro e w3 ⟨rfl, rfl⟩
          go_wp2_with fail
          go_meet
          exact ⟨by rw [Htv.out]; rfl, rfl⟩
    case rest =>
      obtain ⟨rfl, rfl⟩ := hcut
      go_upto_region 4 with fail
      go_cut [4] (fun v wx => v = .bool lv ∧ Ba1 w wx w.heap.size ⟨xk, xs, xt, xn, xv, xa, xb, xo, xc, xr, xf⟩ ⟨apo, aco, apc, acc, apr, acr, apf, acf⟩)
      case first =>
        go_wp2_with fail
        refine (HD.out _ H2.out).mono ?_
        rintro e w3 ⟨rfl, hb⟩
        have H3 := Lib.hid (H2.out.step hb)
        have hc3 := HC.out w3 H3.out
        clear hb hc2
        cases bd with
        | false =>
          go_wp2_with fail
          go_meet
          exact ⟨by rw [Hlv.out]; rfl, H3.out⟩
        | true =>
          go_wp2_with fail
          refine (HF.out _ H3.out).mono ?_
          rintro e w4 ⟨rfl, hb⟩
          have H4 := Lib.hid (H3.out.step hb)
          have hc4 := HC.out w4 H4.out
          clear hb hc3
          cases bf with
          | false =>
            go_wp2_with fail
            go_meet
            exact ⟨by rw [Hlv.out]; rfl, H4.out⟩
          | true =>
            go_wp2_with fail
            refine (HP.out _ H4.out).mono ?_
            rintro e w5 ⟨rfl, hb⟩
            have H5 := Lib.hid (H4.out.step hb)
            have hc5 := HC.out w5 H5.out
            clear hb hc4
            cases br with
            | false =>
              go_wp2_with fail
              go_meet
              exact ⟨by rw [Hlv.out]; rfl, H5.out⟩
            | true =>
              go_wp2_with fail
              refine (HO.out _ H5.out).mono ?_
              rintro e w6 ⟨rfl, hb⟩
              have H6 := Lib.hid (H5.out.step hb)
              have hc6 := HC.out w6 H6.out
              clear hb hc5
              go_wp2_with fail
              go_meet
              exact ⟨by rw [Hlv.out]; rfl, H6.out⟩
      case rest =>
        obtain ⟨rfl, hf⟩ := hcut
        have H3 := Lib.hid hf
        have hc3 := HC.out wc H3.out
        clear hf hc2 H2 HO HD HF HP HT1 HT2 HT3
        cases tv with
        | false =>
          go_wp2_with fail
          go_quiet (fail)
          go_wp2_with fail
          go_ret
          exact ⟨ret_int (by rw [Hv2.out, Hok.out]; simp), H3.out.bel.trans (below_drewN' _ _ H3.out.bel.size)⟩
        | true =>
          cases lv with
          | false =>
            go_wp2_with fail
            go_quiet (fail)
            go_wp2_with fail
            go_ret
            exact ⟨ret_int (by rw [Hv2.out, Hok.out]; simp), H3.out.bel.trans (below_drewN' _ _ H3.out.bel.size)⟩
          | true =>
            cases bn with
            | false =>
              go_wp2_with fail
              go_quiet ((go_at_call 61; exact Calls.quiet_of_same (HQ1.out _)))
              go_wp2_with fail
              go_ret
              exact ⟨ret_int (by rw [Hv2.out, Hok.out]; simp), H3.out.bel.trans (below_drewN' _ _ H3.out.bel.size)⟩
            | true =>
              cases bm with
              | false =>
                go_wp2_with fail
                go_quiet (first | (go_at_call 61; exact Calls.quiet_of_same (HQ1.out _)) | (go_at_call 61; exact Calls.quiet_of_same (HQ2.out _)))
                go_wp2_with fail
                go_ret
                exact ⟨ret_int (by rw [Hv2.out, Hok.out]; simp), H3.out.bel.trans (below_drewN' _ _ H3.out.bel.size)⟩
              | true =>
                cases stv with
                | false =>
                  go_upto_region 5 with fail
                  refine wp_region_held_drew (S := (fun w' => ∀ i, w'.cell? ⟨w.heap.size, i, none⟩ = (#[.int .u8 xk, .int .u8 xs, .string xt, .string xn, .string xv, .int .i64 xa, .int .i64 xb, .slice apo xo.length aco, .slice apc xc.length acc, .slice apr xr.length acr, .slice apf xf.length acf] : Array Value)[i]?)) (by kernel_rfl) (hc3) (fun hHeld => ?_)
                  refine wpAnyH_takeD (i := 0) (v := ?vb1_0) rfl rfl (by kernel_rfl) (by kernel_rfl) (by kernel_rfl) (fun _ _ _ h => h) (by rfl) ?yb1_0 (by assumption) ?rb1_0
                  case yb1_0 => (intro w hSw; (try dsimp only at hSw); go_simp; try (with_reducible rfl))
                  try simp only [Act.put, List.setIfInBounds_toArray, List.set_cons_zero, List.set_cons_succ]
                  refine wpAnyH_takeD (i := 1) (v := ?vb1_1) rfl rfl (by kernel_rfl) (by kernel_rfl) (by kernel_rfl) (fun _ _ _ h => h) (by rfl) ?yb1_1 (by assumption) ?rb1_1
                  case yb1_1 => (intro w hSw; (try dsimp only at hSw); go_simp; try (with_reducible rfl))
                  try simp only [Act.put, List.setIfInBounds_toArray, List.set_cons_zero, List.set_cons_succ]
                  refine wpAnyH_takeD (i := 2) (v := ?vb1_2) rfl rfl (by kernel_rfl) (by kernel_rfl) (by kernel_rfl) (fun _ _ _ h => h) (by rfl) ?yb1_2 (by assumption) ?rb1_2
                  case yb1_2 => (intro w hSw; (try dsimp only at hSw); go_simp; try (with_reducible rfl))
                  try simp only [Act.put, List.setIfInBounds_toArray, List.set_cons_zero, List.set_cons_succ]
                  refine wpAnyH_takeD (i := 3) (v := ?vb1_3) rfl rfl (by kernel_rfl) (by kernel_rfl) (by kernel_rfl) (fun _ _ _ h => h) (by rfl) ?yb1_3 (by assumption) ?rb1_3
                  case yb1_3 => (intro w hSw; (try dsimp only at hSw); go_simp; try (with_reducible rfl))
                  try simp only [Act.put, List.setIfInBounds_toArray, List.set_cons_zero, List.set_cons_succ]
                  refine wpAnyH_takeD (i := 4) (v := ?vb1_4) rfl rfl (by kernel_rfl) (by kernel_rfl) (by kernel_rfl) (fun _ _ _ h => h) (by rfl) ?yb1_4 (by assumption) ?rb1_4
                  case yb1_4 => (intro w hSw; (try dsimp only at hSw); go_simp; try (with_reducible rfl))
                  try simp only [Act.put, List.setIfInBounds_toArray, List.set_cons_zero, List.set_cons_succ]
                  refine wpAnyH_takeD (i := 5) (v := ?vb1_5) rfl rfl (by kernel_rfl) (by kernel_rfl) (by kernel_rfl) (fun _ _ _ h => h) (by rfl) ?yb1_5 (by assumption) ?rb1_5
                  case yb1_5 => (intro w hSw; (try dsimp only at hSw); go_simp; try (with_reducible rfl))
                  try simp only [Act.put, List.setIfInBounds_toArray, List.set_cons_zero, List.set_cons_succ]
                  refine wpAnyH_takeD (i := 6) (v := ?vb1_6) rfl rfl (by kernel_rfl) (by kernel_rfl) (by kernel_rfl) (fun _ _ _ h => h) (by rfl) ?yb1_6 (by assumption) ?rb1_6
                  case yb1_6 => (intro w hSw; (try dsimp only at hSw); go_simp; try (with_reducible rfl))
                  try simp only [Act.put, List.setIfInBounds_toArray, List.set_cons_zero, List.set_cons_succ]
                  refine wpAnyH_takeD (i := 7) (v := ?vb1_7) rfl rfl (by kernel_rfl) (by kernel_rfl) (by kernel_rfl) (fun _ _ _ h => h) (by rfl) ?yb1_7 (by assumption) ?rb1_7
                  case yb1_7 => (intro w hSw; (try dsimp only at hSw); go_simp; try (with_reducible rfl))
                  try simp only [Act.put, List.setIfInBounds_toArray, List.set_cons_zero, List.set_cons_succ]
                  refine wpAnyH_takeD (i := 8) (v := ?vb1_8) rfl rfl (by kernel_rfl) (by kernel_rfl) (by kernel_rfl) (fun _ _ _ h => h) (by rfl) ?yb1_8 (by assumption) ?rb1_8
                  case yb1_8 => (intro w hSw; (try dsimp only at hSw); go_simp; try (with_reducible rfl))
                  try simp only [Act.put, List.setIfInBounds_toArray, List.set_cons_zero, List.set_cons_succ]
                  refine wpAnyH_callD (i := 9) rfl rfl (by kernel_rfl) (by rfl) 61 _ _ (HI1.out _) (by go_simp) ?_
                  rintro e wz ⟨rfl, rfl⟩
                  refine ⟨_, rfl, hHeld, ?_⟩
                  have hHeld := hHeld
                  try simp only [Act.put, List.setIfInBounds_toArray, List.set_cons_zero, List.set_cons_succ]
                  refine wpAnyH_takeD (i := 10) (v := ?vb1_10) rfl rfl (by kernel_rfl) (by kernel_rfl) (by kernel_rfl) (fun _ _ _ h => h) (by rfl) ?yb1_10 (by assumption) ?rb1_10
                  case yb1_10 => (intro w hSw; (try dsimp only at hSw); go_simp; try (with_reducible rfl))
                  try simp only [Act.put, List.setIfInBounds_toArray, List.set_cons_zero, List.set_cons_succ]
                  refine wpAnyH_takeD (i := 11) (v := ?vb1_11) rfl rfl (by kernel_rfl) (by kernel_rfl) (by kernel_rfl) (fun _ _ _ h => h) (by rfl) ?yb1_11 (by assumption) ?rb1_11
                  case yb1_11 => (intro w hSw; (try dsimp only at hSw); go_simp; try (with_reducible rfl))
                  try simp only [Act.put, List.setIfInBounds_toArray, List.set_cons_zero, List.set_cons_succ]
                  refine wpAnyH_takeD (i := 12) (v := ?vb1_12) rfl rfl (by kernel_rfl) (by kernel_rfl) (by kernel_rfl) (fun _ _ _ h => h) (by rfl) ?yb1_12 (by assumption) ?rb1_12
                  case yb1_12 => (intro w hSw; (try dsimp only at hSw); go_simp; try (with_reducible rfl))
                  try simp only [Act.put, List.setIfInBounds_toArray, List.set_cons_zero, List.set_cons_succ]
                  refine wpAnyH_takeD (i := 13) (v := ?vb1_13) rfl rfl (by kernel_rfl) (by kernel_rfl) (by kernel_rfl) (fun _ _ _ h => h) (by rfl) ?yb1_13 (by assumption) ?rb1_13
                  case yb1_13 => (intro w hSw; (try dsimp only at hSw); go_simp; try (with_reducible rfl))
                  try simp only [Act.put, List.setIfInBounds_toArray, List.set_cons_zero, List.set_cons_succ]
                  refine wpAnyH_takeD (i := 14) (v := ?vb1_14) rfl rfl (by kernel_rfl) (by kernel_rfl) (by kernel_rfl) (fun _ _ _ h => h) (by rfl) ?yb1_14 (by assumption) ?rb1_14
                  case yb1_14 => (intro w hSw; (try dsimp only at hSw); go_simp; try (with_reducible rfl))
                  try simp only [Act.put, List.setIfInBounds_toArray, List.set_cons_zero, List.set_cons_succ]
                  refine wpAnyH_callD (i := 15) rfl rfl (by kernel_rfl) (by rfl) 61 _ _ (HI2.out _) (by go_simp) ?_
                  rintro e wz ⟨rfl, rfl⟩
                  refine ⟨_, rfl, hHeld, ?_⟩
                  have hHeld := hHeld
                  try simp only [Act.put, List.setIfInBounds_toArray, List.set_cons_zero, List.set_cons_succ]
                  refine wpAnyH_takeD (i := 16) (v := ?vb1_16) rfl rfl (by kernel_rfl) (by kernel_rfl) (by kernel_rfl) (fun _ _ _ h => h) (by rfl) ?yb1_16 (by assumption) ?rb1_16
                  case yb1_16 => (intro w hSw; (try dsimp only at hSw); go_simp; try (with_reducible rfl))
                  try simp only [Act.put, List.setIfInBounds_toArray, List.set_cons_zero, List.set_cons_succ]
                  refine wpAnyH_takeD (i := 17) (v := ?vb1_17) rfl rfl (by kernel_rfl) (by kernel_rfl) (by kernel_rfl) (fun _ _ _ h => h) (by rfl) ?yb1_17 (by assumption) ?rb1_17
                  case yb1_17 => (intro w hSw; (try dsimp only at hSw); go_simp; try (with_reducible rfl))
                  try simp only [Act.put, List.setIfInBounds_toArray, List.set_cons_zero, List.set_cons_succ]
                  refine wpAnyH_takeD (i := 18) (v := ?vb1_18) rfl rfl (by kernel_rfl) (by kernel_rfl) (by kernel_rfl) (fun _ _ _ h => h) (by rfl) ?yb1_18 (by assumption) ?rb1_18
                  case yb1_18 => (intro w hSw; (try dsimp only at hSw); go_simp; try (with_reducible rfl))
                  try simp only [Act.put, List.setIfInBounds_toArray, List.set_cons_zero, List.set_cons_succ]
                  refine wpAnyH_takeD (i := 19) (v := ?vb1_19) rfl rfl (by kernel_rfl) (by kernel_rfl) (by kernel_rfl) (fun _ _ _ h => h) (by rfl) ?yb1_19 (by assumption) ?rb1_19
                  case yb1_19 => (intro w hSw; (try dsimp only at hSw); go_simp; try (with_reducible rfl))
                  try simp only [Act.put, List.setIfInBounds_toArray, List.set_cons_zero, List.set_cons_succ]
                  refine wpAnyH_callD (i := 20) rfl rfl (by kernel_rfl) (by rfl) 62 _ _ (HSt.out _) (by go_simp) ?_
                  rintro e w6 ⟨rfl, hb⟩
                  have H6 := Lib.hid (H3.out.drew1.step hb)
                  clear hb
                  refine ⟨_, rfl, HC.out _ H6.out, ?_⟩
                  have hHeld := HC.out _ H6.out
                  try simp only [Act.put, List.setIfInBounds_toArray, List.set_cons_zero, List.set_cons_succ]
                  refine wpAnyH_takeD (i := 21) (v := ?vb1_21) rfl rfl (by kernel_rfl) (by kernel_rfl) (by kernel_rfl) (fun _ _ _ h => h) (by rfl) ?yb1_21 (by assumption) ?rb1_21
                  case yb1_21 => (intro w hSw; (try dsimp only at hSw); go_simp; try (with_reducible rfl))
                  try simp only [Act.put, List.setIfInBounds_toArray, List.set_cons_zero, List.set_cons_succ]
                  refine wpAnyH_takeD (i := 22) (v := ?vb1_22) rfl rfl (by kernel_rfl) (by kernel_rfl) (by kernel_rfl) (fun _ _ _ h => h) (by rfl) ?yb1_22 (by assumption) ?rb1_22
                  case yb1_22 => (intro w hSw; (try dsimp only at hSw); go_simp; try (with_reducible rfl))
                  try simp only [Act.put, List.setIfInBounds_toArray, List.set_cons_zero, List.set_cons_succ]
                  refine wpAnyH_takeD (i := 23) (v := ?vb1_23) rfl rfl (by kernel_rfl) (by kernel_rfl) (by kernel_rfl) (fun _ _ _ h => h) (by rfl) ?yb1_23 (by assumption) ?rb1_23
                  case yb1_23 => (intro w hSw; (try dsimp only at hSw); go_simp; try (with_reducible rfl))
                  try simp only [Act.put, List.setIfInBounds_toArray, List.set_cons_zero, List.set_cons_succ]
                  refine wpAnyH_offD (i := 24) rfl rfl (by kernel_rfl) (by kernel_rfl) (by kernel_rfl) (fun _ _ _ h => h) (by rfl) (by assumption) ?_
                  try simp only [Act.put, List.setIfInBounds_toArray, List.set_cons_zero, List.set_cons_succ]
                  refine wpAnyH_offD (i := 25) rfl rfl (by kernel_rfl) (by kernel_rfl) (by kernel_rfl) (fun _ _ _ h => h) (by rfl) (by assumption) ?_
                  try simp only [Act.put, List.setIfInBounds_toArray, List.set_cons_zero, List.set_cons_succ]
                  refine wpAnyH_offD (i := 26) rfl rfl (by kernel_rfl) (by kernel_rfl) (by kernel_rfl) (fun _ _ _ h => h) (by rfl) (by assumption) ?_
                  try simp only [Act.put, List.setIfInBounds_toArray, List.set_cons_zero, List.set_cons_succ]
                  refine wpAnyH_offD (i := 27) rfl rfl (by kernel_rfl) (by kernel_rfl) (by kernel_rfl) (fun _ _ _ h => h) (by rfl) (by assumption) ?_
                  try simp only [Act.put, List.setIfInBounds_toArray, List.set_cons_zero, List.set_cons_succ]
                  refine wpAnyH_offD (i := 28) rfl rfl (by kernel_rfl) (by kernel_rfl) (by kernel_rfl) (fun _ _ _ h => h) (by rfl) (by assumption) ?_
                  try simp only [Act.put, List.setIfInBounds_toArray, List.set_cons_zero, List.set_cons_succ]
                  refine wpAnyH_takeD (i := 29) (v := ?vb1_29) rfl rfl (by kernel_rfl) (by kernel_rfl) (by kernel_rfl) (fun _ _ _ h => h) (by rfl) ?yb1_29 (by assumption) ?rb1_29
                  case yb1_29 => (intro w hSw; (try dsimp only at hSw); go_simp; try (with_reducible rfl))
                  try simp only [Act.put, List.setIfInBounds_toArray, List.set_cons_zero, List.set_cons_succ]
                  refine wpAnyH_done (by kernel_rfl) ?_ _
                  all_goals
                    go_wp2_with fail
                    go_ret
                    exact ⟨ret_int (by rw [Hv2.out, Hok.out]; simp), H6.out.bel⟩
                | true =>
                  go_upto_region 5 with fail
                  go_region_held3 (fun w' => ∀ i, w'.cell? ⟨w.heap.size, i, none⟩ = (#[.int .u8 xk, .int .u8 xs, .string xt, .string xn, .string xv, .int .i64 xa, .int .i64 xb, .slice apo xo.length aco, .slice apc xc.length acc, .slice apr xr.length acr, .slice apf xf.length acf] : Array Value)[i]?)
                    (first | exact hc3 | exact HC.out _ H6.out | exact HC.out _ H7.out | exact HC.out _ H8.out | go_keep)
                    (first
                      | (go_at_call 61; (with_reducible refine (HI1.out _).mono ?_); rintro e wz ⟨rfl, rfl⟩)
                      | (go_at_call 61; (with_reducible refine (HI2.out _).mono ?_); rintro e wz ⟨rfl, rfl⟩)
                      | (go_at_call 62; refine (HSt.out _).mono ?_; rintro e w6 ⟨rfl, hb⟩; have H6 := Lib.hid (H3.out.drew1.step hb); clear hb)
                      | (go_at_call 63; refine (HOf.out _ H6.out).mono ?_; rintro e w7 ⟨a', rfl, hk, hb⟩; have H7 := Lib.hid (H6.out.step hb); have HSm2 := Lib.hid (HSm.out a' w7 H7.out hk.any); clear hb hk)
                      | (go_at_call 21; refine HSm2.out.mono ?_; rintro e w8 ⟨rfl, hb⟩; have H8 := Lib.hid (H7.out.step hb); clear hb))
                  clear hc3
                  cases sv with
                  | true =>
                    go_wp2_with fail
                    go_ret
                    exact ⟨ret_int (by rw [Hv2.out, Hok.out]; rfl), H8.out.bel⟩
                  | false =>
                    go_wp2_with fail
                    go_ret
                    exact ⟨ret_int (by rw [Hv2.out, Hok.out]; rfl), H8.out.bel⟩

end Go.Proofs.YthhebfknikfleaaGreat
