/-
  Ground: FoK, FpA, FpC.
-/
import Derived.Test.YtacnmdlefonjmaaGreatPdZP9
import Derived.Test.YtacnmdlefonjmaaGreatPdZP8
/-
  Messages of clients (layer 6): whether one may be: the document's.
-/
namespace Go.Proofs.YtacnmdlefonjmaaGreat
open Go.RowKit
set_option linter.unusedVariables false
set_option linter.unusedSimpArgs false

/-- What the document asks of 'What'. -/
def whatRf (f : FoV) : Bool := if f.kind = 67 ∨ f.kind = 68 then (f.what == 83) || (f.what == 80) else (f.what == 0) || ((f.what == 83) || (f.what == 80))
theorem whatRf_eq (f : FoV) : (whatRf f && foEq f (keptV f)) = (whatV f && foEq f (keptV f)) := by
  by_cases hk : f.kind = 67 ∨ f.kind = 68
  · unfold whatRf whatV
    rw [if_pos hk, if_pos hk]
  · unfold whatRf whatV
    rw [if_neg hk, if_neg hk]
    by_cases h0 : f.what = 0
    · rw [h0]
      rfl
    · have hw : (keptV f).what = 0 := by
        unfold keptV
        rw [if_neg hk]
        repeat' split
        all_goals rfl
      have he : foEq f (keptV f) = false := by
        unfold foEq headEq
        rw [hw]
        have : (f.what == 0) = false := by simpa using h0
        rw [this]
        simp
      rw [he]
      simp

theorem below_drewN' {B : Nat} (w : World) (r : Nat) (hB : B ≤ w.heap.size) : Below B w (w.drewN r) := ((Touch.refl (fun _ => False) w).drewN r).below hB (fun _ e => e.elim)

set_option maxRecDepth 100000 in
set_option maxHeartbeats 4000000 in
theorem rcheck_any (S : Nat → Prop) (x : FoV) (a : FoP) (w : World) (h : FoL S w x a) (hfb : FoB x) (hn : x.name.size ≤ maxLen) (hp : x.portal.size ≤ maxLen) (ht : x.text.size ≤ maxLen) : Calls Tryz.prog 61 #[foArg x a] w fun e w' => e = .returned (.int .i64 (checkF x)) ∧ Below w.heap.size w w' := by
  have H0 := Lib.hid (Fo1.start h)
  have Hv : Hid (checkF x = if knownV x.kind = 1 then (if okF x = true then 0 else 1) else 9) := Lib.hid rfl
  have Hok : Hid (okF x = ((cleanB x.name && (cleanB x.portal && cleanB x.text)) && ((between x.oids 0 4294967295 && (between x.formats 0 65535 && (between x.results 0 65535 && valuesV x.params))) && (whatRf x && (maxV x && foEq x (keptV x)))))) := Lib.hid (by
    have e := whatRf_eq x
    unfold okF listsV textsV
    generalize (cleanB x.name && (cleanB x.portal && cleanB x.text)) = a1
    generalize (between x.oids 0 4294967295 && (between x.formats 0 65535 && (between x.results 0 65535 && valuesV x.params))) = a2
    generalize whatRf x = a3 at *
    generalize whatV x = a4 at *
    generalize maxV x = a5
    generalize foEq x (keptV x) = a6 at *
    cases a1 <;> cases a2 <;> cases a3 <;> cases a4 <;> cases a5 <;> cases a6 <;> simp_all)
  have HKn := Lib.hid (fun w0 : World => rknown_any x.kind w0)
  have HT1 := Lib.hid (fun w0 : World => cleanR_any x.name w0 hn)
  have HT2 := Lib.hid (fun w0 : World => cleanR_any x.portal w0 hp)
  have HT3 := Lib.hid (fun w0 : World => cleanR_any x.text w0 ht)
  have HO := Lib.hid (fun (w0 : World) (H : Fo1 w w0 w.heap.size x a) => rbetween_any _ _ _ _ _ 0 4294967295 w0 H.l.lo)
  have HF := Lib.hid (fun (w0 : World) (H : Fo1 w w0 w.heap.size x a) => rbetween_any _ _ _ _ _ 0 65535 w0 H.l.lf)
  have HR := Lib.hid (fun (w0 : World) (H : Fo1 w w0 w.heap.size x a) => rbetween_any _ _ _ _ _ 0 65535 w0 H.l.lr)
  have HP := Lib.hid (fun (w0 : World) (H : Fo1 w w0 w.heap.size x a) => rvalues_any _ _ _ _ _ w0 H.l.lp)
  have HOf := Lib.hid (fun (w0 : World) (H : Fo1 w w0 w.heap.size x a) => kept_any _ x a w0 H.l)
  have HSm := Lib.hid (fun (a' : FoP) (w0 : World) (H : Fo1 w w0 w.heap.size x a) hk => rfoSame_any _ (fun _ => True) x (keptV x) a a' w0 H.l hk)
  have Hmx : Hid (maxV x = (decide (-2147483648 ≤ x.max) && decide (x.max < 2147483648))) := Lib.hid rfl
  have Hwr : Hid (whatRf x = if x.kind = 67 ∨ x.kind = 68 then (x.what == 83) || (x.what == 80) else (x.what == 0) || ((x.what == 83) || (x.what == 80))) := Lib.hid rfl
  have HC : Hid (∀ w1 : World, Fo1 w w1 w.heap.size x a → ∀ i, w1.cell? ⟨w.heap.size, i, none⟩ = (foCells x a)[i]?) := Lib.hid (fun w1 H => H.b.cell)
  unfold KeptR at HOf
  generalize checkF x = cv at *
  generalize okF x = ov at *
  generalize knownV x.kind = kv at *
  generalize whatRf x = wv at *
  generalize cleanB x.name = t1 at *
  generalize cleanB x.portal = t2 at *
  generalize cleanB x.text = t3 at *
  generalize between x.oids 0 4294967295 = bo at *
  generalize between x.formats 0 65535 = bf at *
  generalize between x.results 0 65535 = br at *
  generalize valuesV x.params = bc at *
  generalize foEq x (keptV x) = sv at *
  generalize maxV x = mv at *
  generalize keptV x = kx at *
  obtain ⟨xk, xw, xn, xp, xt, xo, xf, xr, xc, xm⟩ := x
  obtain ⟨apo, aco, apf, acf, apr, acr, app, acp⟩ := a
  clear h hfb hn hp ht
  unfold foArg at *
  dsimp only at *
  unfold foCells at HC HOf HSm ⊢
  dsimp only at HC HOf HSm ⊢
  go_enter Tryz.func61, Tryz.ntmps61
  go_upto_region 1 with (fail)
  unfold foCells at H0
  dsimp only at H0
  generalize w.alloc (.cells #[.int .u8 xk, .int .u8 xw, .string xn, .string xp, .string xt, .slice apo xo.length aco, .slice apf xf.length acf, .slice apr xr.length acr, .slice app xc.length acp, .int .i64 xm] 46) = w1 at *
  have hc1 := HC.out w1 H0.out
  go_wp2_with fail
  refine (HKn.out _).mono ?_
  rintro e w2 ⟨rfl, rfl⟩
  by_cases hkn : kv = 1
  · subst hkn
    have Hv2 : Hid (cv = if ov = true then 0 else 1) := Lib.hid (by rw [Hv.out]; simp)
    obtain ⟨lv, hlv⟩ : ∃ lv, lv = (bo && (bf && (br && bc))) := ⟨_, rfl⟩
    obtain ⟨tv, htv⟩ : ∃ tv, tv = (t1 && (t2 && t3)) := ⟨_, rfl⟩
    have Hlv := Lib.hid hlv
    have Htv := Lib.hid htv
    rw [← hlv, ← htv] at Hok
    clear hlv htv Hv HKn
    have HO1 := Lib.hid (HO.out w1 H0.out)
    have HF1 := Lib.hid (HF.out w1 H0.out)
    have HR1 := Lib.hid (HR.out w1 H0.out)
    have HP1 := Lib.hid (HP.out w1 H0.out)
    go_upto_region 3 with fail
    go_cut [3] (fun v wx => v = .bool tv ∧ wx = w1)
    case first =>
      go_wp2_with fail
      refine (HT1.out _).mono ?_
      rintro e w3 ⟨rfl, rfl⟩
      cases t1 with
      | false =>
        go_wp2_with fail
        go_meet
        exact ⟨by rw [Htv.out]; rfl, rfl⟩
      | true =>
        go_wp2_with fail
        refine (HT2.out _).mono ?_
        rintro e w3 ⟨rfl, rfl⟩
        cases t2 with
        | false =>
          go_wp2_with fail
          go_meet
          exact ⟨by rw [Htv.out]; rfl, rfl⟩
        | true =>
          go_wp2_with fail
          refine (HT3.out _).mono ?_
          rintro e w3 ⟨rfl, rfl⟩
          go_wp2_with fail
          go_meet
          exact ⟨by rw [Htv.out]; rfl, rfl⟩
    case rest =>
      obtain ⟨rfl, rfl⟩ := hcut
      go_upto_region 4 with fail
      go_cut [4] (fun v wx => v = .bool lv ∧ wx = wc)
      case first =>
        go_wp2_with fail
        refine HO1.out.mono ?_
        rintro e w3 ⟨rfl, rfl⟩
        cases bo with
        | false =>
          go_wp2_with fail
          go_meet
          exact ⟨by rw [Hlv.out]; rfl, rfl⟩
        | true =>
          go_wp2_with fail
          refine HF1.out.mono ?_
          rintro e w3 ⟨rfl, rfl⟩
          cases bf with
          | false =>
            go_wp2_with fail
            go_meet
            exact ⟨by rw [Hlv.out]; rfl, rfl⟩
          | true =>
            go_wp2_with fail
            refine HR1.out.mono ?_
            rintro e w3 ⟨rfl, rfl⟩
            cases br with
            | false =>
              go_wp2_with fail
              go_meet
              exact ⟨by rw [Hlv.out]; rfl, rfl⟩
            | true =>
              go_wp2_with fail
              refine HP1.out.mono ?_
              rintro e w3 ⟨rfl, rfl⟩
              go_wp2_with fail
              go_meet
              exact ⟨by rw [Hlv.out]; rfl, rfl⟩
      case rest =>
        obtain ⟨rfl, rfl⟩ := hcut
        have HOf2 := Lib.hid (HOf.out (wc.drewN 1) H0.out.drew1)
        clear HT1 HT2 HT3 HO1 HF1 HR1 HP1 HO HF HR HP HOf
        obtain ⟨w3, hw3⟩ : ∃ w3, w3 = ((xw == 0) || ((xw == 83) || (xw == 80))) := ⟨_, rfl⟩
        have Hw3 := Lib.hid hw3
        rw [← hw3] at Hwr
        clear hw3
        go_upto_region 5 with fail
        go_cut [0, 5] (fun _ v wx => v = .bool w3 ∧ wx = wc)
        case first =>
          go_wp2_with fail
          all_goals
            go_meet
            refine ⟨?_, rfl⟩
            rw [Hw3.out]
            try simp_all [Bool.or_assoc]
        case rest =>
          obtain ⟨rfl, rfl⟩ := hcut
          by_cases k1 : xk = 67
          · rw [if_pos (.inl k1)] at Hwr
            subst k1
            go_upto_region 7 with fail
            go_cut [0, 5] (fun _ v wx => v = .bool wv ∧ wx = wc)
            case first =>
              go_wp2_with fail
              all_goals
                go_meet
                refine ⟨?_, rfl⟩
                rw [Hwr.out]
                try simp_all
            case rest =>
              obtain ⟨rfl, rfl⟩ := hcut
              cases tv with
              | false =>
                go_wp2_with fail
                go_quiet (fail)
                go_wp2_with fail
                go_ret
                exact ⟨ret_int (by rw [Hv2.out, Hok.out]; simp), H0.out.bel.trans (below_drewN' wc _ H0.out.bel.size)⟩
              | true =>
                cases lv with
                | false =>
                  go_wp2_with fail
                  go_quiet (fail)
                  go_wp2_with fail
                  go_ret
                  exact ⟨ret_int (by rw [Hv2.out, Hok.out]; simp), H0.out.bel.trans (below_drewN' wc _ H0.out.bel.size)⟩
                | true =>
                  cases wv with
                  | false =>
                    go_wp2_with fail
                    go_quiet (fail)
                    go_wp2_with fail
                    go_ret
                    exact ⟨ret_int (by rw [Hv2.out, Hok.out]; simp), H0.out.bel.trans (below_drewN' wc _ H0.out.bel.size)⟩
                  | true =>
                    by_cases m1 : -2147483648 ≤ xm
                    · by_cases m2 : xm < 2147483648
                      · rw [decide_eq_true m1, decide_eq_true m2] at Hmx
                        have hd1 : decide (xm < -2147483648) = false := decide_eq_false (by omega)
                        have hd2 : decide (2147483647 < xm) = false := decide_eq_false (by omega)
                        go_upto_region 8 with fail
                        go_region_held3 (fun w' => ∀ i, w'.cell? ⟨w.heap.size, i, none⟩ = (#[.int .u8 67, .int .u8 xw, .string xn, .string xp, .string xt, .slice apo xo.length aco, .slice apf xf.length acf, .slice apr xr.length acr, .slice app xc.length acp, .int .i64 xm] : Array Value)[i]?)
                          (first | exact hc1 | exact HC.out _ H7.out | exact HC.out _ H8.out | go_keep)
                          (first
                            | (go_at_call 83; refine HOf2.out.mono ?_; rintro e w7 ⟨a', rfl, hk, hb⟩; have H7 := Lib.hid (H0.out.drew1.step hb); have HSm2 := Lib.hid (HSm.out a' w7 H7.out hk.any); clear hb hk)
                            | (go_at_call 27; refine HSm2.out.mono ?_; rintro e w8 ⟨rfl, hb⟩; have H8 := Lib.hid (H7.out.step hb); clear hb))
                        clear hc1
                        cases sv with
                        | true =>
                          go_wp2_with fail
                          go_ret
                          exact ⟨ret_int (by rw [Hv2.out, Hok.out, Hmx.out]; rfl), H8.out.bel⟩
                        | false =>
                          go_wp2_with fail
                          go_ret
                          exact ⟨ret_int (by rw [Hv2.out, Hok.out, Hmx.out]; rfl), H8.out.bel⟩
                      · rw [decide_eq_false m2] at Hmx
                        have hd1 : decide (xm < -2147483648) = false := decide_eq_false (by omega)
                        have hd2 : decide (2147483647 < xm) = true := decide_eq_true (by omega)
                        go_wp2_with fail
                        go_quiet (fail)
                        go_wp2_with fail
                        go_ret
                        exact ⟨ret_int (by rw [Hv2.out, Hok.out, Hmx.out]; simp), H0.out.bel.trans (below_drewN' wc _ H0.out.bel.size)⟩
                    · rw [decide_eq_false m1] at Hmx
                      have hd1 : decide (xm < -2147483648) = true := decide_eq_true (by omega)
                      go_wp2_with fail
                      go_quiet (fail)
                      go_wp2_with fail
                      go_ret
                      exact ⟨ret_int (by rw [Hv2.out, Hok.out, Hmx.out]; simp), H0.out.bel.trans (below_drewN' wc _ H0.out.bel.size)⟩
          · by_cases k2 : xk = 68
            · rw [if_pos (.inr k2)] at Hwr
              subst k2
              clear k1
              go_upto_region 7 with fail
              go_cut [0, 5] (fun _ v wx => v = .bool wv ∧ wx = wc)
              case first =>
                go_wp2_with fail
                all_goals
                  go_meet
                  refine ⟨?_, rfl⟩
                  rw [Hwr.out]
                  try simp_all
              case rest =>
                obtain ⟨rfl, rfl⟩ := hcut
                cases tv with
                | false =>
                  go_wp2_with fail
                  go_quiet (fail)
                  go_wp2_with fail
                  go_ret
                  exact ⟨ret_int (by rw [Hv2.out, Hok.out]; simp), H0.out.bel.trans (below_drewN' wc _ H0.out.bel.size)⟩
                | true =>
                  cases lv with
                  | false =>
                    go_wp2_with fail
                    go_quiet (fail)
                    go_wp2_with fail
                    go_ret
                    exact ⟨ret_int (by rw [Hv2.out, Hok.out]; simp), H0.out.bel.trans (below_drewN' wc _ H0.out.bel.size)⟩
                  | true =>
                    cases wv with
                    | false =>
                      go_wp2_with fail
                      go_quiet (fail)
                      go_wp2_with fail
                      go_ret
                      exact ⟨ret_int (by rw [Hv2.out, Hok.out]; simp), H0.out.bel.trans (below_drewN' wc _ H0.out.bel.size)⟩
                    | true =>
                      by_cases m1 : -2147483648 ≤ xm
                      · by_cases m2 : xm < 2147483648
                        · rw [decide_eq_true m1, decide_eq_true m2] at Hmx
                          have hd1 : decide (xm < -2147483648) = false := decide_eq_false (by omega)
                          have hd2 : decide (2147483647 < xm) = false := decide_eq_false (by omega)
                          go_upto_region 8 with fail
                          go_region_held3 (fun w' => ∀ i, w'.cell? ⟨w.heap.size, i, none⟩ = (#[.int .u8 68, .int .u8 xw, .string xn, .string xp, .string xt, .slice apo xo.length aco, .slice apf xf.length acf, .slice apr xr.length acr, .slice app xc.length acp, .int .i64 xm] : Array Value)[i]?)
                            (first | exact hc1 | exact HC.out _ H7.out | exact HC.out _ H8.out | go_keep)
                            (first
                              | (go_at_call 83; refine HOf2.out.mono ?_; rintro e w7 ⟨a', rfl, hk, hb⟩; have H7 := Lib.hid (H0.out.drew1.step hb); have HSm2 := Lib.hid (HSm.out a' w7 H7.out hk.any); clear hb hk)
                              | (go_at_call 27; refine HSm2.out.mono ?_; rintro e w8 ⟨rfl, hb⟩; have H8 := Lib.hid (H7.out.step hb); clear hb))
                          clear hc1
                          cases sv with
                          | true =>
                            go_wp2_with fail
                            go_ret
                            exact ⟨ret_int (by rw [Hv2.out, Hok.out, Hmx.out]; rfl), H8.out.bel⟩
                          | false =>
                            go_wp2_with fail
                            go_ret
                            exact ⟨ret_int (by rw [Hv2.out, Hok.out, Hmx.out]; rfl), H8.out.bel⟩
                        · rw [decide_eq_false m2] at Hmx
                          have hd1 : decide (xm < -2147483648) = false := decide_eq_false (by omega)
                          have hd2 : decide (2147483647 < xm) = true := decide_eq_true (by omega)
                          go_wp2_with fail
                          go_quiet (fail)
                          go_wp2_with fail
                          go_ret
                          exact ⟨ret_int (by rw [Hv2.out, Hok.out, Hmx.out]; simp), H0.out.bel.trans (below_drewN' wc _ H0.out.bel.size)⟩
                      · rw [decide_eq_false m1] at Hmx
                        have hd1 : decide (xm < -2147483648) = true := decide_eq_true (by omega)
                        go_wp2_with fail
                        go_quiet (fail)
                        go_wp2_with fail
                        go_ret
                        exact ⟨ret_int (by rw [Hv2.out, Hok.out, Hmx.out]; simp), H0.out.bel.trans (below_drewN' wc _ H0.out.bel.size)⟩
            · rw [if_neg (fun e => e.elim k1 k2)] at Hwr
              have k1b : (xk == 67) = false := by simpa using k1
              have k2b : (xk == 68) = false := by simpa using k2
              obtain rfl : wv = w3 := Hwr.out
              clear k1 k2
              cases tv with
              | false =>
                go_wp2_with fail
                go_quiet (fail)
                go_wp2_with fail
                go_ret
                exact ⟨ret_int (by rw [Hv2.out, Hok.out]; simp), H0.out.bel.trans (below_drewN' wc _ H0.out.bel.size)⟩
              | true =>
                cases lv with
                | false =>
                  go_wp2_with fail
                  go_quiet (fail)
                  go_wp2_with fail
                  go_ret
                  exact ⟨ret_int (by rw [Hv2.out, Hok.out]; simp), H0.out.bel.trans (below_drewN' wc _ H0.out.bel.size)⟩
                | true =>
                  cases wv with
                  | false =>
                    go_wp2_with fail
                    go_quiet (fail)
                    go_wp2_with fail
                    go_ret
                    exact ⟨ret_int (by rw [Hv2.out, Hok.out]; simp), H0.out.bel.trans (below_drewN' wc _ H0.out.bel.size)⟩
                  | true =>
                    by_cases m1 : -2147483648 ≤ xm
                    · by_cases m2 : xm < 2147483648
                      · rw [decide_eq_true m1, decide_eq_true m2] at Hmx
                        have hd1 : decide (xm < -2147483648) = false := decide_eq_false (by omega)
                        have hd2 : decide (2147483647 < xm) = false := decide_eq_false (by omega)
                        go_upto_region 8 with fail
                        go_region_held3 (fun w' => ∀ i, w'.cell? ⟨w.heap.size, i, none⟩ = (#[.int .u8 xk, .int .u8 xw, .string xn, .string xp, .string xt, .slice apo xo.length aco, .slice apf xf.length acf, .slice apr xr.length acr, .slice app xc.length acp, .int .i64 xm] : Array Value)[i]?)
                          (first | exact hc1 | exact HC.out _ H7.out | exact HC.out _ H8.out | go_keep)
                          (first
                            | (go_at_call 83; refine HOf2.out.mono ?_; rintro e w7 ⟨a', rfl, hk, hb⟩; have H7 := Lib.hid (H0.out.drew1.step hb); have HSm2 := Lib.hid (HSm.out a' w7 H7.out hk.any); clear hb hk)
                            | (go_at_call 27; refine HSm2.out.mono ?_; rintro e w8 ⟨rfl, hb⟩; have H8 := Lib.hid (H7.out.step hb); clear hb))
                        clear hc1
                        cases sv with
                        | true =>
                          go_wp2_with fail
                          go_ret
                          exact ⟨ret_int (by rw [Hv2.out, Hok.out, Hmx.out]; rfl), H8.out.bel⟩
                        | false =>
                          go_wp2_with fail
                          go_ret
                          exact ⟨ret_int (by rw [Hv2.out, Hok.out, Hmx.out]; rfl), H8.out.bel⟩
                      · rw [decide_eq_false m2] at Hmx
                        have hd1 : decide (xm < -2147483648) = false := decide_eq_false (by omega)
                        have hd2 : decide (2147483647 < xm) = true := decide_eq_true (by omega)
                        go_wp2_with fail
                        go_quiet (fail)
                        go_wp2_with fail
                        go_ret
                        exact ⟨ret_int (by rw [Hv2.out, Hok.out, Hmx.out]; simp), H0.out.bel.trans (below_drewN' wc _ H0.out.bel.size)⟩
                    · rw [decide_eq_false m1] at Hmx
                      have hd1 : decide (xm < -2147483648) = true := decide_eq_true (by omega)
                      go_wp2_with fail
                      go_quiet (fail)
                      go_wp2_with fail
                      go_ret
                      exact ⟨ret_int (by rw [Hv2.out, Hok.out, Hmx.out]; simp), H0.out.bel.trans (below_drewN' wc _ H0.out.bel.size)⟩
  · have hkb : (kv == 1) = false := by simpa using hkn
    have Hv2 : Hid (cv = 9) := Lib.hid (by rw [Hv.out, if_neg hkn])
    clear hkn
    go_wp2_with fail
    go_ret
    exact ⟨ret_int Hv2.out.symm, H0.out.bel⟩

end Go.Proofs.YtacnmdlefonjmaaGreat

/-
  Messages of clients (layer 6): Decode, the program's.
-/
namespace Go.Proofs.YtacnmdlefonjmaaGreat
open Go.RowKit
set_option linter.unusedVariables false
set_option linter.unusedSimpArgs false

/-- The message's block, the result's block. -/
structure DeI (w0 w : World) (c : Array Value) : Prop where
  m : Blk w w0.heap.size 73 c
  r : Blk w (w0.heap.size + 1) 46 foZ
  bel : Below w0.heap.size w0 w
section
variable {w0 w w' : World} {c : Array Value} {P : Nat → Prop}
theorem DeI.step (h : DeI w0 w c) (hT : Touch P w w') (hP : ∀ j, P j → w0.heap.size + 2 ≤ j) : DeI w0 w' c :=
  ⟨hT.blk h.m (fun e => by have := hP _ e; omega), hT.blk h.r (fun e => by have := hP _ e; omega), h.bel.trans (hT.below h.bel.size (fun j e => by have := hP _ e; omega))⟩
theorem DeI.bstep (h : DeI w0 w c) (hb : Below w.heap.size w w') : DeI w0 w' c := h.step (Touch.of_below (p := fun _ => False) hb) (fun _ e => e.elim)
theorem DeI.start (w : World) (c : Array Value) : DeI w ((w.alloc (.cells c 73)).alloc (.cells foZ 46)) c := by
  have e1 : (w.alloc (.cells c 73)).heap.size = w.heap.size + 1 := by simp
  refine ⟨(Blk.new _ _ _).alloc _, ?_, (((Below.refl _ _).alloc (Nat.le_refl _) _).alloc (by simp) _)⟩
  have := Blk.new (w.alloc (.cells c 73)) 46 foZ
  rw [e1] at this
  exact this
/-- The end: the result's block is set. -/
theorem DeI.done {S : Nat → Prop} {f : FoV} {a : FoP} (h : DeI w0 w c) (hl : FoL S w f a) (hS : ∀ j, S j → j ≠ w0.heap.size + 1 ∧ w0.heap.size ≤ j) :
    Blk (setTen w (w0.heap.size + 1) (.int .u8 f.kind) (.int .u8 f.what) (.string f.name) (.string f.portal) (.string f.text) (.slice a.po f.oids.length a.co) (.slice a.pf f.formats.length a.cf) (.slice a.pr f.results.length a.cr) (.slice a.pp f.params.length a.cp) (.int .i64 f.max)) (w0.heap.size + 1) 46 (foCells f a) ∧
    FoL (fun j => w0.heap.size ≤ j) (setTen w (w0.heap.size + 1) (.int .u8 f.kind) (.int .u8 f.what) (.string f.name) (.string f.portal) (.string f.text) (.slice a.po f.oids.length a.co) (.slice a.pf f.formats.length a.cf) (.slice a.pr f.results.length a.cr) (.slice a.pp f.params.length a.cp) (.int .i64 f.max)) f a ∧
    Below w0.heap.size w0 (setTen w (w0.heap.size + 1) (.int .u8 f.kind) (.int .u8 f.what) (.string f.name) (.string f.portal) (.string f.text) (.slice a.po f.oids.length a.co) (.slice a.pf f.formats.length a.cf) (.slice a.pr f.results.length a.cr) (.slice a.pp f.params.length a.cp) (.int .i64 f.max)) := by
  have hT := setTen_touch w (w0.heap.size + 1) (.int .u8 f.kind) (.int .u8 f.what) (.string f.name) (.string f.portal) (.string f.text) (.slice a.po f.oids.length a.co) (.slice a.pf f.formats.length a.cf) (.slice a.pr f.results.length a.cr) (.slice a.pp f.params.length a.cp) (.int .i64 f.max)
  exact ⟨setTen_blk _ _ _ _ _ _ _ _ _ _ h.r, hl.keep (Kept.touch hT (fun j _ hs => ⟨(hS j hs).2, (hS j hs).1⟩)), h.bel.trans (hT.below h.bel.size (fun j e => by omega))⟩
end

set_option maxRecDepth 100000 in
set_option maxHeartbeats 4000000 in
theorem dec_any (k : Int) (h0 : 0 ≤ k) (h1 : k < 256) (p : Option Addr) (l : List UInt8) (cap : Nat) (w : World) (hl : l.length ≤ 100000) (hb : BytesIn w p l) :
    Calls Tryz.prog 71 #[.agg #[.int .u8 k, .slice p l.length cap]] w (DecR k l w) := by
  have H1 := Lib.hid (DeI.start w #[.int .u8 k, .slice p l.length cap])
  have HK := Lib.hid (fun w0 : World => known_any k h0 h1 w0)
  have HU := Lib.hid (fun h : knownV k = 0 => dec_unknown (L := l) h)
  have HO := Lib.hid (fun h : knownV k = 2 => dec_other (L := l) h)
  have HQ := Lib.hid (fun (L' : List UInt8) (f : FoV) (b : Bool) (h1 : knownV k = 1) h2 h3 => @dec_bad k l L' f b h1 h2 h3)
  have HG := Lib.hid (fun (f : FoV) (h1 : knownV k = 1) h2 => @dec_ok k l f h1 h2)
  have Hb1 : Hid (BytesIn ((w.alloc (.cells #[.int .u8 k, .slice p l.length cap] 73)).alloc (.cells foZ 46)) p l) := Lib.hid ((((Touch.refl (fun _ => False) w).alloc _).alloc _).bytesIn hb (fun _ _ _ e => e))
  unfold foZ at H1 Hb1
  clear hb
  go_enter Tryz.func71, Tryz.ntmps71
  go_upto_region 1 with (fail)
  generalize (w.alloc (.cells #[.int .u8 k, .slice p l.length cap] 73)).alloc (.cells #[.int .u8 0, .int .u8 0, .string ⟨#[]⟩, .string ⟨#[]⟩, .string ⟨#[]⟩, .slice none 0 0, .slice none 0 0, .slice none 0 0, .slice none 0 0, .int .i64 0] 46) = w1 at *
  have c1 := H1.out.m.cell
  go_wp2_with fail
  refine (HK.out w1).mono ?_
  rintro e w2 ⟨rfl, hb⟩
  have H2 := Lib.hid (H1.out.bstep hb)
  have Hb2 : Hid (BytesIn w2 p l) := Lib.hid ((Touch.of_below (p := fun _ => False) hb).bytesIn Hb1.out (fun _ _ _ e => e))
  clear hb c1 Hb1 H1 HK
  generalize hkv : knownV k = kv at *
  have Hkv := Lib.hid hkv
  clear hkv
  by_cases hk0 : kv = 0
  · subst hk0
    have Hd := Lib.hid (HU.out rfl)
    clear HO HQ HG HU
    have c2 : ∀ i, w2.cell? ⟨w.heap.size + 1, i, none⟩ = (#[.int .u8 0, .int .u8 0, .string ⟨#[]⟩, .string ⟨#[]⟩, .string ⟨#[]⟩, .slice none 0 0, .slice none 0 0, .slice none 0 0, .slice none 0 0, .int .i64 0] : Array Value)[i]? := H2.out.r.cell
    have f2 := H2.out.r.frozen
    go_wp2_with fail
    obtain ⟨hbf, hl', hB⟩ := H2.out.done (FoL.zero (fun _ => False) w2 0) (fun _ e => e.elim)
    have HH := Lib.hid (And.intro hl' hB)
    clear hl' hB c2 f2
    unfold setTen foCells foZero foNil at hbf
    unfold setTen at HH
    dsimp only [List.length_nil] at hbf
    have hcf := hbf.cell
    clear hbf
    refine bodyPost_ret (v := .tuple #[.agg #[.int .u8 0, .int .u8 0, .string ⟨#[]⟩, .string ⟨#[]⟩, .string ⟨#[]⟩, .slice none 0 0, .slice none 0 0, .slice none 0 0, .slice none 0 0, .int .i64 0], .int .i64 4]) (by simp [results, Tryz.results71, go_sem, hcf]) rfl ?_
    unfold DecR
    rw [Hd.out]
    exact ⟨foNil, rfl, HH.out.1, HH.out.2⟩
  by_cases hk2 : kv = 2
  · subst hk2
    have Hd := Lib.hid (HO.out rfl)
    clear HO HQ HG HU
    have c2 : ∀ i, w2.cell? ⟨w.heap.size + 1, i, none⟩ = (#[.int .u8 0, .int .u8 0, .string ⟨#[]⟩, .string ⟨#[]⟩, .string ⟨#[]⟩, .slice none 0 0, .slice none 0 0, .slice none 0 0, .slice none 0 0, .int .i64 0] : Array Value)[i]? := H2.out.r.cell
    have f2 := H2.out.r.frozen
    go_wp2_with fail
    obtain ⟨hbf, hl', hB⟩ := H2.out.done (FoL.zero (fun _ => False) w2 0) (fun _ e => e.elim)
    have HH := Lib.hid (And.intro hl' hB)
    clear hl' hB c2 f2
    unfold setTen foCells foZero foNil at hbf
    unfold setTen at HH
    dsimp only [List.length_nil] at hbf
    have hcf := hbf.cell
    clear hbf
    refine bodyPost_ret (v := .tuple #[.agg #[.int .u8 0, .int .u8 0, .string ⟨#[]⟩, .string ⟨#[]⟩, .string ⟨#[]⟩, .slice none 0 0, .slice none 0 0, .slice none 0 0, .slice none 0 0, .int .i64 0], .int .i64 9]) (by simp [results, Tryz.results71, go_sem, hcf]) rfl ?_
    unfold DecR
    rw [Hd.out]
    exact ⟨foNil, rfl, HH.out.1, HH.out.2⟩
  have hk1 : kv = 1 := by
    rw [← Hkv.out] at hk0 hk2 ⊢
    unfold knownV at hk0 hk2 ⊢
    split at hk0
    · rename_i h; rw [if_pos h]
    · rename_i h; rw [if_neg h] at hk2; split at hk0
      · rename_i h'; rw [if_pos h'] at hk2; exact absurd rfl hk2
      · exact absurd rfl hk0
  subst hk1
  have Hq := Lib.hid (fun L' f b => HQ.out L' f b rfl)
  have Hg := Lib.hid (fun f => HG.out f rfl)
  clear HO HQ HG HU hk0 hk2
  have c2 := H2.out.m.cell
  have HN := Lib.hid (scanNew_any p l cap w2 (by omega) Hb2.out)
  go_upto_region 7 with (go_at_call 88; refine HN.out.mono ?_; rintro e w3 ⟨sb, g, rfl, hs, hsb, hg, hT⟩; have H3 := Lib.hid (H2.out.step hT (fun _ e => e.elim)); have Hs3 := Lib.hid hs; have hz3 := hT.size; clear hs hT HN c2)
  have hw2 := H2.out.r.lt
  have hal : Below w3.heap.size w3 (w3.alloc (.cells #[.pointer (some ⟨sb, 0, none⟩)] 140)) := (Below.refl _ _).alloc (Nat.le_refl _) _
  have H4 := Lib.hid (H3.out.bstep hal)
  have Hs4 := Lib.hid (Hs3.out.touch (Touch.of_below (p := fun _ => False) hal) (fun e => e) (fun _ e => e))
  have Hr4 : Hid (Blk (w3.alloc (.cells #[.pointer (some ⟨sb, 0, none⟩)] 140)) w3.heap.size 140 #[.pointer (some ⟨sb, 0, none⟩)]) := Lib.hid (Blk.new _ _ _)
  have hz4 : w3.heap.size < (w3.alloc (.cells #[.pointer (some ⟨sb, 0, none⟩)] 140)).heap.size := by simp
  have hsl := Hs3.out.lt
  clear hal H3 Hs3 H2 Hb2
  generalize w3.alloc (.cells #[.pointer (some ⟨sb, 0, none⟩)] 140) = w4 at *
  generalize w3.heap.size = rb at *
  have c4 := H4.out.m.cell
  have r4 := Hr4.out.cell
  have HM := Lib.hid (fmsg_any sb g l false w4 Hs4.out hl k)
  unfold fmsgR foArg foCells at HM
  go_upto_region 8 with (go_at_call 89; refine HM.out.mono ?_; rintro e w5 ⟨f, a, L', b', rfl, hfl, hs, hq, hT⟩; have H5 := Lib.hid (H4.out.step hT (fun j e => by omega)); have Hs5 := Lib.hid hs; have Hfl5 := Lib.hid hfl; have HQ := Lib.hid hq; have Hr5 := Lib.hid (hT.blk Hr4.out (by omega)); have hz5 := hT.size; clear hs hT hfl hq HM c4 r4 H4 Hs4 Hr4)
  obtain ⟨fk, fw, fn, fp, ft, fo, ff, fr, fc, fm⟩ := f
  obtain ⟨apo, aco, apf, acf, apr, acr, app, acp⟩ := a
  dsimp only
  have hw5 := H5.out.r.lt
  have hal : Below w5.heap.size w5 (w5.alloc (.cells #[.int .u8 fk, .int .u8 fw, .string fn, .string fp, .string ft, .slice apo fo.length aco, .slice apf ff.length acf, .slice apr fr.length acr, .slice app fc.length acp, .int .i64 fm] 46)) := (Below.refl _ _).alloc (Nat.le_refl _) _
  have H6 := Lib.hid (H5.out.bstep hal)
  have Hs6 := Lib.hid (Hs5.out.touch (Touch.of_below (p := fun _ => False) hal) (fun e => e) (fun _ e => e))
  have Hr6 := Lib.hid (Hr5.out.below hal Hr5.out.lt)
  have Hf6 : Hid (Blk (w5.alloc (.cells #[.int .u8 fk, .int .u8 fw, .string fn, .string fp, .string ft, .slice apo fo.length aco, .slice apf ff.length acf, .slice apr fr.length acr, .slice app fc.length acp, .int .i64 fm] 46)) w5.heap.size 46 #[.int .u8 fk, .int .u8 fw, .string fn, .string fp, .string ft, .slice apo fo.length aco, .slice apf ff.length acf, .slice apr fr.length acr, .slice app fc.length acp, .int .i64 fm]) := Lib.hid (Blk.new _ _ _)
  have Hfl6 := Lib.hid (Hfl5.out.below hal)
  have hz6 : w5.heap.size < (w5.alloc (.cells #[.int .u8 fk, .int .u8 fw, .string fn, .string fp, .string ft, .slice apo fo.length aco, .slice apf ff.length acf, .slice apr fr.length acr, .slice app fc.length acp, .int .i64 fm] 46)).heap.size := by simp
  clear hal H5 Hs5 Hr5 Hfl5
  generalize w5.alloc (.cells #[.int .u8 fk, .int .u8 fw, .string fn, .string fp, .string ft, .slice apo fo.length aco, .slice apf ff.length acf, .slice apr fr.length acr, .slice app fc.length acp, .int .i64 fm] 46) = w6 at *
  generalize w5.heap.size = gf at *
  have r6 := Hr6.out.cell
  have f6 := Hf6.out.cell
  have HD := Lib.hid (scanDone_any sb g L' b' w6 Hs6.out)
  generalize hem : (!b' && L'.isEmpty) = em at *
  cases em with
  | false =>
    have Hd := Lib.hid (Hq.out _ _ _ HQ.out hem)
    have c2 : ∀ i, w6.cell? ⟨w.heap.size + 1, i, none⟩ = (#[.int .u8 0, .int .u8 0, .string ⟨#[]⟩, .string ⟨#[]⟩, .string ⟨#[]⟩, .slice none 0 0, .slice none 0 0, .slice none 0 0, .slice none 0 0, .int .i64 0] : Array Value)[i]? := H6.out.r.cell
    have f2 := H6.out.r.frozen
    clear hem
    go_wp2_with (go_at_call 90; refine HD.out.mono ?_; rintro e w7 ⟨rfl, rfl⟩)
    obtain ⟨hbf, hl', hB⟩ := H6.out.done (FoL.zero (fun _ => False) _ 0) (fun _ e => e.elim)
    have HH := Lib.hid (And.intro hl' hB)
    clear hl' hB c2 f2
    unfold setTen foCells foZero foNil at hbf
    unfold setTen at HH
    dsimp only [List.length_nil] at hbf
    have hcf := hbf.cell
    clear hbf
    refine bodyPost_ret (v := .tuple #[.agg #[.int .u8 0, .int .u8 0, .string ⟨#[]⟩, .string ⟨#[]⟩, .string ⟨#[]⟩, .slice none 0 0, .slice none 0 0, .slice none 0 0, .slice none 0 0, .int .i64 0], .int .i64 4]) (by simp [results, Tryz.results71, go_sem, hcf]) rfl ?_
    unfold DecR
    rw [Hd.out]
    exact ⟨foNil, rfl, HH.out.1, HH.out.2⟩
  | true =>
    have hb' : b' = false := by cases b' <;> simp at hem ⊢
    subst hb'
    have hL' : L' = [] := by cases L' <;> simp at hem ⊢
    subst hL'
    clear hem
    have hrd := (HQ.out.1 rfl).2
    have hsm := readP_small hrd
    have hfk : fk = k := hsm.kind
    have hfb : FoB ⟨fk, fw, fn, fp, ft, fo, ff, fr, fc, fm⟩ := ⟨by rw [← hfk] at h0; exact h0, by rw [← hfk] at h1; exact h1, hsm.what.1, hsm.what.2⟩
    have HC := Lib.hid (check_any _ ⟨fk, fw, fn, fp, ft, fo, ff, fr, fc, fm⟩ ⟨apo, aco, apf, acf, apr, acr, app, acp⟩ w6 Hfl6.out hfb)
    have Hd := Lib.hid (Hg.out _ HQ.out)
    clear hrd hsm hfk hfb HQ Hq Hg
    unfold foArg foCells at HC
    dsimp only at HC
    generalize hcv : checkF ⟨fk, fw, fn, fp, ft, fo, ff, fr, fc, fm⟩ = cv at *
    clear hcv
    by_cases hc0 : cv = 0
    · subst hc0
      have Hd' : Hid (decF k l = (⟨fk, fw, fn, fp, ft, fo, ff, fr, fc, fm⟩, 0)) := Lib.hid (by rw [Hd.out, if_pos rfl])
      clear Hd
      go_upto_region 10 with (first | (go_at_call 90; refine HD.out.mono ?_; rintro e w7 ⟨rfl, rfl⟩) | (go_at_call 91; refine HC.out.mono ?_; rintro e w7 ⟨rfl, hb⟩))
      have H7 := Lib.hid (H6.out.bstep hb)
      have Hf7 := Lib.hid (Hf6.out.below hb Hf6.out.lt)
      have Hfl7 := Lib.hid (Hfl6.out.below hb)
      clear hb r6 f6 H6 Hs6 Hr6 Hfl6 Hf6 HD HC
      have c2 : ∀ i, w7.cell? ⟨w.heap.size + 1, i, none⟩ = (#[.int .u8 0, .int .u8 0, .string ⟨#[]⟩, .string ⟨#[]⟩, .string ⟨#[]⟩, .slice none 0 0, .slice none 0 0, .slice none 0 0, .slice none 0 0, .int .i64 0] : Array Value)[i]? := H7.out.r.cell
      have f2 := H7.out.r.frozen
      have f7 := Hf7.out.cell
      go_wp2_with fail
      obtain ⟨hbf, hl', hB⟩ := H7.out.done Hfl7.out (fun j hj => ⟨by omega, by omega⟩)
      have HH := Lib.hid (And.intro hl' hB)
      clear hl' hB c2 f2 f7
      unfold setTen foCells at hbf
      unfold setTen at HH
      dsimp only at hbf HH
      have hcf := hbf.cell
      clear hbf
      refine bodyPost_ret (v := .tuple #[.agg #[.int .u8 fk, .int .u8 fw, .string fn, .string fp, .string ft, .slice apo fo.length aco, .slice apf ff.length acf, .slice apr fr.length acr, .slice app fc.length acp, .int .i64 fm], .int .i64 0]) (by simp [results, Tryz.results71, go_sem, hcf]) rfl ?_
      unfold DecR
      rw [Hd'.out]
      exact ⟨⟨apo, aco, apf, acf, apr, acr, app, acp⟩, rfl, HH.out.1, HH.out.2⟩
    · have Hd' : Hid (decF k l = (foZero 0, 4)) := Lib.hid (by rw [Hd.out, if_neg hc0])
      clear Hd
      have hci : (cv != 0) = true := by simpa using hc0
      go_upto_region 9 with (first | (go_at_call 90; refine HD.out.mono ?_; rintro e w7 ⟨rfl, rfl⟩) | (go_at_call 91; refine HC.out.mono ?_; rintro e w7 ⟨rfl, hb⟩))
      have H7 := Lib.hid (H6.out.bstep hb)
      clear hb r6 f6 H6 Hs6 Hr6 Hfl6 Hf6 HD HC
      have Hd := Hd'
      clear Hd'
      have c2 : ∀ i, w7.cell? ⟨w.heap.size + 1, i, none⟩ = (#[.int .u8 0, .int .u8 0, .string ⟨#[]⟩, .string ⟨#[]⟩, .string ⟨#[]⟩, .slice none 0 0, .slice none 0 0, .slice none 0 0, .slice none 0 0, .int .i64 0] : Array Value)[i]? := H7.out.r.cell
      have f2 := H7.out.r.frozen
      go_wp2_with fail
      obtain ⟨hbf, hl', hB⟩ := H7.out.done (FoL.zero (fun _ => False) _ 0) (fun _ e => e.elim)
      have HH := Lib.hid (And.intro hl' hB)
      clear hl' hB c2 f2
      unfold setTen foCells foZero foNil at hbf
      unfold setTen at HH
      dsimp only [List.length_nil] at hbf
      have hcf := hbf.cell
      clear hbf
      refine bodyPost_ret (v := .tuple #[.agg #[.int .u8 0, .int .u8 0, .string ⟨#[]⟩, .string ⟨#[]⟩, .string ⟨#[]⟩, .slice none 0 0, .slice none 0 0, .slice none 0 0, .slice none 0 0, .int .i64 0], .int .i64 4]) (by simp [results, Tryz.results71, go_sem, hcf]) rfl ?_
      unfold DecR
      rw [Hd.out]
      exact ⟨foNil, rfl, HH.out.1, HH.out.2⟩

end Go.Proofs.YtacnmdlefonjmaaGreat

/-
  Messages of clients (layer 6): Decode, the document's.
-/
namespace Go.Proofs.YtacnmdlefonjmaaGreat
open Go.RowKit
set_option linter.unusedVariables false
set_option linter.unusedSimpArgs false

set_option maxRecDepth 100000 in
set_option maxHeartbeats 4000000 in
theorem rdec_any (k : Int) (h0 : 0 ≤ k) (h1 : k < 256) (p : Option Addr) (l : List UInt8) (cap : Nat) (w : World) (hl : l.length ≤ 100000) (hb : BytesIn w p l) :
    Calls Tryz.prog 33 #[.agg #[.int .u8 k, .slice p l.length cap]] w (DecR k l w) := by
  have H1 := Lib.hid (DeI.start w #[.int .u8 k, .slice p l.length cap])
  have HK := Lib.hid (fun w0 : World => rknown_any k w0)
  have HU := Lib.hid (fun h : knownV k = 0 => dec_unknown (L := l) h)
  have HO := Lib.hid (fun h : knownV k = 2 => dec_other (L := l) h)
  have HQ := Lib.hid (fun (L' : List UInt8) (f : FoV) (b : Bool) (h1 : knownV k = 1) h2 h3 => @dec_bad k l L' f b h1 h2 h3)
  have HG := Lib.hid (fun (f : FoV) (h1 : knownV k = 1) h2 => @dec_ok k l f h1 h2)
  have Hb1 : Hid (BytesIn ((w.alloc (.cells #[.int .u8 k, .slice p l.length cap] 73)).alloc (.cells foZ 46)) p l) := Lib.hid ((((Touch.refl (fun _ => False) w).alloc _).alloc _).bytesIn hb (fun _ _ _ e => e))
  unfold foZ at H1 Hb1
  clear hb
  go_enter Tryz.func33, Tryz.ntmps33
  go_upto_region 1 with (fail)
  generalize (w.alloc (.cells #[.int .u8 k, .slice p l.length cap] 73)).alloc (.cells #[.int .u8 0, .int .u8 0, .string ⟨#[]⟩, .string ⟨#[]⟩, .string ⟨#[]⟩, .slice none 0 0, .slice none 0 0, .slice none 0 0, .slice none 0 0, .int .i64 0] 46) = w1 at *
  have c1 := H1.out.m.cell
  go_wp2_with fail
  refine (HK.out w1).mono ?_
  rintro e w2 ⟨rfl, hb⟩
  have H2 : Hid (DeI w w2 #[.int .u8 k, .slice p l.length cap]) := Lib.hid (by rw [← hb]; exact H1.out)
  have Hb2 : Hid (BytesIn w2 p l) := Lib.hid (by rw [← hb]; exact Hb1.out)
  clear hb c1 Hb1 H1 HK
  generalize hkv : knownV k = kv at *
  have Hkv := Lib.hid hkv
  clear hkv
  by_cases hk0 : kv = 0
  · subst hk0
    have Hd := Lib.hid (HU.out rfl)
    clear HO HQ HG HU
    have c2 : ∀ i, w2.cell? ⟨w.heap.size + 1, i, none⟩ = (#[.int .u8 0, .int .u8 0, .string ⟨#[]⟩, .string ⟨#[]⟩, .string ⟨#[]⟩, .slice none 0 0, .slice none 0 0, .slice none 0 0, .slice none 0 0, .int .i64 0] : Array Value)[i]? := H2.out.r.cell
    have f2 := H2.out.r.frozen
    go_wp2_with fail
    obtain ⟨hbf, hl', hB⟩ := H2.out.done (FoL.zero (fun _ => False) w2 0) (fun _ e => e.elim)
    have HH := Lib.hid (And.intro hl' hB)
    clear hl' hB c2 f2
    unfold setTen foCells foZero foNil at hbf
    unfold setTen at HH
    dsimp only [List.length_nil] at hbf
    have hcf := hbf.cell
    clear hbf
    refine bodyPost_ret (v := .tuple #[.agg #[.int .u8 0, .int .u8 0, .string ⟨#[]⟩, .string ⟨#[]⟩, .string ⟨#[]⟩, .slice none 0 0, .slice none 0 0, .slice none 0 0, .slice none 0 0, .int .i64 0], .int .i64 4]) (by simp [results, Tryz.results33, go_sem, hcf]) rfl ?_
    unfold DecR
    rw [Hd.out]
    exact ⟨foNil, rfl, HH.out.1, HH.out.2⟩
  by_cases hk2 : kv = 2
  · subst hk2
    have Hd := Lib.hid (HO.out rfl)
    clear HO HQ HG HU
    have c2 : ∀ i, w2.cell? ⟨w.heap.size + 1, i, none⟩ = (#[.int .u8 0, .int .u8 0, .string ⟨#[]⟩, .string ⟨#[]⟩, .string ⟨#[]⟩, .slice none 0 0, .slice none 0 0, .slice none 0 0, .slice none 0 0, .int .i64 0] : Array Value)[i]? := H2.out.r.cell
    have f2 := H2.out.r.frozen
    go_wp2_with fail
    obtain ⟨hbf, hl', hB⟩ := H2.out.done (FoL.zero (fun _ => False) w2 0) (fun _ e => e.elim)
    have HH := Lib.hid (And.intro hl' hB)
    clear hl' hB c2 f2
    unfold setTen foCells foZero foNil at hbf
    unfold setTen at HH
    dsimp only [List.length_nil] at hbf
    have hcf := hbf.cell
    clear hbf
    refine bodyPost_ret (v := .tuple #[.agg #[.int .u8 0, .int .u8 0, .string ⟨#[]⟩, .string ⟨#[]⟩, .string ⟨#[]⟩, .slice none 0 0, .slice none 0 0, .slice none 0 0, .slice none 0 0, .int .i64 0], .int .i64 9]) (by simp [results, Tryz.results33, go_sem, hcf]) rfl ?_
    unfold DecR
    rw [Hd.out]
    exact ⟨foNil, rfl, HH.out.1, HH.out.2⟩
  have hk1 : kv = 1 := by
    rw [← Hkv.out] at hk0 hk2 ⊢
    unfold knownV at hk0 hk2 ⊢
    split at hk0
    · rename_i h; rw [if_pos h]
    · rename_i h; rw [if_neg h] at hk2; split at hk0
      · rename_i h'; rw [if_pos h'] at hk2; exact absurd rfl hk2
      · exact absurd rfl hk0
  subst hk1
  have Hq := Lib.hid (fun L' f b => HQ.out L' f b rfl)
  have Hg := Lib.hid (fun f => HG.out f rfl)
  clear HO HQ HG HU hk0 hk2
  have c2 := H2.out.m.cell
  have HN := Lib.hid (refSNew_any p l cap w2 (by omega) Hb2.out)
  go_upto_region 7 with (go_at_call 55; refine HN.out.mono ?_; rintro e w3 ⟨sb, g, rfl, hs, hsb, hg, hT⟩; have H3 := Lib.hid (H2.out.step hT (fun _ e => e.elim)); have Hs3 := Lib.hid hs; have hz3 := hT.size; clear hs hT HN c2)
  have hw2 := H2.out.r.lt
  have hsl := Hs3.out.lt
  have H4 := Lib.hid H3.out
  have Hs4 := Lib.hid Hs3.out
  clear H3 Hs3 H2 Hb2
  generalize w3 = w4 at *
  have c4 := H4.out.m.cell
  have HM := Lib.hid (frmsg_any sb g l false w4 Hs4.out hl k)
  unfold frmsgR foArg foCells at HM
  go_upto_region 8 with (go_at_call 60; refine HM.out.mono ?_; rintro e w5 ⟨f, a, L', b', rfl, hfl, hs, hq, hT⟩; have H5 := Lib.hid (H4.out.step hT (fun j e => by omega)); have Hs5 := Lib.hid hs; have Hfl5 := Lib.hid hfl; have HQ := Lib.hid hq; have hz5 := hT.size; clear hs hT hfl hq HM c4 H4 Hs4)
  obtain ⟨fk, fw, fn, fp, ft, fo, ff, fr, fc, fm⟩ := f
  obtain ⟨apo, aco, apf, acf, apr, acr, app, acp⟩ := a
  dsimp only
  have hw5 := H5.out.r.lt
  have hal : Below w5.heap.size w5 (w5.alloc (.cells #[.int .u8 fk, .int .u8 fw, .string fn, .string fp, .string ft, .slice apo fo.length aco, .slice apf ff.length acf, .slice apr fr.length acr, .slice app fc.length acp, .int .i64 fm] 46)) := (Below.refl _ _).alloc (Nat.le_refl _) _
  have H6 := Lib.hid (H5.out.bstep hal)
  have Hs6 := Lib.hid (Hs5.out.touch (Touch.of_below (p := fun _ => False) hal) (fun e => e) (fun _ e => e))
  have Hf6 : Hid (Blk (w5.alloc (.cells #[.int .u8 fk, .int .u8 fw, .string fn, .string fp, .string ft, .slice apo fo.length aco, .slice apf ff.length acf, .slice apr fr.length acr, .slice app fc.length acp, .int .i64 fm] 46)) w5.heap.size 46 #[.int .u8 fk, .int .u8 fw, .string fn, .string fp, .string ft, .slice apo fo.length aco, .slice apf ff.length acf, .slice apr fr.length acr, .slice app fc.length acp, .int .i64 fm]) := Lib.hid (Blk.new _ _ _)
  have Hfl6 := Lib.hid (Hfl5.out.below hal)
  have hz6 : w5.heap.size < (w5.alloc (.cells #[.int .u8 fk, .int .u8 fw, .string fn, .string fp, .string ft, .slice apo fo.length aco, .slice apf ff.length acf, .slice apr fr.length acr, .slice app fc.length acp, .int .i64 fm] 46)).heap.size := by simp
  clear hal H5 Hs5 Hfl5
  generalize w5.alloc (.cells #[.int .u8 fk, .int .u8 fw, .string fn, .string fp, .string ft, .slice apo fo.length aco, .slice apf ff.length acf, .slice apr fr.length acr, .slice app fc.length acp, .int .i64 fm] 46) = w6 at *
  generalize w5.heap.size = gf at *
  have f6 := Hf6.out.cell
  have HD := Lib.hid (refSDone_any sb g L' b' w6 Hs6.out)
  generalize hem : (!b' && L'.isEmpty) = em at *
  cases em with
  | false =>
    have Hd := Lib.hid (Hq.out _ _ _ HQ.out hem)
    have c2 : ∀ i, w6.cell? ⟨w.heap.size + 1, i, none⟩ = (#[.int .u8 0, .int .u8 0, .string ⟨#[]⟩, .string ⟨#[]⟩, .string ⟨#[]⟩, .slice none 0 0, .slice none 0 0, .slice none 0 0, .slice none 0 0, .int .i64 0] : Array Value)[i]? := H6.out.r.cell
    have f2 := H6.out.r.frozen
    clear hem
    go_wp2_with (go_at_call 58; refine HD.out.mono ?_; rintro e w7 ⟨rfl, rfl⟩)
    obtain ⟨hbf, hl', hB⟩ := H6.out.done (FoL.zero (fun _ => False) _ 0) (fun _ e => e.elim)
    have HH := Lib.hid (And.intro hl' hB)
    clear hl' hB c2 f2
    unfold setTen foCells foZero foNil at hbf
    unfold setTen at HH
    dsimp only [List.length_nil] at hbf
    have hcf := hbf.cell
    clear hbf
    refine bodyPost_ret (v := .tuple #[.agg #[.int .u8 0, .int .u8 0, .string ⟨#[]⟩, .string ⟨#[]⟩, .string ⟨#[]⟩, .slice none 0 0, .slice none 0 0, .slice none 0 0, .slice none 0 0, .int .i64 0], .int .i64 4]) (by simp [results, Tryz.results33, go_sem, hcf]) rfl ?_
    unfold DecR
    rw [Hd.out]
    exact ⟨foNil, rfl, HH.out.1, HH.out.2⟩
  | true =>
    have hb' : b' = false := by cases b' <;> simp at hem ⊢
    subst hb'
    have hL' : L' = [] := by cases L' <;> simp at hem ⊢
    subst hL'
    clear hem
    have hrd := (HQ.out.1 rfl).2
    have hsm := readP_small hrd
    have hfk : fk = k := hsm.kind
    have hfb : FoB ⟨fk, fw, fn, fp, ft, fo, ff, fr, fc, fm⟩ := ⟨by rw [← hfk] at h0; exact h0, by rw [← hfk] at h1; exact h1, hsm.what.1, hsm.what.2⟩
    have HC := Lib.hid (rcheck_any _ ⟨fk, fw, fn, fp, ft, fo, ff, fr, fc, fm⟩ ⟨apo, aco, apf, acf, apr, acr, app, acp⟩ w6 Hfl6.out hfb (by have := hsm.name; dsimp only at this ⊢; simp [maxLen]; omega) (by have := hsm.portal; dsimp only at this ⊢; simp [maxLen]; omega) (by have := hsm.text; dsimp only at this ⊢; simp [maxLen]; omega))
    have Hd := Lib.hid (Hg.out _ HQ.out)
    clear hrd hsm hfk hfb HQ Hq Hg
    unfold foArg foCells at HC
    dsimp only at HC
    generalize hcv : checkF ⟨fk, fw, fn, fp, ft, fo, ff, fr, fc, fm⟩ = cv at *
    clear hcv
    by_cases hc0 : cv = 0
    · subst hc0
      have Hd' : Hid (decF k l = (⟨fk, fw, fn, fp, ft, fo, ff, fr, fc, fm⟩, 0)) := Lib.hid (by rw [Hd.out, if_pos rfl])
      clear Hd
      go_upto_region 10 with (first | (go_at_call 58; refine HD.out.mono ?_; rintro e w7 ⟨rfl, rfl⟩) | (go_at_call 61; refine HC.out.mono ?_; rintro e w7 ⟨rfl, hb⟩))
      have H7 := Lib.hid (H6.out.bstep hb)
      have Hf7 := Lib.hid (Hf6.out.below hb Hf6.out.lt)
      have Hfl7 := Lib.hid (Hfl6.out.below hb)
      clear hb f6 H6 Hs6 Hfl6 Hf6 HD HC
      have c2 : ∀ i, w7.cell? ⟨w.heap.size + 1, i, none⟩ = (#[.int .u8 0, .int .u8 0, .string ⟨#[]⟩, .string ⟨#[]⟩, .string ⟨#[]⟩, .slice none 0 0, .slice none 0 0, .slice none 0 0, .slice none 0 0, .int .i64 0] : Array Value)[i]? := H7.out.r.cell
      have f2 := H7.out.r.frozen
      have f7 := Hf7.out.cell
      go_wp2_with fail
      obtain ⟨hbf, hl', hB⟩ := H7.out.done Hfl7.out (fun j hj => ⟨by omega, by omega⟩)
      have HH := Lib.hid (And.intro hl' hB)
      clear hl' hB c2 f2 f7
      unfold setTen foCells at hbf
      unfold setTen at HH
      dsimp only at hbf HH
      have hcf := hbf.cell
      clear hbf
      refine bodyPost_ret (v := .tuple #[.agg #[.int .u8 fk, .int .u8 fw, .string fn, .string fp, .string ft, .slice apo fo.length aco, .slice apf ff.length acf, .slice apr fr.length acr, .slice app fc.length acp, .int .i64 fm], .int .i64 0]) (by simp [results, Tryz.results33, go_sem, hcf]) rfl ?_
      unfold DecR
      rw [Hd'.out]
      exact ⟨⟨apo, aco, apf, acf, apr, acr, app, acp⟩, rfl, HH.out.1, HH.out.2⟩
    · have Hd' : Hid (decF k l = (foZero 0, 4)) := Lib.hid (by rw [Hd.out, if_neg hc0])
      clear Hd
      have hci : (cv != 0) = true := by simpa using hc0
      go_upto_region 9 with (first | (go_at_call 58; refine HD.out.mono ?_; rintro e w7 ⟨rfl, rfl⟩) | (go_at_call 61; refine HC.out.mono ?_; rintro e w7 ⟨rfl, hb⟩))
      have H7 := Lib.hid (H6.out.bstep hb)
      clear hb f6 H6 Hs6 Hfl6 Hf6 HD HC
      have Hd := Hd'
      clear Hd'
      have c2 : ∀ i, w7.cell? ⟨w.heap.size + 1, i, none⟩ = (#[.int .u8 0, .int .u8 0, .string ⟨#[]⟩, .string ⟨#[]⟩, .string ⟨#[]⟩, .slice none 0 0, .slice none 0 0, .slice none 0 0, .slice none 0 0, .int .i64 0] : Array Value)[i]? := H7.out.r.cell
      have f2 := H7.out.r.frozen
      go_wp2_with fail
      obtain ⟨hbf, hl', hB⟩ := H7.out.done (FoL.zero (fun _ => False) _ 0) (fun _ e => e.elim)
      have HH := Lib.hid (And.intro hl' hB)
      clear hl' hB c2 f2
      unfold setTen foCells foZero foNil at hbf
      unfold setTen at HH
      dsimp only [List.length_nil] at hbf
      have hcf := hbf.cell
      clear hbf
      refine bodyPost_ret (v := .tuple #[.agg #[.int .u8 0, .int .u8 0, .string ⟨#[]⟩, .string ⟨#[]⟩, .string ⟨#[]⟩, .slice none 0 0, .slice none 0 0, .slice none 0 0, .slice none 0 0, .int .i64 0], .int .i64 4]) (by simp [results, Tryz.results33, go_sem, hcf]) rfl ?_
      unfold DecR
      rw [Hd.out]
      exact ⟨foNil, rfl, HH.out.1, HH.out.2⟩

end Go.Proofs.YtacnmdlefonjmaaGreat

