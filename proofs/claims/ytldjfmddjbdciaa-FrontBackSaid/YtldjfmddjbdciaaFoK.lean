/-
  Messages of clients (layer 6): whether one may be: the document's.
-/
import Derived.Test.YtldjfmddjbdciaaFoJ
import Derived.Test.YtldjfmddjbdciaaFoI
namespace Go.Proofs.Ytldjfmddjbdciaa
open Go.RowKit
set_option linter.unusedVariables false
set_option linter.unusedSimpArgs false

/-- What the document asks of 'What'. -/
def whatRf (f : FoV) : Bool := if f.kind = 67 ∨ f.kind = 68 then (f.what == 83) || (f.what == 80) else (f.what == 0) || ((f.what == 83) || (f.what == 80))
theorem whatRf_eq (f : FoV) : (whatRf f && foEq f (keptV f)) = (whatV f && foEq f (keptV f)) := by
  by_cases hk : f.kind = 67 ∨ f.kind = 68
  · unfold whatRf whatV
    rw [if_pos hk, if_pos hk]
  · unfold whatRf whatV
    rw [if_neg hk, if_neg hk]
    by_cases h0 : f.what = 0
    · rw [h0]
      rfl
    · have hw : (keptV f).what = 0 := by
        unfold keptV
        rw [if_neg hk]
        repeat' split
        all_goals rfl
      have he : foEq f (keptV f) = false := by
        unfold foEq headEq
        rw [hw]
        have : (f.what == 0) = false := by simpa using h0
        rw [this]
        simp
      rw [he]
      simp

theorem below_drewN' {B : Nat} (w : World) (r : Nat) (hB : B ≤ w.heap.size) : Below B w (w.drewN r) := ((Touch.refl (fun _ => False) w).drewN r).below hB (fun _ e => e.elim)

set_option maxRecDepth 100000 in
set_option maxHeartbeats 4000000 in
theorem rcheck_any (S : Nat → Prop) (x : FoV) (a : FoP) (w : World) (h : FoL S w x a) (hfb : FoB x) (hn : x.name.size ≤ maxLen) (hp : x.portal.size ≤ maxLen) (ht : x.text.size ≤ maxLen) : Calls Try.prog 29 #[foArg x a] w fun e w' => e = .returned (.int .i64 (checkF x)) ∧ Below w.heap.size w w' := by
  have H0 := Lib.hid (Fo1.start h)
  have Hv : Hid (checkF x = if knownV x.kind = 1 then (if okF x = true then 0 else 1) else 9) := Lib.hid rfl
  have Hok : Hid (okF x = ((cleanB x.name && (cleanB x.portal && cleanB x.text)) && ((between x.oids 0 4294967295 && (between x.formats 0 65535 && (between x.results 0 65535 && valuesV x.params))) && (whatRf x && (maxV x && foEq x (keptV x)))))) := Lib.hid (by
    have e := whatRf_eq x
    unfold okF listsV textsV
    generalize (cleanB x.name && (cleanB x.portal && cleanB x.text)) = a1
    generalize (between x.oids 0 4294967295 && (between x.formats 0 65535 && (between x.results 0 65535 && valuesV x.params))) = a2
    generalize whatRf x = a3 at *
    generalize whatV x = a4 at *
    generalize maxV x = a5
    generalize foEq x (keptV x) = a6 at *
    cases a1 <;> cases a2 <;> cases a3 <;> cases a4 <;> cases a5 <;> cases a6 <;> simp_all)
  have HKn := Lib.hid (fun w0 : World => rknown_any x.kind w0)
  have HT1 := Lib.hid (fun w0 : World => cleanR_any x.name w0 hn)
  have HT2 := Lib.hid (fun w0 : World => cleanR_any x.portal w0 hp)
  have HT3 := Lib.hid (fun w0 : World => cleanR_any x.text w0 ht)
  have HO := Lib.hid (fun (w0 : World) (H : Fo1 w w0 w.heap.size x a) => rbetween_any _ _ _ _ _ 0 4294967295 w0 H.l.lo)
  have HF := Lib.hid (fun (w0 : World) (H : Fo1 w w0 w.heap.size x a) => rbetween_any _ _ _ _ _ 0 65535 w0 H.l.lf)
  have HR := Lib.hid (fun (w0 : World) (H : Fo1 w w0 w.heap.size x a) => rbetween_any _ _ _ _ _ 0 65535 w0 H.l.lr)
  have HP := Lib.hid (fun (w0 : World) (H : Fo1 w w0 w.heap.size x a) => rvalues_any _ _ _ _ _ w0 H.l.lp)
  have HOf := Lib.hid (fun (w0 : World) (H : Fo1 w w0 w.heap.size x a) => kept_any _ x a w0 H.l)
  have HSm := Lib.hid (fun (a' : FoP) (w0 : World) (H : Fo1 w w0 w.heap.size x a) hk => rfoSame_any _ (fun _ => True) x (keptV x) a a' w0 H.l hk)
  have Hmx : Hid (maxV x = (decide (-2147483648 ≤ x.max) && decide (x.max < 2147483648))) := Lib.hid rfl
  have Hwr : Hid (whatRf x = if x.kind = 67 ∨ x.kind = 68 then (x.what == 83) || (x.what == 80) else (x.what == 0) || ((x.what == 83) || (x.what == 80))) := Lib.hid rfl
  have HC : Hid (∀ w1 : World, Fo1 w w1 w.heap.size x a → ∀ i, w1.cell? ⟨w.heap.size, i, none⟩ = (foCells x a)[i]?) := Lib.hid (fun w1 H => H.b.cell)
  unfold KeptR at HOf
  generalize checkF x = cv at *
  generalize okF x = ov at *
  generalize knownV x.kind = kv at *
  generalize whatRf x = wv at *
  generalize cleanB x.name = t1 at *
  generalize cleanB x.portal = t2 at *
  generalize cleanB x.text = t3 at *
  generalize between x.oids 0 4294967295 = bo at *
  generalize between x.formats 0 65535 = bf at *
  generalize between x.results 0 65535 = br at *
  generalize valuesV x.params = bc at *
  generalize foEq x (keptV x) = sv at *
  generalize maxV x = mv at *
  generalize keptV x = kx at *
  obtain ⟨xk, xw, xn, xp, xt, xo, xf, xr, xc, xm⟩ := x
  obtain ⟨apo, aco, apf, acf, apr, acr, app, acp⟩ := a
  clear h hfb hn hp ht
  unfold foArg at *
  dsimp only at *
  unfold foCells at HC HOf HSm ⊢
  dsimp only at HC HOf HSm ⊢
  go_enter Try.func29, Try.ntmps29
  go_upto_region 1 with (fail)
  unfold foCells at H0
  dsimp only at H0
  generalize w.alloc (.cells #[.int .u8 xk, .int .u8 xw, .string xn, .string xp, .string xt, .slice apo xo.length aco, .slice apf xf.length acf, .slice apr xr.length acr, .slice app xc.length acp, .int .i64 xm] 44) = w1 at *
  have hc1 := HC.out w1 H0.out
  go_wp2_with fail
  refine (HKn.out _).mono ?_
  rintro e w2 ⟨rfl, rfl⟩
  by_cases hkn : kv = 1
  · subst hkn
    have Hv2 : Hid (cv = if ov = true then 0 else 1) := Lib.hid (by rw [Hv.out]; simp)
    obtain ⟨lv, hlv⟩ : ∃ lv, lv = (bo && (bf && (br && bc))) := ⟨_, rfl⟩
    obtain ⟨tv, htv⟩ : ∃ tv, tv = (t1 && (t2 && t3)) := ⟨_, rfl⟩
    have Hlv := Lib.hid hlv
    have Htv := Lib.hid htv
    rw [← hlv, ← htv] at Hok
    clear hlv htv Hv HKn
    have HO1 := Lib.hid (HO.out w1 H0.out)
    have HF1 := Lib.hid (HF.out w1 H0.out)
    have HR1 := Lib.hid (HR.out w1 H0.out)
    have HP1 := Lib.hid (HP.out w1 H0.out)
    go_upto_region 3 with fail
    go_cut [3] (fun v wx => v = .bool tv ∧ wx = w1)
    case first =>
      go_wp2_with fail
      refine (HT1.out _).mono ?_
      rintro e w3 ⟨rfl, rfl⟩
      cases t1 with
      | false =>
        go_wp2_with fail
        go_meet
        exact ⟨by rw [Htv.out]; rfl, rfl⟩
      | true =>
        go_wp2_with fail
        refine (HT2.out _).mono ?_
        rintro e w3 ⟨rfl, rfl⟩
        cases t2 with
        | false =>
          go_wp2_with fail
          go_meet
          exact ⟨by rw [Htv.out]; rfl, rfl⟩
        | true =>
          go_wp2_with fail
          refine (HT3.out _).mono ?_
          rintro e w3 ⟨rfl, rfl⟩
          go_wp2_with fail
          go_meet
          exact ⟨by rw [Htv.out]; rfl, rfl⟩
    case rest =>
      obtain ⟨rfl, rfl⟩ := hcut
      go_upto_region 4 with fail
      go_cut [4] (fun v wx => v = .bool lv ∧ wx = wc)
      case first =>
        go_wp2_with fail
        refine HO1.out.mono ?_
        rintro e w3 ⟨rfl, rfl⟩
        cases bo with
        | false =>
          go_wp2_with fail
          go_meet
          exact ⟨by rw [Hlv.out]; rfl, rfl⟩
        | true =>
          go_wp2_with fail
          refine HF1.out.mono ?_
          rintro e w3 ⟨rfl, rfl⟩
          cases bf with
          | false =>
            go_wp2_with fail
            go_meet
            exact ⟨by rw [Hlv.out]; rfl, rfl⟩
          | true =>
            go_wp2_with fail
            refine HR1.out.mono ?_
            rintro e w3 ⟨rfl, rfl⟩
            cases br with
            | false =>
              go_wp2_with fail
              go_meet
              exact ⟨by rw [Hlv.out]; rfl, rfl⟩
            | true =>
              go_wp2_with fail
              refine HP1.out.mono ?_
              rintro e w3 ⟨rfl, rfl⟩
              go_wp2_with fail
              go_meet
              exact ⟨by rw [Hlv.out]; rfl, rfl⟩
      case rest =>
        obtain ⟨rfl, rfl⟩ := hcut
        have HOf2 := Lib.hid (HOf.out (wc.drewN 1) H0.out.drew1)
        clear HT1 HT2 HT3 HO1 HF1 HR1 HP1 HO HF HR HP HOf
        obtain ⟨w3, hw3⟩ : ∃ w3, w3 = ((xw == 0) || ((xw == 83) || (xw == 80))) := ⟨_, rfl⟩
        have Hw3 := Lib.hid hw3
        rw [← hw3] at Hwr
        clear hw3
        go_upto_region 5 with fail
        go_cut [0, 5] (fun _ v wx => v = .bool w3 ∧ wx = wc)
        case first =>
          go_wp2_with fail
          all_goals
            go_meet
            refine ⟨?_, rfl⟩
            rw [Hw3.out]
            try simp_all [Bool.or_assoc]
        case rest =>
          obtain ⟨rfl, rfl⟩ := hcut
          by_cases k1 : xk = 67
          · rw [if_pos (.inl k1)] at Hwr
            subst k1
            go_upto_region 7 with fail
            go_cut [0, 5] (fun _ v wx => v = .bool wv ∧ wx = wc)
            case first =>
              go_wp2_with fail
              all_goals
                go_meet
                refine ⟨?_, rfl⟩
                rw [Hwr.out]
                try simp_all
            case rest =>
              obtain ⟨rfl, rfl⟩ := hcut
              cases tv with
              | false =>
                go_wp2_with fail
                go_quiet (fail)
                go_wp2_with fail
                go_ret
                exact ⟨ret_int (by rw [Hv2.out, Hok.out]; simp), H0.out.bel.trans (below_drewN' wc _ H0.out.bel.size)⟩
              | true =>
                cases lv with
                | false =>
                  go_wp2_with fail
                  go_quiet (fail)
                  go_wp2_with fail
                  go_ret
                  exact ⟨ret_int (by rw [Hv2.out, Hok.out]; simp), H0.out.bel.trans (below_drewN' wc _ H0.out.bel.size)⟩
                | true =>
                  cases wv with
                  | false =>
                    go_wp2_with fail
                    go_quiet (fail)
                    go_wp2_with fail
                    go_ret
                    exact ⟨ret_int (by rw [Hv2.out, Hok.out]; simp), H0.out.bel.trans (below_drewN' wc _ H0.out.bel.size)⟩
                  | true =>
                    by_cases m1 : -2147483648 ≤ xm
                    · by_cases m2 : xm < 2147483648
                      · rw [decide_eq_true m1, decide_eq_true m2] at Hmx
                        have hd1 : decide (xm < -2147483648) = false := decide_eq_false (by omega)
                        have hd2 : decide (2147483647 < xm) = false := decide_eq_false (by omega)
                        go_upto_region 8 with fail
                        go_region_held3 (fun w' => ∀ i, w'.cell? ⟨w.heap.size, i, none⟩ = (#[.int .u8 67, .int .u8 xw, .string xn, .string xp, .string xt, .slice apo xo.length aco, .slice apf xf.length acf, .slice apr xr.length acr, .slice app xc.length acp, .int .i64 xm] : Array Value)[i]?)
                          (first | exact hc1 | exact HC.out _ H7.out | exact HC.out _ H8.out | go_keep)
                          (first
                            | (go_at_call 63; refine HOf2.out.mono ?_; rintro e w7 ⟨a', rfl, hk, hb⟩; have H7 := Lib.hid (H0.out.drew1.step hb); have HSm2 := Lib.hid (HSm.out a' w7 H7.out hk.any); clear hb hk)
                            | (go_at_call 31; refine HSm2.out.mono ?_; rintro e w8 ⟨rfl, hb⟩; have H8 := Lib.hid (H7.out.step hb); clear hb))
                        clear hc1
                        cases sv with
                        | true =>
                          go_wp2_with fail
                          go_ret
                          exact ⟨ret_int (by rw [Hv2.out, Hok.out, Hmx.out]; rfl), H8.out.bel⟩
                        | false =>
                          go_wp2_with fail
                          go_ret
                          exact ⟨ret_int (by rw [Hv2.out, Hok.out, Hmx.out]; rfl), H8.out.bel⟩
                      · rw [decide_eq_false m2] at Hmx
                        have hd1 : decide (xm < -2147483648) = false := decide_eq_false (by omega)
                        have hd2 : decide (2147483647 < xm) = true := decide_eq_true (by omega)
                        go_wp2_with fail
                        go_quiet (fail)
                        go_wp2_with fail
                        go_ret
                        exact ⟨ret_int (by rw [Hv2.out, Hok.out, Hmx.out]; simp), H0.out.bel.trans (below_drewN' wc _ H0.out.bel.size)⟩
                    · rw [decide_eq_false m1] at Hmx
                      have hd1 : decide (xm < -2147483648) = true := decide_eq_true (by omega)
                      go_wp2_with fail
                      go_quiet (fail)
                      go_wp2_with fail
                      go_ret
                      exact ⟨ret_int (by rw [Hv2.out, Hok.out, Hmx.out]; simp), H0.out.bel.trans (below_drewN' wc _ H0.out.bel.size)⟩
          · by_cases k2 : xk = 68
            · rw [if_pos (.inr k2)] at Hwr
              subst k2
              clear k1
              go_upto_region 7 with fail
              go_cut [0, 5] (fun _ v wx => v = .bool wv ∧ wx = wc)
              case first =>
                go_wp2_with fail
                all_goals
                  go_meet
                  refine ⟨?_, rfl⟩
                  rw [Hwr.out]
                  try simp_all
              case rest =>
                obtain ⟨rfl, rfl⟩ := hcut
                cases tv with
                | false =>
                  go_wp2_with fail
                  go_quiet (fail)
                  go_wp2_with fail
                  go_ret
                  exact ⟨ret_int (by rw [Hv2.out, Hok.out]; simp), H0.out.bel.trans (below_drewN' wc _ H0.out.bel.size)⟩
                | true =>
                  cases lv with
                  | false =>
                    go_wp2_with fail
                    go_quiet (fail)
                    go_wp2_with fail
                    go_ret
                    exact ⟨ret_int (by rw [Hv2.out, Hok.out]; simp), H0.out.bel.trans (below_drewN' wc _ H0.out.bel.size)⟩
                  | true =>
                    cases wv with
                    | false =>
                      go_wp2_with fail
                      go_quiet (fail)
                      go_wp2_with fail
                      go_ret
                      exact ⟨ret_int (by rw [Hv2.out, Hok.out]; simp), H0.out.bel.trans (below_drewN' wc _ H0.out.bel.size)⟩
                    | true =>
                      by_cases m1 : -2147483648 ≤ xm
                      · by_cases m2 : xm < 2147483648
                        · rw [decide_eq_true m1, decide_eq_true m2] at Hmx
                          have hd1 : decide (xm < -2147483648) = false := decide_eq_false (by omega)
                          have hd2 : decide (2147483647 < xm) = false := decide_eq_false (by omega)
                          go_upto_region 8 with fail
                          go_region_held3 (fun w' => ∀ i, w'.cell? ⟨w.heap.size, i, none⟩ = (#[.int .u8 68, .int .u8 xw, .string xn, .string xp, .string xt, .slice apo xo.length aco, .slice apf xf.length acf, .slice apr xr.length acr, .slice app xc.length acp, .int .i64 xm] : Array Value)[i]?)
                            (first | exact hc1 | exact HC.out _ H7.out | exact HC.out _ H8.out | go_keep)
                            (first
                              | (go_at_call 63; refine HOf2.out.mono ?_; rintro e w7 ⟨a', rfl, hk, hb⟩; have H7 := Lib.hid (H0.out.drew1.step hb); have HSm2 := Lib.hid (HSm.out a' w7 H7.out hk.any); clear hb hk)
                              | (go_at_call 31; refine HSm2.out.mono ?_; rintro e w8 ⟨rfl, hb⟩; have H8 := Lib.hid (H7.out.step hb); clear hb))
                          clear hc1
                          cases sv with
                          | true =>
                            go_wp2_with fail
                            go_ret
                            exact ⟨ret_int (by rw [Hv2.out, Hok.out, Hmx.out]; rfl), H8.out.bel⟩
                          | false =>
                            go_wp2_with fail
                            go_ret
                            exact ⟨ret_int (by rw [Hv2.out, Hok.out, Hmx.out]; rfl), H8.out.bel⟩
                        · rw [decide_eq_false m2] at Hmx
                          have hd1 : decide (xm < -2147483648) = false := decide_eq_false (by omega)
                          have hd2 : decide (2147483647 < xm) = true := decide_eq_true (by omega)
                          go_wp2_with fail
                          go_quiet (fail)
                          go_wp2_with fail
                          go_ret
                          exact ⟨ret_int (by rw [Hv2.out, Hok.out, Hmx.out]; simp), H0.out.bel.trans (below_drewN' wc _ H0.out.bel.size)⟩
                      · rw [decide_eq_false m1] at Hmx
                        have hd1 : decide (xm < -2147483648) = true := decide_eq_true (by omega)
                        go_wp2_with fail
                        go_quiet (fail)
                        go_wp2_with fail
                        go_ret
                        exact ⟨ret_int (by rw [Hv2.out, Hok.out, Hmx.out]; simp), H0.out.bel.trans (below_drewN' wc _ H0.out.bel.size)⟩
            · rw [if_neg (fun e => e.elim k1 k2)] at Hwr
              have k1b : (xk == 67) = false := by simpa using k1
              have k2b : (xk == 68) = false := by simpa using k2
              obtain rfl : wv = w3 := Hwr.out
              clear k1 k2
              cases tv with
              | false =>
                go_wp2_with fail
                go_quiet (fail)
                go_wp2_with fail
                go_ret
                exact ⟨ret_int (by rw [Hv2.out, Hok.out]; simp), H0.out.bel.trans (below_drewN' wc _ H0.out.bel.size)⟩
              | true =>
                cases lv with
                | false =>
                  go_wp2_with fail
                  go_quiet (fail)
                  go_wp2_with fail
                  go_ret
                  exact ⟨ret_int (by rw [Hv2.out, Hok.out]; simp), H0.out.bel.trans (below_drewN' wc _ H0.out.bel.size)⟩
                | true =>
                  cases wv with
                  | false =>
                    go_wp2_with fail
                    go_quiet (fail)
                    go_wp2_with fail
                    go_ret
                    exact ⟨ret_int (by rw [Hv2.out, Hok.out]; simp), H0.out.bel.trans (below_drewN' wc _ H0.out.bel.size)⟩
                  | true =>
                    by_cases m1 : -2147483648 ≤ xm
                    · by_cases m2 : xm < 2147483648
                      · rw [decide_eq_true m1, decide_eq_true m2] at Hmx
                        have hd1 : decide (xm < -2147483648) = false := decide_eq_false (by omega)
                        have hd2 : decide (2147483647 < xm) = false := decide_eq_false (by omega)
                        go_upto_region 8 with fail
                        go_region_held3 (fun w' => ∀ i, w'.cell? ⟨w.heap.size, i, none⟩ = (#[.int .u8 xk, .int .u8 xw, .string xn, .string xp, .string xt, .slice apo xo.length aco, .slice apf xf.length acf, .slice apr xr.length acr, .slice app xc.length acp, .int .i64 xm] : Array Value)[i]?)
                          (first | exact hc1 | exact HC.out _ H7.out | exact HC.out _ H8.out | go_keep)
                          (first
                            | (go_at_call 63; refine HOf2.out.mono ?_; rintro e w7 ⟨a', rfl, hk, hb⟩; have H7 := Lib.hid (H0.out.drew1.step hb); have HSm2 := Lib.hid (HSm.out a' w7 H7.out hk.any); clear hb hk)
                            | (go_at_call 31; refine HSm2.out.mono ?_; rintro e w8 ⟨rfl, hb⟩; have H8 := Lib.hid (H7.out.step hb); clear hb))
                        clear hc1
                        cases sv with
                        | true =>
                          go_wp2_with fail
                          go_ret
                          exact ⟨ret_int (by rw [Hv2.out, Hok.out, Hmx.out]; rfl), H8.out.bel⟩
                        | false =>
                          go_wp2_with fail
                          go_ret
                          exact ⟨ret_int (by rw [Hv2.out, Hok.out, Hmx.out]; rfl), H8.out.bel⟩
                      · rw [decide_eq_false m2] at Hmx
                        have hd1 : decide (xm < -2147483648) = false := decide_eq_false (by omega)
                        have hd2 : decide (2147483647 < xm) = true := decide_eq_true (by omega)
                        go_wp2_with fail
                        go_quiet (fail)
                        go_wp2_with fail
                        go_ret
                        exact ⟨ret_int (by rw [Hv2.out, Hok.out, Hmx.out]; simp), H0.out.bel.trans (below_drewN' wc _ H0.out.bel.size)⟩
                    · rw [decide_eq_false m1] at Hmx
                      have hd1 : decide (xm < -2147483648) = true := decide_eq_true (by omega)
                      go_wp2_with fail
                      go_quiet (fail)
                      go_wp2_with fail
                      go_ret
                      exact ⟨ret_int (by rw [Hv2.out, Hok.out, Hmx.out]; simp), H0.out.bel.trans (below_drewN' wc _ H0.out.bel.size)⟩
  · have hkb : (kv == 1) = false := by simpa using hkn
    have Hv2 : Hid (cv = 9) := Lib.hid (by rw [Hv.out, if_neg hkn])
    clear hkn
    go_wp2_with fail
    go_ret
    exact ⟨ret_int Hv2.out.symm, H0.out.bel⟩

end Go.Proofs.Ytldjfmddjbdciaa
