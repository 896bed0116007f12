/-
  Messages of clients (layer 6): whether one may be: the program's.
-/
import Derived.Test.YtldjfmddjbdciaaFoH
namespace Go.Proofs.Ytldjfmddjbdciaa
open Go.RowKit
set_option linter.unusedVariables false
set_option linter.unusedSimpArgs false

/-- A message in a block. -/
structure Fo1 (w0 w : World) (g : Nat) (x : FoV) (a : FoP) : Prop where
  b : Blk w g 44 (foCells x a)
  l : FoL (fun _ => True) w x a
  bel : Below w0.heap.size w0 w
section
variable {w0 w w' : World} {g : Nat} {x : FoV} {a : FoP}
theorem Fo1.step (h : Fo1 w0 w g x a) (hb : Below w.heap.size w w') : Fo1 w0 w' g x a := ⟨h.b.below hb h.b.lt, h.l.below hb, h.bel.trans (hb.mono h.bel.size)⟩
theorem Fo1.drew1 (h : Fo1 w0 w g x a) : Fo1 w0 (w.drewN 1) g x a := h.step (bel_drawN w 1)
theorem Fo1.start {S : Nat → Prop} {w : World} (h : FoL S w x a) : Fo1 w (w.alloc (.cells (foCells x a) 44)) w.heap.size x a := by
  have hb : Below w.heap.size w (w.alloc (.cells (foCells x a) 44)) := (Below.refl _ _).alloc (Nat.le_refl _) _
  exact ⟨Blk.new _ _ _, (h.below hb).any, hb⟩
end

theorem what_any (x : FoV) (a : FoP) (w : World) : Calls Try.prog 58 #[foArg x a] w fun e w' => e = .returned (.bool (whatV x)) ∧ Below w.heap.size w w' := by
  have HB := Lib.hid (fun cs : Array Value => (Below.refl w.heap.size w).alloc (Nat.le_refl _) (.cells cs 44))
  have Hv : Hid (whatV x = if x.kind = 67 ∨ x.kind = 68 then (x.what == 83) || (x.what == 80) else x.what == 0) := Lib.hid rfl
  generalize whatV x = v at *
  obtain ⟨xk, xw, xn, xp, xt, xo, xf, xr, xc, xm⟩ := x
  obtain ⟨apo, aco, apf, acf, apr, acr, app, acp⟩ := a
  unfold foArg
  unfold foCells
  dsimp only at *
  go_enter Try.func58, Try.ntmps58
  go_wp2_with fail
  all_goals
    go_ret
    refine ⟨ret_bool ?_, HB.out _⟩
    rw [Hv.out]
    simp_all

theorem slice3 (w : World) (e : TypeId) (a b c : ByteArray) : SliceS 1 StrU (fun _ => True) (w.alloc (.cells #[.string a, .string b, .string c] e)) [.slice (some ⟨w.heap.size, 0, none⟩) 3 3] [a, b, c] := by
  refine ⟨_, _, [[.string a], [.string b], [.string c]], rfl, Nat.le_refl _, by simp [maxLen], fun j u hu => ⟨_, _, rfl, trivial, ?_⟩, ?_⟩
  · rw [Nat.zero_add, World.cell?_alloc_new]
    simpa using hu
  · exact ⟨⟨rfl, rfl⟩, ⟨rfl, rfl⟩, ⟨rfl, rfl⟩, trivial⟩

set_option maxRecDepth 100000 in
set_option maxHeartbeats 4000000 in
theorem check_any (S : Nat → Prop) (x : FoV) (a : FoP) (w : World) (h : FoL S w x a) (hfb : FoB x) : Calls Try.prog 28 #[foArg x a] w fun e w' => e = .returned (.int .i64 (checkF x)) ∧ Below w.heap.size w w' := by
  have H0 := Lib.hid (Fo1.start h)
  have Hv : Hid (checkF x = if knownV x.kind = 1 then (if okF x = true then 0 else 1) else 9) := Lib.hid rfl
  have Hok : Hid (okF x = (whatV x && ((between x.oids 0 4294967295 && (between x.formats 0 65535 && (between x.results 0 65535 && valuesV x.params))) && ((!([x.name, x.portal, x.text].any dirty)) && (maxV x && foEq x (keptV x)))))) := Lib.hid (by
    unfold okF listsV textsV
    have e : (!([x.name, x.portal, x.text].any dirty)) = (cleanB x.name && (cleanB x.portal && cleanB x.text)) := by simp [dirty]
    rw [e])
  have HKn := Lib.hid (fun w0 : World => known_any x.kind hfb.1 hfb.2.1 w0)
  have HWh := Lib.hid (fun w0 : World => what_any x a w0)
  have HO := Lib.hid (fun (w0 : World) (H : Fo1 w w0 w.heap.size x a) => within_any _ _ _ _ _ 0 4294967295 w0 H.l.lo)
  have HF := Lib.hid (fun (w0 : World) (H : Fo1 w w0 w.heap.size x a) => within_any _ _ _ _ _ 0 65535 w0 H.l.lf)
  have HR := Lib.hid (fun (w0 : World) (H : Fo1 w w0 w.heap.size x a) => within_any _ _ _ _ _ 0 65535 w0 H.l.lr)
  have HP := Lib.hid (fun (w0 : World) (H : Fo1 w w0 w.heap.size x a) => cells_any _ _ _ _ _ w0 H.l.lp)
  have HOf := Lib.hid (fun (hw : whatV x = true) (w0 : World) (H : Fo1 w w0 w.heap.size x a) => of_any _ x a w0 H.l hw)
  have HSm := Lib.hid (fun (a' : FoP) (w0 : World) (H : Fo1 w w0 w.heap.size x a) hk => foSame_any _ (fun _ => True) x (keptV x) a a' w0 H.l hk)
  have Hmx : Hid (maxV x = (decide (-2147483648 ≤ x.max) && decide (x.max < 2147483648))) := Lib.hid rfl
  have HC : Hid (∀ w1 : World, Fo1 w w1 w.heap.size x a → ∀ i, w1.cell? ⟨w.heap.size, i, none⟩ = (foCells x a)[i]?) := Lib.hid (fun w1 H => H.b.cell)
  unfold KeptR at HOf
  generalize checkF x = cv at *
  generalize okF x = ov at *
  generalize knownV x.kind = kv at *
  generalize whatV x = wv at *
  generalize between x.oids 0 4294967295 = bo at *
  generalize between x.formats 0 65535 = bf at *
  generalize between x.results 0 65535 = br at *
  generalize valuesV x.params = bc at *
  generalize foEq x (keptV x) = sv at *
  generalize maxV x = mv at *
  generalize keptV x = kx at *
  obtain ⟨xk, xw, xn, xp, xt, xo, xf, xr, xc, xm⟩ := x
  obtain ⟨apo, aco, apf, acf, apr, acr, app, acp⟩ := a
  clear h hfb
  unfold foArg at *
  dsimp only at *
  generalize hKXA : kx = kx' at *
  clear hKXA
  unfold foCells at HC HWh HOf HSm ⊢
  dsimp only at HC HWh HOf HSm ⊢
  go_enter Try.func28, Try.ntmps28
  go_upto_region 1 with (fail)
  unfold foCells at H0
  dsimp only at H0
  generalize w.alloc (.cells #[.int .u8 xk, .int .u8 xw, .string xn, .string xp, .string xt, .slice apo xo.length aco, .slice apf xf.length acf, .slice apr xr.length acr, .slice app xc.length acp, .int .i64 xm] 44) = w1 at *
  have hc1 := HC.out w1 H0.out
  go_wp2_with fail
  refine (HKn.out _).mono ?_
  rintro e w2 ⟨rfl, hb⟩
  have H2 := Lib.hid (H0.out.step hb)
  have hc2 := HC.out w2 H2.out
  clear hb hc1
  by_cases hkn : kv = 1
  · subst hkn
    have Hv2 : Hid (cv = if ov = true then 0 else 1) := Lib.hid (by rw [Hv.out]; simp)
    obtain ⟨lv, hlv⟩ : ∃ lv, lv = (bo && (bf && (br && bc))) := ⟨_, rfl⟩
    have Hlv := Lib.hid hlv
    rw [← hlv] at Hok
    clear hlv Hv HKn
    go_upto_region 3 with fail
    go_cut [3] (fun v wx => v = .bool lv ∧ Fo1 w wx w.heap.size ⟨xk, xw, xn, xp, xt, xo, xf, xr, xc, xm⟩ ⟨apo, aco, apf, acf, apr, acr, app, acp⟩)
    case first =>
      go_wp2_with fail
      refine (HO.out _ H2.out).mono ?_
      rintro e w3 ⟨rfl, hb⟩
      have H3 := Lib.hid (H2.out.step hb)
      have hc3 := HC.out w3 H3.out
      clear hb hc2
      cases bo with
      | false =>
        go_wp2_with fail
        go_meet
        exact ⟨by rw [Hlv.out]; rfl, H3.out⟩
      | true =>
        go_wp2_with fail
        refine (HF.out _ H3.out).mono ?_
        rintro e w4 ⟨rfl, hb⟩
        have H4 := Lib.hid (H3.out.step hb)
        have hc4 := HC.out w4 H4.out
        clear hb hc3
        cases bf with
        | false =>
          go_wp2_with fail
          go_meet
          exact ⟨by rw [Hlv.out]; rfl, H4.out⟩
        | true =>
          go_wp2_with fail
          refine (HR.out _ H4.out).mono ?_
          rintro e w5 ⟨rfl, hb⟩
          have H5 := Lib.hid (H4.out.step hb)
          have hc5 := HC.out w5 H5.out
          clear hb hc4
          cases br with
          | false =>
            go_wp2_with fail
            go_meet
            exact ⟨by rw [Hlv.out]; rfl, H5.out⟩
          | true =>
            go_wp2_with fail
            refine (HP.out _ H5.out).mono ?_
            rintro e w6 ⟨rfl, hb⟩
            have H6 := Lib.hid (H5.out.step hb)
            clear hb hc5
            go_wp2_with fail
            go_meet
            exact ⟨by rw [Hlv.out]; rfl, H6.out⟩
    case rest =>
      obtain ⟨rfl, hf⟩ := hcut
      have H3 := Lib.hid hf
      have hc3 := HC.out wc H3.out
      clear hf hc2 H2
      go_wp2_with fail
      refine (HWh.out _).mono ?_
      rintro e w4 ⟨rfl, hb⟩
      have H4 := Lib.hid (H3.out.step hb)
      have hc4 := HC.out w4 H4.out
      clear hb hc3
      cases wv with
      | false =>
        go_wp2_with fail
        go_ret
        exact ⟨ret_int (by rw [Hv2.out, Hok.out]; rfl), H4.out.bel⟩
      | true =>
        cases lv with
        | false =>
          go_wp2_with fail
          go_ret
          exact ⟨ret_int (by rw [Hv2.out, Hok.out]; rfl), H4.out.bel⟩
        | true =>
          have hal : Below w4.heap.size w4 (w4.alloc (.cells #[.string xn, .string xp, .string xt] 9)) := (Below.refl _ _).alloc (Nat.le_refl _) _
          have H5 := Lib.hid (H4.out.step hal)
          have hc5 := HC.out _ H5.out
          have Hcl := Lib.hid (cleanAll_any (fun _ => True) (some ⟨w4.heap.size, 0, none⟩) 3 3 [xn, xp, xt] _ (slice3 w4 9 xn xp xt))
          generalize [xn, xp, xt].any dirty = dv at *
          clear hal
          go_wp2_with fail
          refine Hcl.out.mono ?_
          rintro e w6 ⟨rfl, hb⟩
          have H6 := Lib.hid (H5.out.step hb)
          have hc6 := HC.out w6 H6.out
          clear hb hc4 hc5
          cases dv with
          | true =>
            go_wp2_with fail
            go_ret
            exact ⟨ret_int (by rw [Hv2.out, Hok.out]; rfl), H6.out.bel⟩
          | false =>
            by_cases m1 : -2147483648 ≤ xm
            · by_cases m2 : xm < 2147483648
              · rw [decide_eq_true m1, decide_eq_true m2] at Hmx
                have HOf2 := Lib.hid (HOf.out (by first | rfl | trivial) (w6.drewN 1) H6.out.drew1)
                go_upto_region 6 with fail
                go_region_held3 (fun w' => ∀ i, w'.cell? ⟨w.heap.size, i, none⟩ = (#[.int .u8 xk, .int .u8 xw, .string xn, .string xp, .string xt, .slice apo xo.length aco, .slice apf xf.length acf, .slice apr xr.length acr, .slice app xc.length acp, .int .i64 xm] : Array Value)[i]?)
                  (first | exact hc6 | exact HC.out _ H7.out | exact HC.out _ H8.out | go_keep)
                  (first
                    | (go_at_call 60; refine HOf2.out.mono ?_; rintro e w7 ⟨a', rfl, hk, hb⟩; have H7 := Lib.hid (H6.out.drew1.step hb); have HSm2 := Lib.hid (HSm.out a' w7 H7.out hk.any); clear hb hk)
                    | (go_at_call 30; refine HSm2.out.mono ?_; rintro e w8 ⟨rfl, hb⟩; have H8 := Lib.hid (H7.out.step hb); clear hb))
                clear hc6
                cases sv with
                | true =>
                  go_wp2_with fail
                  go_ret
                  exact ⟨ret_int (by rw [Hv2.out, Hok.out, Hmx.out]; rfl), H8.out.bel⟩
                | false =>
                  go_wp2_with fail
                  go_ret
                  exact ⟨ret_int (by rw [Hv2.out, Hok.out, Hmx.out]; rfl), H8.out.bel⟩
              · rw [decide_eq_false m2] at Hmx
                go_wp2_with fail
                go_ret
                exact ⟨ret_int (by rw [Hv2.out, Hok.out, Hmx.out]; simp), H6.out.bel⟩
            · rw [decide_eq_false m1] at Hmx
              go_wp2_with fail
              go_ret
              exact ⟨ret_int (by rw [Hv2.out, Hok.out, Hmx.out]; simp), H6.out.bel⟩
  · have hkb : (kv == 1) = false := by simpa using hkn
    have Hv2 : Hid (cv = 9) := Lib.hid (by rw [Hv.out, if_neg hkn])
    clear hkn
    go_wp2_with fail
    go_ret
    exact ⟨ret_int Hv2.out.symm, H2.out.bel⟩

end Go.Proofs.Ytldjfmddjbdciaa
