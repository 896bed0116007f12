/-
  Ground: FoJ, FoI.
-/
import Derived.Test.YtacnmdlefonjmaaGreatPdZP6
import Derived.BigRegion
/-
  Messages of clients (layer 6): whether one may be: the program's.
-/
namespace Go.Proofs.YtacnmdlefonjmaaGreat
open Go.RowKit
set_option linter.unusedVariables false
set_option linter.unusedSimpArgs false

/-- A message in a block. -/
structure Fo1 (w0 w : World) (g : Nat) (x : FoV) (a : FoP) : Prop where
  b : Blk w g 46 (foCells x a)
  l : FoL (fun _ => True) w x a
  bel : Below w0.heap.size w0 w
section
variable {w0 w w' : World} {g : Nat} {x : FoV} {a : FoP}
theorem Fo1.step (h : Fo1 w0 w g x a) (hb : Below w.heap.size w w') : Fo1 w0 w' g x a := ⟨h.b.below hb h.b.lt, h.l.below hb, h.bel.trans (hb.mono h.bel.size)⟩
theorem Fo1.drew1 (h : Fo1 w0 w g x a) : Fo1 w0 (w.drewN 1) g x a := h.step (bel_drawN w 1)
theorem Fo1.start {S : Nat → Prop} {w : World} (h : FoL S w x a) : Fo1 w (w.alloc (.cells (foCells x a) 46)) w.heap.size x a := by
  have hb : Below w.heap.size w (w.alloc (.cells (foCells x a) 46)) := (Below.refl _ _).alloc (Nat.le_refl _) _
  exact ⟨Blk.new _ _ _, (h.below hb).any, hb⟩
end

theorem what_any (x : FoV) (a : FoP) (w : World) : Calls Tryz.prog 105 #[foArg x a] w fun e w' => e = .returned (.bool (whatV x)) ∧ Below w.heap.size w w' := by
  have HB := Lib.hid (fun cs : Array Value => (Below.refl w.heap.size w).alloc (Nat.le_refl _) (.cells cs 46))
  have Hv : Hid (whatV x = if x.kind = 67 ∨ x.kind = 68 then (x.what == 83) || (x.what == 80) else x.what == 0) := Lib.hid rfl
  generalize whatV x = v at *
  obtain ⟨xk, xw, xn, xp, xt, xo, xf, xr, xc, xm⟩ := x
  obtain ⟨apo, aco, apf, acf, apr, acr, app, acp⟩ := a
  unfold foArg
  unfold foCells
  dsimp only at *
  go_enter Tryz.func105, Tryz.ntmps105
  go_wp2_with fail
  all_goals
    go_ret
    refine ⟨ret_bool ?_, HB.out _⟩
    rw [Hv.out]
    simp_all

theorem slice3 (w : World) (e : TypeId) (a b c : ByteArray) : SliceS 1 StrU (fun _ => True) (w.alloc (.cells #[.string a, .string b, .string c] e)) [.slice (some ⟨w.heap.size, 0, none⟩) 3 3] [a, b, c] := by
  refine ⟨_, _, [[.string a], [.string b], [.string c]], rfl, Nat.le_refl _, by simp [maxLen], fun j u hu => ⟨_, _, rfl, trivial, ?_⟩, ?_⟩
  · rw [Nat.zero_add, World.cell?_alloc_new]
    simpa using hu
  · exact ⟨⟨rfl, rfl⟩, ⟨rfl, rfl⟩, ⟨rfl, rfl⟩, trivial⟩

set_option maxRecDepth 100000 in
set_option maxHeartbeats 4000000 in
theorem check_any (S : Nat → Prop) (x : FoV) (a : FoP) (w : World) (h : FoL S w x a) (hfb : FoB x) : Calls Tryz.prog 91 #[foArg x a] w fun e w' => e = .returned (.int .i64 (checkF x)) ∧ Below w.heap.size w w' := by
  have H0 := Lib.hid (Fo1.start h)
  have Hv : Hid (checkF x = if knownV x.kind = 1 then (if okF x = true then 0 else 1) else 9) := Lib.hid rfl
  have Hok : Hid (okF x = (whatV x && ((between x.oids 0 4294967295 && (between x.formats 0 65535 && (between x.results 0 65535 && valuesV x.params))) && ((!([x.name, x.portal, x.text].any dirty)) && (maxV x && foEq x (keptV x)))))) := Lib.hid (by
    unfold okF listsV textsV
    have e : (!([x.name, x.portal, x.text].any dirty)) = (cleanB x.name && (cleanB x.portal && cleanB x.text)) := by simp [dirty]
    rw [e])
  have HKn := Lib.hid (fun w0 : World => known_any x.kind hfb.1 hfb.2.1 w0)
  have HWh := Lib.hid (fun w0 : World => what_any x a w0)
  have HO := Lib.hid (fun (w0 : World) (H : Fo1 w w0 w.heap.size x a) => within_any _ _ _ _ _ 0 4294967295 w0 H.l.lo)
  have HF := Lib.hid (fun (w0 : World) (H : Fo1 w w0 w.heap.size x a) => within_any _ _ _ _ _ 0 65535 w0 H.l.lf)
  have HR := Lib.hid (fun (w0 : World) (H : Fo1 w w0 w.heap.size x a) => within_any _ _ _ _ _ 0 65535 w0 H.l.lr)
  have HP := Lib.hid (fun (w0 : World) (H : Fo1 w w0 w.heap.size x a) => cells_any _ _ _ _ _ w0 H.l.lp)
  have HOf := Lib.hid (fun (hw : whatV x = true) (w0 : World) (H : Fo1 w w0 w.heap.size x a) => of_any _ x a w0 H.l hw)
  have HSm := Lib.hid (fun (a' : FoP) (w0 : World) (H : Fo1 w w0 w.heap.size x a) hk => foSame_any _ (fun _ => True) x (keptV x) a a' w0 H.l hk)
  have Hmx : Hid (maxV x = (decide (-2147483648 ≤ x.max) && decide (x.max < 2147483648))) := Lib.hid rfl
  have HC : Hid (∀ w1 : World, Fo1 w w1 w.heap.size x a → ∀ i, w1.cell? ⟨w.heap.size, i, none⟩ = (foCells x a)[i]?) := Lib.hid (fun w1 H => H.b.cell)
  unfold KeptR at HOf
  generalize checkF x = cv at *
  generalize okF x = ov at *
  generalize knownV x.kind = kv at *
  generalize whatV x = wv at *
  generalize between x.oids 0 4294967295 = bo at *
  generalize between x.formats 0 65535 = bf at *
  generalize between x.results 0 65535 = br at *
  generalize valuesV x.params = bc at *
  generalize foEq x (keptV x) = sv at *
  generalize maxV x = mv at *
  generalize keptV x = kx at *
  obtain ⟨xk, xw, xn, xp, xt, xo, xf, xr, xc, xm⟩ := x
  obtain ⟨apo, aco, apf, acf, apr, acr, app, acp⟩ := a
  clear h hfb
  unfold foArg at *
  dsimp only at *
  generalize hKXA : kx = kx' at *
  clear hKXA
  unfold foCells at HC HWh HOf HSm ⊢
  dsimp only at HC HWh HOf HSm ⊢
  go_enter Tryz.func91, Tryz.ntmps91
  go_upto_region 1 with (fail)
  unfold foCells at H0
  dsimp only at H0
  generalize w.alloc (.cells #[.int .u8 xk, .int .u8 xw, .string xn, .string xp, .string xt, .slice apo xo.length aco, .slice apf xf.length acf, .slice apr xr.length acr, .slice app xc.length acp, .int .i64 xm] 46) = w1 at *
  have hc1 := HC.out w1 H0.out
  go_wp2_with fail
  refine (HKn.out _).mono ?_
  rintro e w2 ⟨rfl, hb⟩
  have H2 := Lib.hid (H0.out.step hb)
  have hc2 := HC.out w2 H2.out
  clear hb hc1
  by_cases hkn : kv = 1
  · subst hkn
    have Hv2 : Hid (cv = if ov = true then 0 else 1) := Lib.hid (by rw [Hv.out]; simp)
    obtain ⟨lv, hlv⟩ : ∃ lv, lv = (bo && (bf && (br && bc))) := ⟨_, rfl⟩
    have Hlv := Lib.hid hlv
    rw [← hlv] at Hok
    clear hlv Hv HKn
    go_upto_region 3 with fail
    go_cut [3] (fun v wx => v = .bool lv ∧ Fo1 w wx w.heap.size ⟨xk, xw, xn, xp, xt, xo, xf, xr, xc, xm⟩ ⟨apo, aco, apf, acf, apr, acr, app, acp⟩)
    case first =>
      go_wp2_with fail
      refine (HO.out _ H2.out).mono ?_
      rintro e w3 ⟨rfl, hb⟩
      have H3 := Lib.hid (H2.out.step hb)
      have hc3 := HC.out w3 H3.out
      clear hb hc2
      cases bo with
      | false =>
        go_wp2_with fail
        go_meet
        exact ⟨by rw [Hlv.out]; rfl, H3.out⟩
      | true =>
        go_wp2_with fail
        refine (HF.out _ H3.out).mono ?_
        rintro e w4 ⟨rfl, hb⟩
        have H4 := Lib.hid (H3.out.step hb)
        have hc4 := HC.out w4 H4.out
        clear hb hc3
        cases bf with
        | false =>
          go_wp2_with fail
          go_meet
          exact ⟨by rw [Hlv.out]; rfl, H4.out⟩
        | true =>
          go_wp2_with fail
          refine (HR.out _ H4.out).mono ?_
          rintro e w5 ⟨rfl, hb⟩
          have H5 := Lib.hid (H4.out.step hb)
          have hc5 := HC.out w5 H5.out
          clear hb hc4
          cases br with
          | false =>
            go_wp2_with fail
            go_meet
            exact ⟨by rw [Hlv.out]; rfl, H5.out⟩
          | true =>
            go_wp2_with fail
            refine (HP.out _ H5.out).mono ?_
            rintro e w6 ⟨rfl, hb⟩
            have H6 := Lib.hid (H5.out.step hb)
            clear hb hc5
            go_wp2_with fail
            go_meet
            exact ⟨by rw [Hlv.out]; rfl, H6.out⟩
    case rest =>
      obtain ⟨rfl, hf⟩ := hcut
      have H3 := Lib.hid hf
      have hc3 := HC.out wc H3.out
      clear hf hc2 H2
      go_wp2_with fail
      refine (HWh.out _).mono ?_
      rintro e w4 ⟨rfl, hb⟩
      have H4 := Lib.hid (H3.out.step hb)
      have hc4 := HC.out w4 H4.out
      clear hb hc3
      cases wv with
      | false =>
        go_wp2_with fail
        go_ret
        exact ⟨ret_int (by rw [Hv2.out, Hok.out]; rfl), H4.out.bel⟩
      | true =>
        cases lv with
        | false =>
          go_wp2_with fail
          go_ret
          exact ⟨ret_int (by rw [Hv2.out, Hok.out]; rfl), H4.out.bel⟩
        | true =>
          have hal : Below w4.heap.size w4 (w4.alloc (.cells #[.string xn, .string xp, .string xt] 9)) := (Below.refl _ _).alloc (Nat.le_refl _) _
          have H5 := Lib.hid (H4.out.step hal)
          have hc5 := HC.out _ H5.out
          have Hcl := Lib.hid (cleanAll_any (fun _ => True) (some ⟨w4.heap.size, 0, none⟩) 3 3 [xn, xp, xt] _ (slice3 w4 9 xn xp xt))
          generalize [xn, xp, xt].any dirty = dv at *
          clear hal
          go_wp2_with fail
          refine Hcl.out.mono ?_
          rintro e w6 ⟨rfl, hb⟩
          have H6 := Lib.hid (H5.out.step hb)
          have hc6 := HC.out w6 H6.out
          clear hb hc4 hc5
          cases dv with
          | true =>
            go_wp2_with fail
            go_ret
            exact ⟨ret_int (by rw [Hv2.out, Hok.out]; rfl), H6.out.bel⟩
          | false =>
            by_cases m1 : -2147483648 ≤ xm
            · by_cases m2 : xm < 2147483648
              · rw [decide_eq_true m1, decide_eq_true m2] at Hmx
                have HOf2 := Lib.hid (HOf.out (by first | rfl | trivial) (w6.drewN 1) H6.out.drew1)
                go_upto_region 6 with fail
                go_region_held3 (fun w' => ∀ i, w'.cell? ⟨w.heap.size, i, none⟩ = (#[.int .u8 xk, .int .u8 xw, .string xn, .string xp, .string xt, .slice apo xo.length aco, .slice apf xf.length acf, .slice apr xr.length acr, .slice app xc.length acp, .int .i64 xm] : Array Value)[i]?)
                  (first | exact hc6 | exact HC.out _ H7.out | exact HC.out _ H8.out | go_keep)
                  (first
                    | (go_at_call 108; refine HOf2.out.mono ?_; rintro e w7 ⟨a', rfl, hk, hb⟩; have H7 := Lib.hid (H6.out.drew1.step hb); have HSm2 := Lib.hid (HSm.out a' w7 H7.out hk.any); clear hb hk)
                    | (go_at_call 107; refine HSm2.out.mono ?_; rintro e w8 ⟨rfl, hb⟩; have H8 := Lib.hid (H7.out.step hb); clear hb))
                clear hc6
                cases sv with
                | true =>
                  go_wp2_with fail
                  go_ret
                  exact ⟨ret_int (by rw [Hv2.out, Hok.out, Hmx.out]; rfl), H8.out.bel⟩
                | false =>
                  go_wp2_with fail
                  go_ret
                  exact ⟨ret_int (by rw [Hv2.out, Hok.out, Hmx.out]; rfl), H8.out.bel⟩
              · rw [decide_eq_false m2] at Hmx
                go_wp2_with fail
                go_ret
                exact ⟨ret_int (by rw [Hv2.out, Hok.out, Hmx.out]; simp), H6.out.bel⟩
            · rw [decide_eq_false m1] at Hmx
              go_wp2_with fail
              go_ret
              exact ⟨ret_int (by rw [Hv2.out, Hok.out, Hmx.out]; simp), H6.out.bel⟩
  · have hkb : (kv == 1) = false := by simpa using hkn
    have Hv2 : Hid (cv = 9) := Lib.hid (by rw [Hv.out, if_neg hkn])
    clear hkn
    go_wp2_with fail
    go_ret
    exact ⟨ret_int Hv2.out.symm, H2.out.bel⟩

end Go.Proofs.YtacnmdlefonjmaaGreat

/-
  Messages of clients (layer 6): a message with just the fields that its body has; the document's.
-/
namespace Go.Proofs.YtacnmdlefonjmaaGreat
open Go.RowKit
set_option linter.unusedVariables false
set_option linter.unusedSimpArgs false


set_option maxRecDepth 100000 in
set_option maxHeartbeats 4000000 in
theorem kept_P (S : Nat → Prop) (x : FoV) (a : FoP) (w : World) (h : FoL S w x a) (hk : x.kind = 80) : Calls Tryz.prog 83 #[foArg x a] w (KeptR S x w) := by
  have HL := Lib.hid h
  have Hk : Hid (keptV x = ⟨80, 0, x.name, ⟨#[]⟩, x.text, x.oids, [], [], [], 0⟩) := Lib.hid (by unfold keptV; simp_all)
  unfold KeptR
  generalize keptV x = kx at *
  obtain ⟨xk, xw, xn, xp, xt, xo, xf, xr, xc, xm⟩ := x
  obtain ⟨apo, aco, apf, acf, apr, acr, app, acp⟩ := a
  clear h
  dsimp only at *
  subst hk
  unfold foArg foCells
  dsimp only
  have H1 := Lib.hid (KpI.start w #[.int .u8 80, .int .u8 xw, .string xn, .string xp, .string xt, .slice apo xo.length aco, .slice apf xf.length acf, .slice apr xr.length acr, .slice app xc.length acp, .int .i64 xm] #[.int .u8 80, .int .u8 0, .string ⟨#[]⟩, .string ⟨#[]⟩, .string ⟨#[]⟩, .slice none 0 0, .slice none 0 0, .slice none 0 0, .slice none 0 0, .int .i64 0])
  unfold foZ at H1
  go_enter Tryz.func83, Tryz.ntmps83
  go_upto_region 2 with (fail)
  generalize ((w.alloc (.cells #[.int .u8 80, .int .u8 xw, .string xn, .string xp, .string xt, .slice apo xo.length aco, .slice apf xf.length acf, .slice apr xr.length acr, .slice app xc.length acp, .int .i64 xm] 46)).alloc (.cells #[.int .u8 0, .int .u8 0, .string ⟨#[]⟩, .string ⟨#[]⟩, .string ⟨#[]⟩, .slice none 0 0, .slice none 0 0, .slice none 0 0, .slice none 0 0, .int .i64 0] 46)).alloc (.cells #[.int .u8 80, .int .u8 0, .string ⟨#[]⟩, .string ⟨#[]⟩, .string ⟨#[]⟩, .slice none 0 0, .slice none 0 0, .slice none 0 0, .slice none 0 0, .int .i64 0] 46) = w1 at *
  have c1 := H1.out.b1.cell
  have c3 := H1.out.b3.cell
  have f3 := H1.out.b3.frozen
  go_wp2_with fail
  go_region
  have h2 := (((H1.out.set 2 (.string xn)).set 4 (.string xt)).set 5 (.slice apo xo.length aco)).drew
  try simp only [List.setIfInBounds_toArray, List.set_cons_succ, List.set_cons_zero] at h2
  have H2 := Lib.hid h2
  clear h2 c1 c3 f3
  generalize (((w1.setCell ⟨w.heap.size + 1 + 1, 2, none⟩ (.string xn)).setCell ⟨w.heap.size + 1 + 1, 4, none⟩ (.string xt)).setCell ⟨w.heap.size + 1 + 1, 5, none⟩ (.slice apo xo.length aco)).drew = w2 at *
  have c3 := H2.out.b3.cell
  have c2 : ∀ i, w2.cell? ⟨w.heap.size + 1, i, none⟩ = (#[.int .u8 0, .int .u8 0, .string ⟨#[]⟩, .string ⟨#[]⟩, .string ⟨#[]⟩, .slice none 0 0, .slice none 0 0, .slice none 0 0, .slice none 0 0, .int .i64 0] : Array Value)[i]? := H2.out.b2.cell
  have f2 := H2.out.b2.frozen
  go_wp2_with fail
  have hT := setTen_touch w2 (w.heap.size + 1) (.int .u8 80) (.int .u8 0) (.string xn) (.string ⟨#[]⟩) (.string xt) (.slice apo xo.length aco) (.slice none 0 0) (.slice none 0 0) (.slice none 0 0) (.int .i64 0)
  have hbf := setTen_blk (.int .u8 80) (.int .u8 0) (.string xn) (.string ⟨#[]⟩) (.string xt) (.slice apo xo.length aco) (.slice none 0 0) (.slice none 0 0) (.slice none 0 0) (.int .i64 0) H2.out.b2
  have HB := Lib.hid (H2.out.bel.trans (hT.below H2.out.bel.size (fun k hk => by omega)))
  unfold setTen at hbf HB
  have hcf := hbf.cell
  clear hT hbf c3 c2 f2
  refine bodyPost_ret (v := .agg #[.int .u8 80, .int .u8 0, .string xn, .string ⟨#[]⟩, .string xt, .slice apo xo.length aco, .slice none 0 0, .slice none 0 0, .slice none 0 0, .int .i64 0]) (by simp [results, Tryz.results83, go_sem, hcf]) rfl ?_
  rw [Hk.out]
  exact ⟨⟨apo, aco, none, 0, none, 0, none, 0⟩, rfl, ⟨HL.out.lo.below IntU.still HB.out, SliceS.empty none 0 (by simp [maxLen]), SliceS.empty none 0 (by simp [maxLen]), SliceS.empty none 0 (by simp [maxLen])⟩, HB.out⟩

set_option maxRecDepth 100000 in
set_option maxHeartbeats 4000000 in
theorem kept_B (S : Nat → Prop) (x : FoV) (a : FoP) (w : World) (h : FoL S w x a) (hk : x.kind = 66) : Calls Tryz.prog 83 #[foArg x a] w (KeptR S x w) := by
  have HL := Lib.hid h
  have Hk : Hid (keptV x = ⟨66, 0, x.name, x.portal, ⟨#[]⟩, [], x.formats, x.results, x.params, 0⟩) := Lib.hid (by unfold keptV; simp_all)
  unfold KeptR
  generalize keptV x = kx at *
  obtain ⟨xk, xw, xn, xp, xt, xo, xf, xr, xc, xm⟩ := x
  obtain ⟨apo, aco, apf, acf, apr, acr, app, acp⟩ := a
  clear h
  dsimp only at *
  subst hk
  unfold foArg foCells
  dsimp only
  have H1 := Lib.hid (KpI.start w #[.int .u8 66, .int .u8 xw, .string xn, .string xp, .string xt, .slice apo xo.length aco, .slice apf xf.length acf, .slice apr xr.length acr, .slice app xc.length acp, .int .i64 xm] #[.int .u8 66, .int .u8 0, .string ⟨#[]⟩, .string ⟨#[]⟩, .string ⟨#[]⟩, .slice none 0 0, .slice none 0 0, .slice none 0 0, .slice none 0 0, .int .i64 0])
  unfold foZ at H1
  go_enter Tryz.func83, Tryz.ntmps83
  go_upto_region 2 with (fail)
  generalize ((w.alloc (.cells #[.int .u8 66, .int .u8 xw, .string xn, .string xp, .string xt, .slice apo xo.length aco, .slice apf xf.length acf, .slice apr xr.length acr, .slice app xc.length acp, .int .i64 xm] 46)).alloc (.cells #[.int .u8 0, .int .u8 0, .string ⟨#[]⟩, .string ⟨#[]⟩, .string ⟨#[]⟩, .slice none 0 0, .slice none 0 0, .slice none 0 0, .slice none 0 0, .int .i64 0] 46)).alloc (.cells #[.int .u8 66, .int .u8 0, .string ⟨#[]⟩, .string ⟨#[]⟩, .string ⟨#[]⟩, .slice none 0 0, .slice none 0 0, .slice none 0 0, .slice none 0 0, .int .i64 0] 46) = w1 at *
  have c1 := H1.out.b1.cell
  have c3 := H1.out.b3.cell
  have f3 := H1.out.b3.frozen
  go_wp2_with fail
  go_region
  have h2 := (((((H1.out.set 3 (.string xp)).set 2 (.string xn)).set 6 (.slice apf xf.length acf)).set 8 (.slice app xc.length acp)).set 7 (.slice apr xr.length acr)).drew
  try simp only [List.setIfInBounds_toArray, List.set_cons_succ, List.set_cons_zero] at h2
  have H2 := Lib.hid h2
  clear h2 c1 c3 f3
  generalize (((((w1.setCell ⟨w.heap.size + 1 + 1, 3, none⟩ (.string xp)).setCell ⟨w.heap.size + 1 + 1, 2, none⟩ (.string xn)).setCell ⟨w.heap.size + 1 + 1, 6, none⟩ (.slice apf xf.length acf)).setCell ⟨w.heap.size + 1 + 1, 8, none⟩ (.slice app xc.length acp)).setCell ⟨w.heap.size + 1 + 1, 7, none⟩ (.slice apr xr.length acr)).drew = w2 at *
  have c3 := H2.out.b3.cell
  have c2 : ∀ i, w2.cell? ⟨w.heap.size + 1, i, none⟩ = (#[.int .u8 0, .int .u8 0, .string ⟨#[]⟩, .string ⟨#[]⟩, .string ⟨#[]⟩, .slice none 0 0, .slice none 0 0, .slice none 0 0, .slice none 0 0, .int .i64 0] : Array Value)[i]? := H2.out.b2.cell
  have f2 := H2.out.b2.frozen
  go_wp2_with fail
  have hT := setTen_touch w2 (w.heap.size + 1) (.int .u8 66) (.int .u8 0) (.string xn) (.string xp) (.string ⟨#[]⟩) (.slice none 0 0) (.slice apf xf.length acf) (.slice apr xr.length acr) (.slice app xc.length acp) (.int .i64 0)
  have hbf := setTen_blk (.int .u8 66) (.int .u8 0) (.string xn) (.string xp) (.string ⟨#[]⟩) (.slice none 0 0) (.slice apf xf.length acf) (.slice apr xr.length acr) (.slice app xc.length acp) (.int .i64 0) H2.out.b2
  have HB := Lib.hid (H2.out.bel.trans (hT.below H2.out.bel.size (fun k hk => by omega)))
  unfold setTen at hbf HB
  have hcf := hbf.cell
  clear hT hbf c3 c2 f2
  refine bodyPost_ret (v := .agg #[.int .u8 66, .int .u8 0, .string xn, .string xp, .string ⟨#[]⟩, .slice none 0 0, .slice apf xf.length acf, .slice apr xr.length acr, .slice app xc.length acp, .int .i64 0]) (by simp [results, Tryz.results83, go_sem, hcf]) rfl ?_
  rw [Hk.out]
  exact ⟨⟨none, 0, apf, acf, apr, acr, app, acp⟩, rfl, ⟨SliceS.empty none 0 (by simp [maxLen]), HL.out.lf.below IntU.still HB.out, HL.out.lr.below IntU.still HB.out, HL.out.lp.below CeS.still HB.out⟩, HB.out⟩

set_option maxRecDepth 100000 in
set_option maxHeartbeats 4000000 in
theorem kept_S67 (S : Nat → Prop) (x : FoV) (a : FoP) (w : World) (h : FoL S w x a) (hk : x.kind = 67) (hw : x.what = 83) : Calls Tryz.prog 83 #[foArg x a] w (KeptR S x w) := by
  have HL := Lib.hid h
  have Hk : Hid (keptV x = ⟨67, 83, x.name, ⟨#[]⟩, ⟨#[]⟩, [], [], [], [], 0⟩) := Lib.hid (by unfold keptV; simp_all)
  unfold KeptR
  generalize keptV x = kx at *
  obtain ⟨xk, xw, xn, xp, xt, xo, xf, xr, xc, xm⟩ := x
  obtain ⟨apo, aco, apf, acf, apr, acr, app, acp⟩ := a
  clear h
  dsimp only at *
  subst hk
  subst hw
  unfold foArg foCells
  dsimp only
  have H1 := Lib.hid (KpI.start w #[.int .u8 67, .int .u8 83, .string xn, .string xp, .string xt, .slice apo xo.length aco, .slice apf xf.length acf, .slice apr xr.length acr, .slice app xc.length acp, .int .i64 xm] #[.int .u8 67, .int .u8 0, .string ⟨#[]⟩, .string ⟨#[]⟩, .string ⟨#[]⟩, .slice none 0 0, .slice none 0 0, .slice none 0 0, .slice none 0 0, .int .i64 0])
  unfold foZ at H1
  go_enter Tryz.func83, Tryz.ntmps83
  go_upto_region 2 with (fail)
  generalize ((w.alloc (.cells #[.int .u8 67, .int .u8 83, .string xn, .string xp, .string xt, .slice apo xo.length aco, .slice apf xf.length acf, .slice apr xr.length acr, .slice app xc.length acp, .int .i64 xm] 46)).alloc (.cells #[.int .u8 0, .int .u8 0, .string ⟨#[]⟩, .string ⟨#[]⟩, .string ⟨#[]⟩, .slice none 0 0, .slice none 0 0, .slice none 0 0, .slice none 0 0, .int .i64 0] 46)).alloc (.cells #[.int .u8 67, .int .u8 0, .string ⟨#[]⟩, .string ⟨#[]⟩, .string ⟨#[]⟩, .slice none 0 0, .slice none 0 0, .slice none 0 0, .slice none 0 0, .int .i64 0] 46) = w1 at *
  have c1 := H1.out.b1.cell
  have c3 := H1.out.b3.cell
  have f3 := H1.out.b3.frozen
  go_upto_region 17 with fail
  have h2 := ((H1.out.set 1 (.int .u8 83)).set 2 (.string xn))
  try simp only [List.setIfInBounds_toArray, List.set_cons_succ, List.set_cons_zero] at h2
  have H2 := Lib.hid h2
  clear h2 c1 c3 f3
  generalize ((w1.setCell ⟨w.heap.size + 1 + 1, 1, none⟩ (.int .u8 83)).setCell ⟨w.heap.size + 1 + 1, 2, none⟩ (.string xn)) = w2 at *
  have c3 := H2.out.b3.cell
  have c2 : ∀ i, w2.cell? ⟨w.heap.size + 1, i, none⟩ = (#[.int .u8 0, .int .u8 0, .string ⟨#[]⟩, .string ⟨#[]⟩, .string ⟨#[]⟩, .slice none 0 0, .slice none 0 0, .slice none 0 0, .slice none 0 0, .int .i64 0] : Array Value)[i]? := H2.out.b2.cell
  have f2 := H2.out.b2.frozen
  go_wp2_with fail
  have hT := setTen_touch w2 (w.heap.size + 1) (.int .u8 67) (.int .u8 83) (.string xn) (.string ⟨#[]⟩) (.string ⟨#[]⟩) (.slice none 0 0) (.slice none 0 0) (.slice none 0 0) (.slice none 0 0) (.int .i64 0)
  have hbf := setTen_blk (.int .u8 67) (.int .u8 83) (.string xn) (.string ⟨#[]⟩) (.string ⟨#[]⟩) (.slice none 0 0) (.slice none 0 0) (.slice none 0 0) (.slice none 0 0) (.int .i64 0) H2.out.b2
  have HB := Lib.hid (H2.out.bel.trans (hT.below H2.out.bel.size (fun k hk => by omega)))
  unfold setTen at hbf HB
  have hcf := hbf.cell
  clear hT hbf c3 c2 f2
  refine bodyPost_ret (v := .agg #[.int .u8 67, .int .u8 83, .string xn, .string ⟨#[]⟩, .string ⟨#[]⟩, .slice none 0 0, .slice none 0 0, .slice none 0 0, .slice none 0 0, .int .i64 0]) (by simp [results, Tryz.results83, go_sem, hcf]) rfl ?_
  rw [Hk.out]
  exact ⟨⟨none, 0, none, 0, none, 0, none, 0⟩, rfl, ⟨SliceS.empty none 0 (by simp [maxLen]), SliceS.empty none 0 (by simp [maxLen]), SliceS.empty none 0 (by simp [maxLen]), SliceS.empty none 0 (by simp [maxLen])⟩, HB.out⟩

set_option maxRecDepth 100000 in
set_option maxHeartbeats 4000000 in
theorem kept_N67 (S : Nat → Prop) (x : FoV) (a : FoP) (w : World) (h : FoL S w x a) (hk : x.kind = 67) (hw : ¬ x.what = 83) : Calls Tryz.prog 83 #[foArg x a] w (KeptR S x w) := by
  have HL := Lib.hid h
  have Hk : Hid (keptV x = ⟨67, x.what, ⟨#[]⟩, x.portal, ⟨#[]⟩, [], [], [], [], 0⟩) := Lib.hid (by unfold keptV; simp_all)
  unfold KeptR
  generalize keptV x = kx at *
  obtain ⟨xk, xw, xn, xp, xt, xo, xf, xr, xc, xm⟩ := x
  obtain ⟨apo, aco, apf, acf, apr, acr, app, acp⟩ := a
  clear h
  dsimp only at *
  subst hk
  have hwb : (xw == 83) = false := by simpa using hw
  unfold foArg foCells
  dsimp only
  have H1 := Lib.hid (KpI.start w #[.int .u8 67, .int .u8 xw, .string xn, .string xp, .string xt, .slice apo xo.length aco, .slice apf xf.length acf, .slice apr xr.length acr, .slice app xc.length acp, .int .i64 xm] #[.int .u8 67, .int .u8 0, .string ⟨#[]⟩, .string ⟨#[]⟩, .string ⟨#[]⟩, .slice none 0 0, .slice none 0 0, .slice none 0 0, .slice none 0 0, .int .i64 0])
  unfold foZ at H1
  go_enter Tryz.func83, Tryz.ntmps83
  go_upto_region 2 with (fail)
  generalize ((w.alloc (.cells #[.int .u8 67, .int .u8 xw, .string xn, .string xp, .string xt, .slice apo xo.length aco, .slice apf xf.length acf, .slice apr xr.length acr, .slice app xc.length acp, .int .i64 xm] 46)).alloc (.cells #[.int .u8 0, .int .u8 0, .string ⟨#[]⟩, .string ⟨#[]⟩, .string ⟨#[]⟩, .slice none 0 0, .slice none 0 0, .slice none 0 0, .slice none 0 0, .int .i64 0] 46)).alloc (.cells #[.int .u8 67, .int .u8 0, .string ⟨#[]⟩, .string ⟨#[]⟩, .string ⟨#[]⟩, .slice none 0 0, .slice none 0 0, .slice none 0 0, .slice none 0 0, .int .i64 0] 46) = w1 at *
  have c1 := H1.out.b1.cell
  have c3 := H1.out.b3.cell
  have f3 := H1.out.b3.frozen
  go_upto_region 17 with fail
  have h2 := ((H1.out.set 1 (.int .u8 xw)).set 3 (.string xp))
  try simp only [List.setIfInBounds_toArray, List.set_cons_succ, List.set_cons_zero] at h2
  have H2 := Lib.hid h2
  clear h2 c1 c3 f3
  generalize ((w1.setCell ⟨w.heap.size + 1 + 1, 1, none⟩ (.int .u8 xw)).setCell ⟨w.heap.size + 1 + 1, 3, none⟩ (.string xp)) = w2 at *
  have c3 := H2.out.b3.cell
  have c2 : ∀ i, w2.cell? ⟨w.heap.size + 1, i, none⟩ = (#[.int .u8 0, .int .u8 0, .string ⟨#[]⟩, .string ⟨#[]⟩, .string ⟨#[]⟩, .slice none 0 0, .slice none 0 0, .slice none 0 0, .slice none 0 0, .int .i64 0] : Array Value)[i]? := H2.out.b2.cell
  have f2 := H2.out.b2.frozen
  go_wp2_with fail
  have hT := setTen_touch w2 (w.heap.size + 1) (.int .u8 67) (.int .u8 xw) (.string ⟨#[]⟩) (.string xp) (.string ⟨#[]⟩) (.slice none 0 0) (.slice none 0 0) (.slice none 0 0) (.slice none 0 0) (.int .i64 0)
  have hbf := setTen_blk (.int .u8 67) (.int .u8 xw) (.string ⟨#[]⟩) (.string xp) (.string ⟨#[]⟩) (.slice none 0 0) (.slice none 0 0) (.slice none 0 0) (.slice none 0 0) (.int .i64 0) H2.out.b2
  have HB := Lib.hid (H2.out.bel.trans (hT.below H2.out.bel.size (fun k hk => by omega)))
  unfold setTen at hbf HB
  have hcf := hbf.cell
  clear hT hbf c3 c2 f2
  refine bodyPost_ret (v := .agg #[.int .u8 67, .int .u8 xw, .string ⟨#[]⟩, .string xp, .string ⟨#[]⟩, .slice none 0 0, .slice none 0 0, .slice none 0 0, .slice none 0 0, .int .i64 0]) (by simp [results, Tryz.results83, go_sem, hcf]) rfl ?_
  rw [Hk.out]
  exact ⟨⟨none, 0, none, 0, none, 0, none, 0⟩, rfl, ⟨SliceS.empty none 0 (by simp [maxLen]), SliceS.empty none 0 (by simp [maxLen]), SliceS.empty none 0 (by simp [maxLen]), SliceS.empty none 0 (by simp [maxLen])⟩, HB.out⟩

set_option maxRecDepth 100000 in
set_option maxHeartbeats 4000000 in
theorem kept_S68 (S : Nat → Prop) (x : FoV) (a : FoP) (w : World) (h : FoL S w x a) (hk : x.kind = 68) (hw : x.what = 83) : Calls Tryz.prog 83 #[foArg x a] w (KeptR S x w) := by
  have HL := Lib.hid h
  have Hk : Hid (keptV x = ⟨68, 83, x.name, ⟨#[]⟩, ⟨#[]⟩, [], [], [], [], 0⟩) := Lib.hid (by unfold keptV; simp_all)
  unfold KeptR
  generalize keptV x = kx at *
  obtain ⟨xk, xw, xn, xp, xt, xo, xf, xr, xc, xm⟩ := x
  obtain ⟨apo, aco, apf, acf, apr, acr, app, acp⟩ := a
  clear h
  dsimp only at *
  subst hk
  subst hw
  unfold foArg foCells
  dsimp only
  have H1 := Lib.hid (KpI.start w #[.int .u8 68, .int .u8 83, .string xn, .string xp, .string xt, .slice apo xo.length aco, .slice apf xf.length acf, .slice apr xr.length acr, .slice app xc.length acp, .int .i64 xm] #[.int .u8 68, .int .u8 0, .string ⟨#[]⟩, .string ⟨#[]⟩, .string ⟨#[]⟩, .slice none 0 0, .slice none 0 0, .slice none 0 0, .slice none 0 0, .int .i64 0])
  unfold foZ at H1
  go_enter Tryz.func83, Tryz.ntmps83
  go_upto_region 2 with (fail)
  generalize ((w.alloc (.cells #[.int .u8 68, .int .u8 83, .string xn, .string xp, .string xt, .slice apo xo.length aco, .slice apf xf.length acf, .slice apr xr.length acr, .slice app xc.length acp, .int .i64 xm] 46)).alloc (.cells #[.int .u8 0, .int .u8 0, .string ⟨#[]⟩, .string ⟨#[]⟩, .string ⟨#[]⟩, .slice none 0 0, .slice none 0 0, .slice none 0 0, .slice none 0 0, .int .i64 0] 46)).alloc (.cells #[.int .u8 68, .int .u8 0, .string ⟨#[]⟩, .string ⟨#[]⟩, .string ⟨#[]⟩, .slice none 0 0, .slice none 0 0, .slice none 0 0, .slice none 0 0, .int .i64 0] 46) = w1 at *
  have c1 := H1.out.b1.cell
  have c3 := H1.out.b3.cell
  have f3 := H1.out.b3.frozen
  go_upto_region 17 with fail
  have h2 := ((H1.out.set 1 (.int .u8 83)).set 2 (.string xn))
  try simp only [List.setIfInBounds_toArray, List.set_cons_succ, List.set_cons_zero] at h2
  have H2 := Lib.hid h2
  clear h2 c1 c3 f3
  generalize ((w1.setCell ⟨w.heap.size + 1 + 1, 1, none⟩ (.int .u8 83)).setCell ⟨w.heap.size + 1 + 1, 2, none⟩ (.string xn)) = w2 at *
  have c3 := H2.out.b3.cell
  have c2 : ∀ i, w2.cell? ⟨w.heap.size + 1, i, none⟩ = (#[.int .u8 0, .int .u8 0, .string ⟨#[]⟩, .string ⟨#[]⟩, .string ⟨#[]⟩, .slice none 0 0, .slice none 0 0, .slice none 0 0, .slice none 0 0, .int .i64 0] : Array Value)[i]? := H2.out.b2.cell
  have f2 := H2.out.b2.frozen
  go_wp2_with fail
  have hT := setTen_touch w2 (w.heap.size + 1) (.int .u8 68) (.int .u8 83) (.string xn) (.string ⟨#[]⟩) (.string ⟨#[]⟩) (.slice none 0 0) (.slice none 0 0) (.slice none 0 0) (.slice none 0 0) (.int .i64 0)
  have hbf := setTen_blk (.int .u8 68) (.int .u8 83) (.string xn) (.string ⟨#[]⟩) (.string ⟨#[]⟩) (.slice none 0 0) (.slice none 0 0) (.slice none 0 0) (.slice none 0 0) (.int .i64 0) H2.out.b2
  have HB := Lib.hid (H2.out.bel.trans (hT.below H2.out.bel.size (fun k hk => by omega)))
  unfold setTen at hbf HB
  have hcf := hbf.cell
  clear hT hbf c3 c2 f2
  refine bodyPost_ret (v := .agg #[.int .u8 68, .int .u8 83, .string xn, .string ⟨#[]⟩, .string ⟨#[]⟩, .slice none 0 0, .slice none 0 0, .slice none 0 0, .slice none 0 0, .int .i64 0]) (by simp [results, Tryz.results83, go_sem, hcf]) rfl ?_
  rw [Hk.out]
  exact ⟨⟨none, 0, none, 0, none, 0, none, 0⟩, rfl, ⟨SliceS.empty none 0 (by simp [maxLen]), SliceS.empty none 0 (by simp [maxLen]), SliceS.empty none 0 (by simp [maxLen]), SliceS.empty none 0 (by simp [maxLen])⟩, HB.out⟩

set_option maxRecDepth 100000 in
set_option maxHeartbeats 4000000 in
theorem kept_N68 (S : Nat → Prop) (x : FoV) (a : FoP) (w : World) (h : FoL S w x a) (hk : x.kind = 68) (hw : ¬ x.what = 83) : Calls Tryz.prog 83 #[foArg x a] w (KeptR S x w) := by
  have HL := Lib.hid h
  have Hk : Hid (keptV x = ⟨68, x.what, ⟨#[]⟩, x.portal, ⟨#[]⟩, [], [], [], [], 0⟩) := Lib.hid (by unfold keptV; simp_all)
  unfold KeptR
  generalize keptV x = kx at *
  obtain ⟨xk, xw, xn, xp, xt, xo, xf, xr, xc, xm⟩ := x
  obtain ⟨apo, aco, apf, acf, apr, acr, app, acp⟩ := a
  clear h
  dsimp only at *
  subst hk
  have hwb : (xw == 83) = false := by simpa using hw
  unfold foArg foCells
  dsimp only
  have H1 := Lib.hid (KpI.start w #[.int .u8 68, .int .u8 xw, .string xn, .string xp, .string xt, .slice apo xo.length aco, .slice apf xf.length acf, .slice apr xr.length acr, .slice app xc.length acp, .int .i64 xm] #[.int .u8 68, .int .u8 0, .string ⟨#[]⟩, .string ⟨#[]⟩, .string ⟨#[]⟩, .slice none 0 0, .slice none 0 0, .slice none 0 0, .slice none 0 0, .int .i64 0])
  unfold foZ at H1
  go_enter Tryz.func83, Tryz.ntmps83
  go_upto_region 2 with (fail)
  generalize ((w.alloc (.cells #[.int .u8 68, .int .u8 xw, .string xn, .string xp, .string xt, .slice apo xo.length aco, .slice apf xf.length acf, .slice apr xr.length acr, .slice app xc.length acp, .int .i64 xm] 46)).alloc (.cells #[.int .u8 0, .int .u8 0, .string ⟨#[]⟩, .string ⟨#[]⟩, .string ⟨#[]⟩, .slice none 0 0, .slice none 0 0, .slice none 0 0, .slice none 0 0, .int .i64 0] 46)).alloc (.cells #[.int .u8 68, .int .u8 0, .string ⟨#[]⟩, .string ⟨#[]⟩, .string ⟨#[]⟩, .slice none 0 0, .slice none 0 0, .slice none 0 0, .slice none 0 0, .int .i64 0] 46) = w1 at *
  have c1 := H1.out.b1.cell
  have c3 := H1.out.b3.cell
  have f3 := H1.out.b3.frozen
  go_upto_region 17 with fail
  have h2 := ((H1.out.set 1 (.int .u8 xw)).set 3 (.string xp))
  try simp only [List.setIfInBounds_toArray, List.set_cons_succ, List.set_cons_zero] at h2
  have H2 := Lib.hid h2
  clear h2 c1 c3 f3
  generalize ((w1.setCell ⟨w.heap.size + 1 + 1, 1, none⟩ (.int .u8 xw)).setCell ⟨w.heap.size + 1 + 1, 3, none⟩ (.string xp)) = w2 at *
  have c3 := H2.out.b3.cell
  have c2 : ∀ i, w2.cell? ⟨w.heap.size + 1, i, none⟩ = (#[.int .u8 0, .int .u8 0, .string ⟨#[]⟩, .string ⟨#[]⟩, .string ⟨#[]⟩, .slice none 0 0, .slice none 0 0, .slice none 0 0, .slice none 0 0, .int .i64 0] : Array Value)[i]? := H2.out.b2.cell
  have f2 := H2.out.b2.frozen
  go_wp2_with fail
  have hT := setTen_touch w2 (w.heap.size + 1) (.int .u8 68) (.int .u8 xw) (.string ⟨#[]⟩) (.string xp) (.string ⟨#[]⟩) (.slice none 0 0) (.slice none 0 0) (.slice none 0 0) (.slice none 0 0) (.int .i64 0)
  have hbf := setTen_blk (.int .u8 68) (.int .u8 xw) (.string ⟨#[]⟩) (.string xp) (.string ⟨#[]⟩) (.slice none 0 0) (.slice none 0 0) (.slice none 0 0) (.slice none 0 0) (.int .i64 0) H2.out.b2
  have HB := Lib.hid (H2.out.bel.trans (hT.below H2.out.bel.size (fun k hk => by omega)))
  unfold setTen at hbf HB
  have hcf := hbf.cell
  clear hT hbf c3 c2 f2
  refine bodyPost_ret (v := .agg #[.int .u8 68, .int .u8 xw, .string ⟨#[]⟩, .string xp, .string ⟨#[]⟩, .slice none 0 0, .slice none 0 0, .slice none 0 0, .slice none 0 0, .int .i64 0]) (by simp [results, Tryz.results83, go_sem, hcf]) rfl ?_
  rw [Hk.out]
  exact ⟨⟨none, 0, none, 0, none, 0, none, 0⟩, rfl, ⟨SliceS.empty none 0 (by simp [maxLen]), SliceS.empty none 0 (by simp [maxLen]), SliceS.empty none 0 (by simp [maxLen]), SliceS.empty none 0 (by simp [maxLen])⟩, HB.out⟩

set_option maxRecDepth 100000 in
set_option maxHeartbeats 4000000 in
theorem kept_E (S : Nat → Prop) (x : FoV) (a : FoP) (w : World) (h : FoL S w x a) (hk : x.kind = 69) : Calls Tryz.prog 83 #[foArg x a] w (KeptR S x w) := by
  have HL := Lib.hid h
  have Hk : Hid (keptV x = ⟨69, 0, ⟨#[]⟩, x.portal, ⟨#[]⟩, [], [], [], [], x.max⟩) := Lib.hid (by unfold keptV; simp_all)
  unfold KeptR
  generalize keptV x = kx at *
  obtain ⟨xk, xw, xn, xp, xt, xo, xf, xr, xc, xm⟩ := x
  obtain ⟨apo, aco, apf, acf, apr, acr, app, acp⟩ := a
  clear h
  dsimp only at *
  subst hk
  unfold foArg foCells
  dsimp only
  have H1 := Lib.hid (KpI.start w #[.int .u8 69, .int .u8 xw, .string xn, .string xp, .string xt, .slice apo xo.length aco, .slice apf xf.length acf, .slice apr xr.length acr, .slice app xc.length acp, .int .i64 xm] #[.int .u8 69, .int .u8 0, .string ⟨#[]⟩, .string ⟨#[]⟩, .string ⟨#[]⟩, .slice none 0 0, .slice none 0 0, .slice none 0 0, .slice none 0 0, .int .i64 0])
  unfold foZ at H1
  go_enter Tryz.func83, Tryz.ntmps83
  go_upto_region 2 with (fail)
  generalize ((w.alloc (.cells #[.int .u8 69, .int .u8 xw, .string xn, .string xp, .string xt, .slice apo xo.length aco, .slice apf xf.length acf, .slice apr xr.length acr, .slice app xc.length acp, .int .i64 xm] 46)).alloc (.cells #[.int .u8 0, .int .u8 0, .string ⟨#[]⟩, .string ⟨#[]⟩, .string ⟨#[]⟩, .slice none 0 0, .slice none 0 0, .slice none 0 0, .slice none 0 0, .int .i64 0] 46)).alloc (.cells #[.int .u8 69, .int .u8 0, .string ⟨#[]⟩, .string ⟨#[]⟩, .string ⟨#[]⟩, .slice none 0 0, .slice none 0 0, .slice none 0 0, .slice none 0 0, .int .i64 0] 46) = w1 at *
  have c1 := H1.out.b1.cell
  have c3 := H1.out.b3.cell
  have f3 := H1.out.b3.frozen
  go_wp2_with fail
  go_region
  have h2 := ((H1.out.set 3 (.string xp)).set 9 (.int .i64 xm)).drew
  try simp only [List.setIfInBounds_toArray, List.set_cons_succ, List.set_cons_zero] at h2
  have H2 := Lib.hid h2
  clear h2 c1 c3 f3
  generalize ((w1.setCell ⟨w.heap.size + 1 + 1, 3, none⟩ (.string xp)).setCell ⟨w.heap.size + 1 + 1, 9, none⟩ (.int .i64 xm)).drew = w2 at *
  have c3 := H2.out.b3.cell
  have c2 : ∀ i, w2.cell? ⟨w.heap.size + 1, i, none⟩ = (#[.int .u8 0, .int .u8 0, .string ⟨#[]⟩, .string ⟨#[]⟩, .string ⟨#[]⟩, .slice none 0 0, .slice none 0 0, .slice none 0 0, .slice none 0 0, .int .i64 0] : Array Value)[i]? := H2.out.b2.cell
  have f2 := H2.out.b2.frozen
  go_wp2_with fail
  have hT := setTen_touch w2 (w.heap.size + 1) (.int .u8 69) (.int .u8 0) (.string ⟨#[]⟩) (.string xp) (.string ⟨#[]⟩) (.slice none 0 0) (.slice none 0 0) (.slice none 0 0) (.slice none 0 0) (.int .i64 xm)
  have hbf := setTen_blk (.int .u8 69) (.int .u8 0) (.string ⟨#[]⟩) (.string xp) (.string ⟨#[]⟩) (.slice none 0 0) (.slice none 0 0) (.slice none 0 0) (.slice none 0 0) (.int .i64 xm) H2.out.b2
  have HB := Lib.hid (H2.out.bel.trans (hT.below H2.out.bel.size (fun k hk => by omega)))
  unfold setTen at hbf HB
  have hcf := hbf.cell
  clear hT hbf c3 c2 f2
  refine bodyPost_ret (v := .agg #[.int .u8 69, .int .u8 0, .string ⟨#[]⟩, .string xp, .string ⟨#[]⟩, .slice none 0 0, .slice none 0 0, .slice none 0 0, .slice none 0 0, .int .i64 xm]) (by simp [results, Tryz.results83, go_sem, hcf]) rfl ?_
  rw [Hk.out]
  exact ⟨⟨none, 0, none, 0, none, 0, none, 0⟩, rfl, ⟨SliceS.empty none 0 (by simp [maxLen]), SliceS.empty none 0 (by simp [maxLen]), SliceS.empty none 0 (by simp [maxLen]), SliceS.empty none 0 (by simp [maxLen])⟩, HB.out⟩

set_option maxRecDepth 100000 in
set_option maxHeartbeats 4000000 in
theorem kept_Q (S : Nat → Prop) (x : FoV) (a : FoP) (w : World) (h : FoL S w x a) (hk : x.kind = 81) : Calls Tryz.prog 83 #[foArg x a] w (KeptR S x w) := by
  have HL := Lib.hid h
  have Hk : Hid (keptV x = ⟨81, 0, ⟨#[]⟩, ⟨#[]⟩, x.text, [], [], [], [], 0⟩) := Lib.hid (by unfold keptV; simp_all)
  unfold KeptR
  generalize keptV x = kx at *
  obtain ⟨xk, xw, xn, xp, xt, xo, xf, xr, xc, xm⟩ := x
  obtain ⟨apo, aco, apf, acf, apr, acr, app, acp⟩ := a
  clear h
  dsimp only at *
  subst hk
  unfold foArg foCells
  dsimp only
  have H1 := Lib.hid (KpI.start w #[.int .u8 81, .int .u8 xw, .string xn, .string xp, .string xt, .slice apo xo.length aco, .slice apf xf.length acf, .slice apr xr.length acr, .slice app xc.length acp, .int .i64 xm] #[.int .u8 81, .int .u8 0, .string ⟨#[]⟩, .string ⟨#[]⟩, .string ⟨#[]⟩, .slice none 0 0, .slice none 0 0, .slice none 0 0, .slice none 0 0, .int .i64 0])
  unfold foZ at H1
  go_enter Tryz.func83, Tryz.ntmps83
  go_upto_region 2 with (fail)
  generalize ((w.alloc (.cells #[.int .u8 81, .int .u8 xw, .string xn, .string xp, .string xt, .slice apo xo.length aco, .slice apf xf.length acf, .slice apr xr.length acr, .slice app xc.length acp, .int .i64 xm] 46)).alloc (.cells #[.int .u8 0, .int .u8 0, .string ⟨#[]⟩, .string ⟨#[]⟩, .string ⟨#[]⟩, .slice none 0 0, .slice none 0 0, .slice none 0 0, .slice none 0 0, .int .i64 0] 46)).alloc (.cells #[.int .u8 81, .int .u8 0, .string ⟨#[]⟩, .string ⟨#[]⟩, .string ⟨#[]⟩, .slice none 0 0, .slice none 0 0, .slice none 0 0, .slice none 0 0, .int .i64 0] 46) = w1 at *
  have c1 := H1.out.b1.cell
  have c3 := H1.out.b3.cell
  have f3 := H1.out.b3.frozen
  go_upto_region 17 with fail
  have h2 := (H1.out.set 4 (.string xt))
  try simp only [List.setIfInBounds_toArray, List.set_cons_succ, List.set_cons_zero] at h2
  have H2 := Lib.hid h2
  clear h2 c1 c3 f3
  generalize (w1.setCell ⟨w.heap.size + 1 + 1, 4, none⟩ (.string xt)) = w2 at *
  have c3 := H2.out.b3.cell
  have c2 : ∀ i, w2.cell? ⟨w.heap.size + 1, i, none⟩ = (#[.int .u8 0, .int .u8 0, .string ⟨#[]⟩, .string ⟨#[]⟩, .string ⟨#[]⟩, .slice none 0 0, .slice none 0 0, .slice none 0 0, .slice none 0 0, .int .i64 0] : Array Value)[i]? := H2.out.b2.cell
  have f2 := H2.out.b2.frozen
  go_wp2_with fail
  have hT := setTen_touch w2 (w.heap.size + 1) (.int .u8 81) (.int .u8 0) (.string ⟨#[]⟩) (.string ⟨#[]⟩) (.string xt) (.slice none 0 0) (.slice none 0 0) (.slice none 0 0) (.slice none 0 0) (.int .i64 0)
  have hbf := setTen_blk (.int .u8 81) (.int .u8 0) (.string ⟨#[]⟩) (.string ⟨#[]⟩) (.string xt) (.slice none 0 0) (.slice none 0 0) (.slice none 0 0) (.slice none 0 0) (.int .i64 0) H2.out.b2
  have HB := Lib.hid (H2.out.bel.trans (hT.below H2.out.bel.size (fun k hk => by omega)))
  unfold setTen at hbf HB
  have hcf := hbf.cell
  clear hT hbf c3 c2 f2
  refine bodyPost_ret (v := .agg #[.int .u8 81, .int .u8 0, .string ⟨#[]⟩, .string ⟨#[]⟩, .string xt, .slice none 0 0, .slice none 0 0, .slice none 0 0, .slice none 0 0, .int .i64 0]) (by simp [results, Tryz.results83, go_sem, hcf]) rfl ?_
  rw [Hk.out]
  exact ⟨⟨none, 0, none, 0, none, 0, none, 0⟩, rfl, ⟨SliceS.empty none 0 (by simp [maxLen]), SliceS.empty none 0 (by simp [maxLen]), SliceS.empty none 0 (by simp [maxLen]), SliceS.empty none 0 (by simp [maxLen])⟩, HB.out⟩

set_option maxRecDepth 100000 in
set_option maxHeartbeats 4000000 in
theorem kept_O (S : Nat → Prop) (x : FoV) (a : FoP) (w : World) (h : FoL S w x a) (hk : ∀ n ∈ [80, 66, 67, 68, 69, 81], (x.kind == n) = false) : Calls Tryz.prog 83 #[foArg x a] w (KeptR S x w) := by
  have HL := Lib.hid h
  have g1 := hk 80 (by simp)
  have g2 := hk 66 (by simp)
  have g3 := hk 67 (by simp)
  have g4 := hk 68 (by simp)
  have g5 := hk 69 (by simp)
  have g6 := hk 81 (by simp)
  have Hk : Hid (keptV x = ⟨x.kind, 0, ⟨#[]⟩, ⟨#[]⟩, ⟨#[]⟩, [], [], [], [], 0⟩) := Lib.hid (by unfold keptV; simp_all)
  unfold KeptR
  generalize keptV x = kx at *
  obtain ⟨xk, xw, xn, xp, xt, xo, xf, xr, xc, xm⟩ := x
  obtain ⟨apo, aco, apf, acf, apr, acr, app, acp⟩ := a
  clear h
  dsimp only at *
  clear hk
  unfold foArg foCells
  dsimp only
  have H1 := Lib.hid (KpI.start w #[.int .u8 xk, .int .u8 xw, .string xn, .string xp, .string xt, .slice apo xo.length aco, .slice apf xf.length acf, .slice apr xr.length acr, .slice app xc.length acp, .int .i64 xm] #[.int .u8 xk, .int .u8 0, .string ⟨#[]⟩, .string ⟨#[]⟩, .string ⟨#[]⟩, .slice none 0 0, .slice none 0 0, .slice none 0 0, .slice none 0 0, .int .i64 0])
  unfold foZ at H1
  go_enter Tryz.func83, Tryz.ntmps83
  go_upto_region 2 with (fail)
  generalize ((w.alloc (.cells #[.int .u8 xk, .int .u8 xw, .string xn, .string xp, .string xt, .slice apo xo.length aco, .slice apf xf.length acf, .slice apr xr.length acr, .slice app xc.length acp, .int .i64 xm] 46)).alloc (.cells #[.int .u8 0, .int .u8 0, .string ⟨#[]⟩, .string ⟨#[]⟩, .string ⟨#[]⟩, .slice none 0 0, .slice none 0 0, .slice none 0 0, .slice none 0 0, .int .i64 0] 46)).alloc (.cells #[.int .u8 xk, .int .u8 0, .string ⟨#[]⟩, .string ⟨#[]⟩, .string ⟨#[]⟩, .slice none 0 0, .slice none 0 0, .slice none 0 0, .slice none 0 0, .int .i64 0] 46) = w1 at *
  have c1 := H1.out.b1.cell
  have c3 := H1.out.b3.cell
  have f3 := H1.out.b3.frozen
  go_upto_region 17 with fail
  have h2 := H1.out
  try simp only [List.setIfInBounds_toArray, List.set_cons_succ, List.set_cons_zero] at h2
  have H2 := Lib.hid h2
  clear h2 c1 c3 f3
  generalize w1 = w2 at *
  have c3 := H2.out.b3.cell
  have c2 : ∀ i, w2.cell? ⟨w.heap.size + 1, i, none⟩ = (#[.int .u8 0, .int .u8 0, .string ⟨#[]⟩, .string ⟨#[]⟩, .string ⟨#[]⟩, .slice none 0 0, .slice none 0 0, .slice none 0 0, .slice none 0 0, .int .i64 0] : Array Value)[i]? := H2.out.b2.cell
  have f2 := H2.out.b2.frozen
  go_wp2_with fail
  have hT := setTen_touch w2 (w.heap.size + 1) (.int .u8 xk) (.int .u8 0) (.string ⟨#[]⟩) (.string ⟨#[]⟩) (.string ⟨#[]⟩) (.slice none 0 0) (.slice none 0 0) (.slice none 0 0) (.slice none 0 0) (.int .i64 0)
  have hbf := setTen_blk (.int .u8 xk) (.int .u8 0) (.string ⟨#[]⟩) (.string ⟨#[]⟩) (.string ⟨#[]⟩) (.slice none 0 0) (.slice none 0 0) (.slice none 0 0) (.slice none 0 0) (.int .i64 0) H2.out.b2
  have HB := Lib.hid (H2.out.bel.trans (hT.below H2.out.bel.size (fun k hk => by omega)))
  unfold setTen at hbf HB
  have hcf := hbf.cell
  clear hT hbf c3 c2 f2
  refine bodyPost_ret (v := .agg #[.int .u8 xk, .int .u8 0, .string ⟨#[]⟩, .string ⟨#[]⟩, .string ⟨#[]⟩, .slice none 0 0, .slice none 0 0, .slice none 0 0, .slice none 0 0, .int .i64 0]) (by simp [results, Tryz.results83, go_sem, hcf]) rfl ?_
  rw [Hk.out]
  exact ⟨⟨none, 0, none, 0, none, 0, none, 0⟩, rfl, ⟨SliceS.empty none 0 (by simp [maxLen]), SliceS.empty none 0 (by simp [maxLen]), SliceS.empty none 0 (by simp [maxLen]), SliceS.empty none 0 (by simp [maxLen])⟩, HB.out⟩

theorem kept_any (S : Nat → Prop) (x : FoV) (a : FoP) (w : World) (h : FoL S w x a) : Calls Tryz.prog 83 #[foArg x a] w (KeptR S x w) := by
  rcases kind_cases x.kind with hk | hk | hk | hk | hk | hk | hk
  · exact kept_P S x a w h hk
  · exact kept_B S x a w h hk
  · by_cases e : x.what = 83
    · exact kept_S67 S x a w h hk e
    · exact kept_N67 S x a w h hk e
  · by_cases e : x.what = 83
    · exact kept_S68 S x a w h hk e
    · exact kept_N68 S x a w h hk e
  · exact kept_E S x a w h hk
  · exact kept_Q S x a w h hk
  · exact kept_O S x a w h hk

end Go.Proofs.YtacnmdlefonjmaaGreat

