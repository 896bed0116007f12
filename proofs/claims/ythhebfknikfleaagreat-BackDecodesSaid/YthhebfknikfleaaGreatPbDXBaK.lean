/-
  Messages of servers (layer 7): whether one may be: the document's.
-/
import Derived.Test.YthhebfknikfleaaGreatPbDP10
import Derived.Test.YthhebfknikfleaaGreatPbDP13
import Derived.Test.YthhebfknikfleaaGreatPbDXBaH
namespace Go.Proofs.YthhebfknikfleaaGreat
open Go.RowKit
set_option linter.unusedVariables false
set_option linter.unusedSimpArgs false

set_option maxRecDepth 100000 in
set_option maxHeartbeats 4000000 in
theorem rbcheck_any (S : Nat → Prop) (x : BaV) (a : BaP) (w : World) (h : BaL S w x a) (hfb : BaB x) (hst : x.tag.size ≤ maxLen) (hsn : x.name.size ≤ maxLen) (hsv : x.value.size ≤ maxLen) : Calls Tryz.prog 20 #[baArg x a] w fun e w' => e = .returned (.int .i64 (checkB x)) ∧ Below w.heap.size w w' := by
  have H0 := Lib.hid (Ba1.start h)
  have Hv : Hid (checkB x = if servK x.kind = true then (if okB x = true then 0 else 1) else 9) := Lib.hid rfl
  have Hok : Hid (okB x = ((cleanB x.tag && (cleanB x.name && cleanB x.value)) && ((inR x.n 0 4294967295 && (inR x.m 0 4294967295 && between x.oids 0 4294967295)) && (statusB x && (colsB x.cols && (fieldsB x.fields && (valuesV x.row && baEq x (keptB x)))))))) := Lib.hid (by
    unfold okB listsB textsB numsB7
    generalize (cleanB x.tag && (cleanB x.name && cleanB x.value)) = a1
    generalize colsB x.cols = a2
    generalize fieldsB x.fields = a3
    generalize valuesV x.row = a4
    generalize between x.oids 0 4294967295 = a5
    generalize inR x.n 0 4294967295 = a6
    generalize inR x.m 0 4294967295 = a7
    generalize statusB x = a8
    generalize baEq x (keptB x) = a9
    cases a1 <;> cases a2 <;> cases a3 <;> cases a4 <;> cases a5 <;> cases a6 <;> cases a7 <;> cases a8 <;> cases a9 <;> rfl)
  have HKn := Lib.hid (fun w0 : World => rkind_any x.kind w0)
  have HT1 := Lib.hid (fun w0 : World => cleanR_any x.tag w0 hst)
  have HT2 := Lib.hid (fun w0 : World => cleanR_any x.name w0 hsn)
  have HT3 := Lib.hid (fun w0 : World => cleanR_any x.value w0 hsv)
  have HI1 := Lib.hid (fun w0 : World => rin_any x.n 0 4294967295 w0)
  have HI2 := Lib.hid (fun w0 : World => rin_any x.m 0 4294967295 w0)
  have HO := Lib.hid (fun (w0 : World) (H : Ba1 w w0 w.heap.size x a) => rbetween_any _ _ _ _ _ 0 4294967295 w0 H.l.lo)
  have HD := Lib.hid (fun (w0 : World) (H : Ba1 w w0 w.heap.size x a) => rcols_any _ _ _ _ _ w0 H.l.lc)
  have HF := Lib.hid (fun (w0 : World) (H : Ba1 w w0 w.heap.size x a) => rfields_any _ _ _ _ _ w0 H.l.lf)
  have HP := Lib.hid (fun (w0 : World) (H : Ba1 w w0 w.heap.size x a) => rvalues_any _ _ _ _ _ w0 H.l.lr)
  have HOf := Lib.hid (fun (w0 : World) (H : Ba1 w w0 w.heap.size x a) => bkept_any _ x a w0 H.l)
  have HSm := Lib.hid (fun (a' : BaP) (w0 : World) (H : Ba1 w w0 w.heap.size x a) hk => rbsame_any _ (fun _ => True) x (keptB x) a a' w0 H.l hk)
  have Hsv : Hid (statusB x = ((!(x.kind == 90)) || ((x.status == 73) || ((x.status == 84) || (x.status == 69))))) := Lib.hid rfl
  have HC : Hid (∀ w1 : World, Ba1 w w1 w.heap.size x a → ∀ i, w1.cell? ⟨w.heap.size, i, none⟩ = (baCells x a)[i]?) := Lib.hid (fun w1 H => H.b.cell)
  unfold KeptB at HOf
  generalize checkB x = cv at *
  generalize okB x = ov at *
  generalize servK x.kind = kv at *
  generalize cleanB x.tag = t1 at *
  generalize cleanB x.name = t2 at *
  generalize cleanB x.value = t3 at *
  generalize colsB x.cols = bd at *
  generalize fieldsB x.fields = bf at *
  generalize valuesV x.row = br at *
  generalize between x.oids 0 4294967295 = bo at *
  generalize inR x.n 0 4294967295 = bn at *
  generalize inR x.m 0 4294967295 = bm at *
  generalize statusB x = stv at *
  generalize baEq x (keptB x) = sv at *
  generalize keptB x = kx at *
  obtain ⟨xk, xs, xt, xn, xv, xa, xb, xo, xc, xr, xf⟩ := x
  obtain ⟨apo, aco, apc, acc, apr, acr, apf, acf⟩ := a
  clear h hfb hst hsn hsv
  unfold baArg at *
  dsimp only at *
  generalize hKXA : kx = kx' at *
  clear hKXA
  unfold baCells at HC HOf HSm ⊢
  dsimp only at HC HOf HSm ⊢
  go_enter Tryz.func20, Tryz.ntmps20
  go_upto_region 1 with (fail)
  unfold baCells at H0
  dsimp only at H0
  generalize w.alloc (.cells #[.int .u8 xk, .int .u8 xs, .string xt, .string xn, .string xv, .int .i64 xa, .int .i64 xb, .slice apo xo.length aco, .slice apc xc.length acc, .slice apr xr.length acr, .slice apf xf.length acf] 39) = w1 at *
  have hc1 := HC.out w1 H0.out
  go_wp2_with fail
  refine (HKn.out _).mono ?_
  rintro e w2 ⟨rfl, rfl⟩
  have H2 := H0
  have hc2 := hc1
  clear hc1
  cases kv with
  | false =>
    have Hv2 : Hid (cv = 9) := Lib.hid (by rw [Hv.out]; rfl)
    go_wp2_with fail
    go_ret
    exact ⟨ret_int Hv2.out.symm, H2.out.bel⟩
  | true =>
    have Hv2 : Hid (cv = if ov = true then 0 else 1) := Lib.hid (by rw [Hv.out]; rfl)
    obtain ⟨tv, htv⟩ : ∃ tv, tv = (t1 && (t2 && t3)) := ⟨_, rfl⟩
    have Htv := Lib.hid htv
    obtain ⟨lv, hlv⟩ : ∃ lv, lv = (bn && (bm && bo)) := ⟨_, rfl⟩
    have Hlv := Lib.hid hlv
    rw [← hlv, ← htv] at Hok
    clear hlv htv Hv HKn
    go_upto_region 3 with fail
    go_cut [3] (fun v wx => v = .bool tv ∧ wx = w1)
    case first =>
      go_wp2_with fail
      refine (HT1.out _).mono ?_
      rintro e w3 ⟨rfl, rfl⟩
      cases t1 with
      | false =>
        go_wp2_with fail
        go_meet
        exact ⟨by rw [Htv.out]; rfl, rfl⟩
      | true =>
        go_wp2_with fail
        refine (HT2.out _).mono ?_
        rintro e w3 ⟨rfl, rfl⟩
        cases t2 with
        | false =>
          go_wp2_with fail
          go_meet
          exact ⟨by rw [Htv.out]; rfl, rfl⟩
        | true =>
          go_wp2_with fail
          refine (HT3.out _).mono ?_
          rintro e w3 ⟨rfl, rfl⟩
          go_wp2_with fail
          go_meet
          exact ⟨by rw [Htv.out]; rfl, rfl⟩
    case rest =>
      obtain ⟨rfl, rfl⟩ := hcut
      go_upto_region 4 with fail
      have HO1 := Lib.hid (HO.out _ H2.out)
      go_cut [4] (fun v wx => v = .bool lv ∧ wx = wc)
      case first =>
        go_wp2_with fail
        refine (HI1.out _).mono ?_
        rintro e w3 ⟨rfl, rfl⟩
        cases bn with
        | false =>
          go_wp2_with fail
          go_meet
          exact ⟨by rw [Hlv.out]; rfl, rfl⟩
        | true =>
          go_wp2_with fail
          refine (HI2.out _).mono ?_
          rintro e w3 ⟨rfl, rfl⟩
          cases bm with
          | false =>
            go_wp2_with fail
            go_meet
            exact ⟨by rw [Hlv.out]; rfl, rfl⟩
          | true =>
            go_wp2_with fail
            refine HO1.out.mono ?_
            rintro e w3 ⟨rfl, rfl⟩
            go_wp2_with fail
            go_meet
            exact ⟨by rw [Hlv.out]; rfl, rfl⟩
      case rest =>
        obtain ⟨rfl, rfl⟩ := hcut
        go_upto_region 5 with fail
        go_cut [0, 5] (fun _ v wx => v = .bool stv ∧ wx = wc)
        case first =>
          go_wp2_with fail
          all_goals
            go_meet
            refine ⟨?_, rfl⟩
            rw [Hsv.out]
            try simp_all [Bool.or_assoc]
        case rest =>
         obtain ⟨rfl, rfl⟩ := hcut
         have H3 := H2
         have hc3 := hc2
         clear hc2 H2 HO HO1 HT1 HT2 HT3
         cases tv with
         | false =>
           go_wp2_with fail
           go_quiet (fail)
           go_wp2_with fail
           go_ret
           exact ⟨ret_int (by rw [Hv2.out, Hok.out]; simp), H3.out.bel.trans (below_drewN' _ _ H3.out.bel.size)⟩
         | true =>
           cases lv with
           | false =>
             go_wp2_with fail
             go_quiet (fail)
             go_wp2_with fail
             go_ret
             exact ⟨ret_int (by rw [Hv2.out, Hok.out]; simp), H3.out.bel.trans (below_drewN' _ _ H3.out.bel.size)⟩
           | true =>
             cases stv with
             | false =>
               go_wp2_with fail
               go_quiet (fail)
               go_wp2_with fail
               go_ret
               exact ⟨ret_int (by rw [Hv2.out, Hok.out]; simp), H3.out.bel.trans (below_drewN' _ _ H3.out.bel.size)⟩
             | true =>
               go_upto_region 6 with fail
               cases bd with
               | false =>
                 refine wp_region_held_drew (S := (fun w' => ∀ i, w'.cell? ⟨w.heap.size, i, none⟩ = (#[.int .u8 xk, .int .u8 xs, .string xt, .string xn, .string xv, .int .i64 xa, .int .i64 xb, .slice apo xo.length aco, .slice apc xc.length acc, .slice apr xr.length acr, .slice apf xf.length acf] : Array Value)[i]?)) (by kernel_rfl) (hc3) (fun hHeld => ?_)
                 refine wpAnyH_takeD (i := 0) (v := ?vc2_0) rfl rfl (by kernel_rfl) (by kernel_rfl) (by kernel_rfl) (fun _ _ _ h => h) (by rfl) ?yc2_0 (by assumption) ?rc2_0
                 case yc2_0 => (intro w hSw; (try dsimp only at hSw); go_simp; try (with_reducible rfl))
                 try simp only [Act.put, List.setIfInBounds_toArray, List.set_cons_zero, List.set_cons_succ]
                 refine wpAnyH_takeD (i := 1) (v := ?vc2_1) rfl rfl (by kernel_rfl) (by kernel_rfl) (by kernel_rfl) (fun _ _ _ h => h) (by rfl) ?yc2_1 (by assumption) ?rc2_1
                 case yc2_1 => (intro w hSw; (try dsimp only at hSw); go_simp; try (with_reducible rfl))
                 try simp only [Act.put, List.setIfInBounds_toArray, List.set_cons_zero, List.set_cons_succ]
                 refine wpAnyH_takeD (i := 2) (v := ?vc2_2) rfl rfl (by kernel_rfl) (by kernel_rfl) (by kernel_rfl) (fun _ _ _ h => h) (by rfl) ?yc2_2 (by assumption) ?rc2_2
                 case yc2_2 => (intro w hSw; (try dsimp only at hSw); go_simp; try (with_reducible rfl))
                 try simp only [Act.put, List.setIfInBounds_toArray, List.set_cons_zero, List.set_cons_succ]
                 refine wpAnyH_takeD (i := 3) (v := ?vc2_3) rfl rfl (by kernel_rfl) (by kernel_rfl) (by kernel_rfl) (fun _ _ _ h => h) (by rfl) ?yc2_3 (by assumption) ?rc2_3
                 case yc2_3 => (intro w hSw; (try dsimp only at hSw); go_simp; try (with_reducible rfl))
                 try simp only [Act.put, List.setIfInBounds_toArray, List.set_cons_zero, List.set_cons_succ]
                 refine wpAnyH_takeD (i := 4) (v := ?vc2_4) rfl rfl (by kernel_rfl) (by kernel_rfl) (by kernel_rfl) (fun _ _ _ h => h) (by rfl) ?yc2_4 (by assumption) ?rc2_4
                 case yc2_4 => (intro w hSw; (try dsimp only at hSw); go_simp; try (with_reducible rfl))
                 try simp only [Act.put, List.setIfInBounds_toArray, List.set_cons_zero, List.set_cons_succ]
                 refine wpAnyH_takeD (i := 5) (v := ?vc2_5) rfl rfl (by kernel_rfl) (by kernel_rfl) (by kernel_rfl) (fun _ _ _ h => h) (by rfl) ?yc2_5 (by assumption) ?rc2_5
                 case yc2_5 => (intro w hSw; (try dsimp only at hSw); go_simp; try (with_reducible rfl))
                 try simp only [Act.put, List.setIfInBounds_toArray, List.set_cons_zero, List.set_cons_succ]
                 refine wpAnyH_takeD (i := 6) (v := ?vc2_6) rfl rfl (by kernel_rfl) (by kernel_rfl) (by kernel_rfl) (fun _ _ _ h => h) (by rfl) ?yc2_6 (by assumption) ?rc2_6
                 case yc2_6 => (intro w hSw; (try dsimp only at hSw); go_simp; try (with_reducible rfl))
                 try simp only [Act.put, List.setIfInBounds_toArray, List.set_cons_zero, List.set_cons_succ]
                 refine wpAnyH_takeD (i := 7) (v := ?vc2_7) rfl rfl (by kernel_rfl) (by kernel_rfl) (by kernel_rfl) (fun _ _ _ h => h) (by rfl) ?yc2_7 (by assumption) ?rc2_7
                 case yc2_7 => (intro w hSw; (try dsimp only at hSw); go_simp; try (with_reducible rfl))
                 try simp only [Act.put, List.setIfInBounds_toArray, List.set_cons_zero, List.set_cons_succ]
                 refine wpAnyH_takeD (i := 8) (v := ?vc2_8) rfl rfl (by kernel_rfl) (by kernel_rfl) (by kernel_rfl) (fun _ _ _ h => h) (by rfl) ?yc2_8 (by assumption) ?rc2_8
                 case yc2_8 => (intro w hSw; (try dsimp only at hSw); go_simp; try (with_reducible rfl))
                 try simp only [Act.put, List.setIfInBounds_toArray, List.set_cons_zero, List.set_cons_succ]
                 refine wpAnyH_takeD (i := 9) (v := ?vc2_9) rfl rfl (by kernel_rfl) (by kernel_rfl) (by kernel_rfl) (fun _ _ _ h => h) (by rfl) ?yc2_9 (by assumption) ?rc2_9
                 case yc2_9 => (intro w hSw; (try dsimp only at hSw); go_simp; try (with_reducible rfl))
                 try simp only [Act.put, List.setIfInBounds_toArray, List.set_cons_zero, List.set_cons_succ]
                 refine wpAnyH_takeD (i := 10) (v := ?vc2_10) rfl rfl (by kernel_rfl) (by kernel_rfl) (by kernel_rfl) (fun _ _ _ h => h) (by rfl) ?yc2_10 (by assumption) ?rc2_10
                 case yc2_10 => (intro w hSw; (try dsimp only at hSw); go_simp; try (with_reducible rfl))
                 try simp only [Act.put, List.setIfInBounds_toArray, List.set_cons_zero, List.set_cons_succ]
                 refine wpAnyH_takeD (i := 11) (v := ?vc2_11) rfl rfl (by kernel_rfl) (by kernel_rfl) (by kernel_rfl) (fun _ _ _ h => h) (by rfl) ?yc2_11 (by assumption) ?rc2_11
                 case yc2_11 => (intro w hSw; (try dsimp only at hSw); go_simp; try (with_reducible rfl))
                 try simp only [Act.put, List.setIfInBounds_toArray, List.set_cons_zero, List.set_cons_succ]
                 refine wpAnyH_takeD (i := 12) (v := ?vc2_12) rfl rfl (by kernel_rfl) (by kernel_rfl) (by kernel_rfl) (fun _ _ _ h => h) (by rfl) ?yc2_12 (by assumption) ?rc2_12
                 case yc2_12 => (intro w hSw; (try dsimp only at hSw); go_simp; try (with_reducible rfl))
                 try simp only [Act.put, List.setIfInBounds_toArray, List.set_cons_zero, List.set_cons_succ]
                 refine wpAnyH_callD (i := 13) rfl rfl (by kernel_rfl) (by rfl) 68 _ _ (HD.out _ H3.out.drew1) (by go_simp) ?_
                 rintro e w6 ⟨rfl, hb⟩
                 have H6 := Lib.hid (H3.out.drew1.step hb)
                 clear hb
                 refine ⟨_, rfl, HC.out _ H6.out, ?_⟩
                 have hHeld := HC.out _ H6.out
                 try simp only [Act.put, List.setIfInBounds_toArray, List.set_cons_zero, List.set_cons_succ]
                 refine wpAnyH_takeD (i := 14) (v := ?vc2_14) rfl rfl (by kernel_rfl) (by kernel_rfl) (by kernel_rfl) (fun _ _ _ h => h) (by rfl) ?yc2_14 (by assumption) ?rc2_14
                 case yc2_14 => (intro w hSw; (try dsimp only at hSw); go_simp; try (with_reducible rfl))
                 try simp only [Act.put, List.setIfInBounds_toArray, List.set_cons_zero, List.set_cons_succ]
                 refine wpAnyH_takeD (i := 15) (v := ?vc2_15) rfl rfl (by kernel_rfl) (by kernel_rfl) (by kernel_rfl) (fun _ _ _ h => h) (by rfl) ?yc2_15 (by assumption) ?rc2_15
                 case yc2_15 => (intro w hSw; (try dsimp only at hSw); go_simp; try (with_reducible rfl))
                 try simp only [Act.put, List.setIfInBounds_toArray, List.set_cons_zero, List.set_cons_succ]
                 refine wpAnyH_takeD (i := 16) (v := ?vc2_16) rfl rfl (by kernel_rfl) (by kernel_rfl) (by kernel_rfl) (fun _ _ _ h => h) (by rfl) ?yc2_16 (by assumption) ?rc2_16
                 case yc2_16 => (intro w hSw; (try dsimp only at hSw); go_simp; try (with_reducible rfl))
                 try simp only [Act.put, List.setIfInBounds_toArray, List.set_cons_zero, List.set_cons_succ]
                 refine wpAnyH_offD (i := 17) rfl rfl (by kernel_rfl) (by kernel_rfl) (by kernel_rfl) (fun _ _ _ h => h) (by rfl) (by assumption) ?_
                 try simp only [Act.put, List.setIfInBounds_toArray, List.set_cons_zero, List.set_cons_succ]
                 refine wpAnyH_offD (i := 18) rfl rfl (by kernel_rfl) (by kernel_rfl) (by kernel_rfl) (fun _ _ _ h => h) (by rfl) (by assumption) ?_
                 try simp only [Act.put, List.setIfInBounds_toArray, List.set_cons_zero, List.set_cons_succ]
                 refine wpAnyH_offD (i := 19) rfl rfl (by kernel_rfl) (by kernel_rfl) (by kernel_rfl) (fun _ _ _ h => h) (by rfl) (by assumption) ?_
                 try simp only [Act.put, List.setIfInBounds_toArray, List.set_cons_zero, List.set_cons_succ]
                 refine wpAnyH_offD (i := 20) rfl rfl (by kernel_rfl) (by kernel_rfl) (by kernel_rfl) (fun _ _ _ h => h) (by rfl) (by assumption) ?_
                 try simp only [Act.put, List.setIfInBounds_toArray, List.set_cons_zero, List.set_cons_succ]
                 refine wpAnyH_takeD (i := 21) (v := ?vc2_21) rfl rfl (by kernel_rfl) (by kernel_rfl) (by kernel_rfl) (fun _ _ _ h => h) (by rfl) ?yc2_21 (by assumption) ?rc2_21
                 case yc2_21 => (intro w hSw; (try dsimp only at hSw); go_simp; try (with_reducible rfl))
                 try simp only [Act.put, List.setIfInBounds_toArray, List.set_cons_zero, List.set_cons_succ]
                 refine wpAnyH_takeD (i := 22) (v := ?vc2_22) rfl rfl (by kernel_rfl) (by kernel_rfl) (by kernel_rfl) (fun _ _ _ h => h) (by rfl) ?yc2_22 (by assumption) ?rc2_22
                 case yc2_22 => (intro w hSw; (try dsimp only at hSw); go_simp; try (with_reducible rfl))
                 try simp only [Act.put, List.setIfInBounds_toArray, List.set_cons_zero, List.set_cons_succ]
                 refine wpAnyH_offD (i := 23) rfl rfl (by kernel_rfl) (by kernel_rfl) (by kernel_rfl) (fun _ _ _ h => h) (by rfl) (by assumption) ?_
                 try simp only [Act.put, List.setIfInBounds_toArray, List.set_cons_zero, List.set_cons_succ]
                 refine wpAnyH_offD (i := 24) rfl rfl (by kernel_rfl) (by kernel_rfl) (by kernel_rfl) (fun _ _ _ h => h) (by rfl) (by assumption) ?_
                 try simp only [Act.put, List.setIfInBounds_toArray, List.set_cons_zero, List.set_cons_succ]
                 refine wpAnyH_offD (i := 25) rfl rfl (by kernel_rfl) (by kernel_rfl) (by kernel_rfl) (fun _ _ _ h => h) (by rfl) (by assumption) ?_
                 try simp only [Act.put, List.setIfInBounds_toArray, List.set_cons_zero, List.set_cons_succ]
                 refine wpAnyH_offD (i := 26) rfl rfl (by kernel_rfl) (by kernel_rfl) (by kernel_rfl) (fun _ _ _ h => h) (by rfl) (by assumption) ?_
                 try simp only [Act.put, List.setIfInBounds_toArray, List.set_cons_zero, List.set_cons_succ]
                 refine wpAnyH_takeD (i := 27) (v := ?vc2_27) rfl rfl (by kernel_rfl) (by kernel_rfl) (by kernel_rfl) (fun _ _ _ h => h) (by rfl) ?yc2_27 (by assumption) ?rc2_27
                 case yc2_27 => (intro w hSw; (try dsimp only at hSw); go_simp; try (with_reducible rfl))
                 try simp only [Act.put, List.setIfInBounds_toArray, List.set_cons_zero, List.set_cons_succ]
                 refine wpAnyH_takeD (i := 28) (v := ?vc2_28) rfl rfl (by kernel_rfl) (by kernel_rfl) (by kernel_rfl) (fun _ _ _ h => h) (by rfl) ?yc2_28 (by assumption) ?rc2_28
                 case yc2_28 => (intro w hSw; (try dsimp only at hSw); go_simp; try (with_reducible rfl))
                 try simp only [Act.put, List.setIfInBounds_toArray, List.set_cons_zero, List.set_cons_succ]
                 refine wpAnyH_offD (i := 29) rfl rfl (by kernel_rfl) (by kernel_rfl) (by kernel_rfl) (fun _ _ _ h => h) (by rfl) (by assumption) ?_
                 try simp only [Act.put, List.setIfInBounds_toArray, List.set_cons_zero, List.set_cons_succ]
                 refine wpAnyH_offD (i := 30) rfl rfl (by kernel_rfl) (by kernel_rfl) (by kernel_rfl) (fun _ _ _ h => h) (by rfl) (by assumption) ?_
                 try simp only [Act.put, List.setIfInBounds_toArray, List.set_cons_zero, List.set_cons_succ]
                 refine wpAnyH_offD (i := 31) rfl rfl (by kernel_rfl) (by kernel_rfl) (by kernel_rfl) (fun _ _ _ h => h) (by rfl) (by assumption) ?_
                 try simp only [Act.put, List.setIfInBounds_toArray, List.set_cons_zero, List.set_cons_succ]
                 refine wpAnyH_offD (i := 32) rfl rfl (by kernel_rfl) (by kernel_rfl) (by kernel_rfl) (fun _ _ _ h => h) (by rfl) (by assumption) ?_
                 try simp only [Act.put, List.setIfInBounds_toArray, List.set_cons_zero, List.set_cons_succ]
                 refine wpAnyH_offD (i := 33) rfl rfl (by kernel_rfl) (by kernel_rfl) (by kernel_rfl) (fun _ _ _ h => h) (by rfl) (by assumption) ?_
                 try simp only [Act.put, List.setIfInBounds_toArray, List.set_cons_zero, List.set_cons_succ]
                 refine wpAnyH_takeD (i := 34) (v := ?vc2_34) rfl rfl (by kernel_rfl) (by kernel_rfl) (by kernel_rfl) (fun _ _ _ h => h) (by rfl) ?yc2_34 (by assumption) ?rc2_34
                 case yc2_34 => (intro w hSw; (try dsimp only at hSw); go_simp; try (with_reducible rfl))
                 try simp only [Act.put, List.setIfInBounds_toArray, List.set_cons_zero, List.set_cons_succ]
                 refine wpAnyH_done (by kernel_rfl) ?_ _
                 all_goals
                   go_wp2_with fail
                   go_ret
                   exact ⟨ret_int (by rw [Hv2.out, Hok.out]; simp), H6.out.bel⟩
               | true =>
                 cases bf with
                 | false =>
                   refine wp_region_held_drew (S := (fun w' => ∀ i, w'.cell? ⟨w.heap.size, i, none⟩ = (#[.int .u8 xk, .int .u8 xs, .string xt, .string xn, .string xv, .int .i64 xa, .int .i64 xb, .slice apo xo.length aco, .slice apc xc.length acc, .slice apr xr.length acr, .slice apf xf.length acf] : Array Value)[i]?)) (by kernel_rfl) (hc3) (fun hHeld => ?_)
                   refine wpAnyH_takeD (i := 0) (v := ?vd3_0) rfl rfl (by kernel_rfl) (by kernel_rfl) (by kernel_rfl) (fun _ _ _ h => h) (by rfl) ?yd3_0 (by assumption) ?rd3_0
                   case yd3_0 => (intro w hSw; (try dsimp only at hSw); go_simp; try (with_reducible rfl))
                   try simp only [Act.put, List.setIfInBounds_toArray, List.set_cons_zero, List.set_cons_succ]
                   refine wpAnyH_takeD (i := 1) (v := ?vd3_1) rfl rfl (by kernel_rfl) (by kernel_rfl) (by kernel_rfl) (fun _ _ _ h => h) (by rfl) ?yd3_1 (by assumption) ?rd3_1
                   case yd3_1 => (intro w hSw; (try dsimp only at hSw); go_simp; try (with_reducible rfl))
                   try simp only [Act.put, List.setIfInBounds_toArray, List.set_cons_zero, List.set_cons_succ]
                   refine wpAnyH_takeD (i := 2) (v := ?vd3_2) rfl rfl (by kernel_rfl) (by kernel_rfl) (by kernel_rfl) (fun _ _ _ h => h) (by rfl) ?yd3_2 (by assumption) ?rd3_2
                   case yd3_2 => (intro w hSw; (try dsimp only at hSw); go_simp; try (with_reducible rfl))
                   try simp only [Act.put, List.setIfInBounds_toArray, List.set_cons_zero, List.set_cons_succ]
                   refine wpAnyH_takeD (i := 3) (v := ?vd3_3) rfl rfl (by kernel_rfl) (by kernel_rfl) (by kernel_rfl) (fun _ _ _ h => h) (by rfl) ?yd3_3 (by assumption) ?rd3_3
                   case yd3_3 => (intro w hSw; (try dsimp only at hSw); go_simp; try (with_reducible rfl))
                   try simp only [Act.put, List.setIfInBounds_toArray, List.set_cons_zero, List.set_cons_succ]
                   refine wpAnyH_takeD (i := 4) (v := ?vd3_4) rfl rfl (by kernel_rfl) (by kernel_rfl) (by kernel_rfl) (fun _ _ _ h => h) (by rfl) ?yd3_4 (by assumption) ?rd3_4
                   case yd3_4 => (intro w hSw; (try dsimp only at hSw); go_simp; try (with_reducible rfl))
                   try simp only [Act.put, List.setIfInBounds_toArray, List.set_cons_zero, List.set_cons_succ]
                   refine wpAnyH_takeD (i := 5) (v := ?vd3_5) rfl rfl (by kernel_rfl) (by kernel_rfl) (by kernel_rfl) (fun _ _ _ h => h) (by rfl) ?yd3_5 (by assumption) ?rd3_5
                   case yd3_5 => (intro w hSw; (try dsimp only at hSw); go_simp; try (with_reducible rfl))
                   try simp only [Act.put, List.setIfInBounds_toArray, List.set_cons_zero, List.set_cons_succ]
                   refine wpAnyH_takeD (i := 6) (v := ?vd3_6) rfl rfl (by kernel_rfl) (by kernel_rfl) (by kernel_rfl) (fun _ _ _ h => h) (by rfl) ?yd3_6 (by assumption) ?rd3_6
                   case yd3_6 => (intro w hSw; (try dsimp only at hSw); go_simp; try (with_reducible rfl))
                   try simp only [Act.put, List.setIfInBounds_toArray, List.set_cons_zero, List.set_cons_succ]
                   refine wpAnyH_takeD (i := 7) (v := ?vd3_7) rfl rfl (by kernel_rfl) (by kernel_rfl) (by kernel_rfl) (fun _ _ _ h => h) (by rfl) ?yd3_7 (by assumption) ?rd3_7
                   case yd3_7 => (intro w hSw; (try dsimp only at hSw); go_simp; try (with_reducible rfl))
                   try simp only [Act.put, List.setIfInBounds_toArray, List.set_cons_zero, List.set_cons_succ]
                   refine wpAnyH_takeD (i := 8) (v := ?vd3_8) rfl rfl (by kernel_rfl) (by kernel_rfl) (by kernel_rfl) (fun _ _ _ h => h) (by rfl) ?yd3_8 (by assumption) ?rd3_8
                   case yd3_8 => (intro w hSw; (try dsimp only at hSw); go_simp; try (with_reducible rfl))
                   try simp only [Act.put, List.setIfInBounds_toArray, List.set_cons_zero, List.set_cons_succ]
                   refine wpAnyH_takeD (i := 9) (v := ?vd3_9) rfl rfl (by kernel_rfl) (by kernel_rfl) (by kernel_rfl) (fun _ _ _ h => h) (by rfl) ?yd3_9 (by assumption) ?rd3_9
                   case yd3_9 => (intro w hSw; (try dsimp only at hSw); go_simp; try (with_reducible rfl))
                   try simp only [Act.put, List.setIfInBounds_toArray, List.set_cons_zero, List.set_cons_succ]
                   refine wpAnyH_takeD (i := 10) (v := ?vd3_10) rfl rfl (by kernel_rfl) (by kernel_rfl) (by kernel_rfl) (fun _ _ _ h => h) (by rfl) ?yd3_10 (by assumption) ?rd3_10
                   case yd3_10 => (intro w hSw; (try dsimp only at hSw); go_simp; try (with_reducible rfl))
                   try simp only [Act.put, List.setIfInBounds_toArray, List.set_cons_zero, List.set_cons_succ]
                   refine wpAnyH_takeD (i := 11) (v := ?vd3_11) rfl rfl (by kernel_rfl) (by kernel_rfl) (by kernel_rfl) (fun _ _ _ h => h) (by rfl) ?yd3_11 (by assumption) ?rd3_11
                   case yd3_11 => (intro w hSw; (try dsimp only at hSw); go_simp; try (with_reducible rfl))
                   try simp only [Act.put, List.setIfInBounds_toArray, List.set_cons_zero, List.set_cons_succ]
                   refine wpAnyH_takeD (i := 12) (v := ?vd3_12) rfl rfl (by kernel_rfl) (by kernel_rfl) (by kernel_rfl) (fun _ _ _ h => h) (by rfl) ?yd3_12 (by assumption) ?rd3_12
                   case yd3_12 => (intro w hSw; (try dsimp only at hSw); go_simp; try (with_reducible rfl))
                   try simp only [Act.put, List.setIfInBounds_toArray, List.set_cons_zero, List.set_cons_succ]
                   refine wpAnyH_callD (i := 13) rfl rfl (by kernel_rfl) (by rfl) 68 _ _ (HD.out _ H3.out.drew1) (by go_simp) ?_
                   rintro e w6 ⟨rfl, hb⟩
                   have H6 := Lib.hid (H3.out.drew1.step hb)
                   clear hb
                   refine ⟨_, rfl, HC.out _ H6.out, ?_⟩
                   have hHeld := HC.out _ H6.out
                   try simp only [Act.put, List.setIfInBounds_toArray, List.set_cons_zero, List.set_cons_succ]
                   refine wpAnyH_takeD (i := 14) (v := ?vd3_14) rfl rfl (by kernel_rfl) (by kernel_rfl) (by kernel_rfl) (fun _ _ _ h => h) (by rfl) ?yd3_14 (by assumption) ?rd3_14
                   case yd3_14 => (intro w hSw; (try dsimp only at hSw); go_simp; try (with_reducible rfl))
                   try simp only [Act.put, List.setIfInBounds_toArray, List.set_cons_zero, List.set_cons_succ]
                   refine wpAnyH_takeD (i := 15) (v := ?vd3_15) rfl rfl (by kernel_rfl) (by kernel_rfl) (by kernel_rfl) (fun _ _ _ h => h) (by rfl) ?yd3_15 (by assumption) ?rd3_15
                   case yd3_15 => (intro w hSw; (try dsimp only at hSw); go_simp; try (with_reducible rfl))
                   try simp only [Act.put, List.setIfInBounds_toArray, List.set_cons_zero, List.set_cons_succ]
                   refine wpAnyH_takeD (i := 16) (v := ?vd3_16) rfl rfl (by kernel_rfl) (by kernel_rfl) (by kernel_rfl) (fun _ _ _ h => h) (by rfl) ?yd3_16 (by assumption) ?rd3_16
                   case yd3_16 => (intro w hSw; (try dsimp only at hSw); go_simp; try (with_reducible rfl))
                   try simp only [Act.put, List.setIfInBounds_toArray, List.set_cons_zero, List.set_cons_succ]
                   refine wpAnyH_takeD (i := 17) (v := ?vd3_17) rfl rfl (by kernel_rfl) (by kernel_rfl) (by kernel_rfl) (fun _ _ _ h => h) (by rfl) ?yd3_17 (by assumption) ?rd3_17
                   case yd3_17 => (intro w hSw; (try dsimp only at hSw); go_simp; try (with_reducible rfl))
                   try simp only [Act.put, List.setIfInBounds_toArray, List.set_cons_zero, List.set_cons_succ]
                   refine wpAnyH_takeD (i := 18) (v := ?vd3_18) rfl rfl (by kernel_rfl) (by kernel_rfl) (by kernel_rfl) (fun _ _ _ h => h) (by rfl) ?yd3_18 (by assumption) ?rd3_18
                   case yd3_18 => (intro w hSw; (try dsimp only at hSw); go_simp; try (with_reducible rfl))
                   try simp only [Act.put, List.setIfInBounds_toArray, List.set_cons_zero, List.set_cons_succ]
                   refine wpAnyH_callD (i := 19) rfl rfl (by kernel_rfl) (by rfl) 69 _ _ (HF.out _ H6.out) (by go_simp) ?_
                   rintro e wz ⟨rfl, rfl⟩
                   refine ⟨_, rfl, hHeld, ?_⟩
                   have hHeld := hHeld
                   try simp only [Act.put, List.setIfInBounds_toArray, List.set_cons_zero, List.set_cons_succ]
                   refine wpAnyH_takeD (i := 20) (v := ?vd3_20) rfl rfl (by kernel_rfl) (by kernel_rfl) (by kernel_rfl) (fun _ _ _ h => h) (by rfl) ?yd3_20 (by assumption) ?rd3_20
                   case yd3_20 => (intro w hSw; (try dsimp only at hSw); go_simp; try (with_reducible rfl))
                   try simp only [Act.put, List.setIfInBounds_toArray, List.set_cons_zero, List.set_cons_succ]
                   refine wpAnyH_takeD (i := 21) (v := ?vd3_21) rfl rfl (by kernel_rfl) (by kernel_rfl) (by kernel_rfl) (fun _ _ _ h => h) (by rfl) ?yd3_21 (by assumption) ?rd3_21
                   case yd3_21 => (intro w hSw; (try dsimp only at hSw); go_simp; try (with_reducible rfl))
                   try simp only [Act.put, List.setIfInBounds_toArray, List.set_cons_zero, List.set_cons_succ]
                   refine wpAnyH_takeD (i := 22) (v := ?vd3_22) rfl rfl (by kernel_rfl) (by kernel_rfl) (by kernel_rfl) (fun _ _ _ h => h) (by rfl) ?yd3_22 (by assumption) ?rd3_22
                   case yd3_22 => (intro w hSw; (try dsimp only at hSw); go_simp; try (with_reducible rfl))
                   try simp only [Act.put, List.setIfInBounds_toArray, List.set_cons_zero, List.set_cons_succ]
                   refine wpAnyH_offD (i := 23) rfl rfl (by kernel_rfl) (by kernel_rfl) (by kernel_rfl) (fun _ _ _ h => h) (by rfl) (by assumption) ?_
                   try simp only [Act.put, List.setIfInBounds_toArray, List.set_cons_zero, List.set_cons_succ]
                   refine wpAnyH_offD (i := 24) rfl rfl (by kernel_rfl) (by kernel_rfl) (by kernel_rfl) (fun _ _ _ h => h) (by rfl) (by assumption) ?_
                   try simp only [Act.put, List.setIfInBounds_toArray, List.set_cons_zero, List.set_cons_succ]
                   refine wpAnyH_offD (i := 25) rfl rfl (by kernel_rfl) (by kernel_rfl) (by kernel_rfl) (fun _ _ _ h => h) (by rfl) (by assumption) ?_
                   try simp only [Act.put, List.setIfInBounds_toArray, List.set_cons_zero, List.set_cons_succ]
                   refine wpAnyH_offD (i := 26) rfl rfl (by kernel_rfl) (by kernel_rfl) (by kernel_rfl) (fun _ _ _ h => h) (by rfl) (by assumption) ?_
                   try simp only [Act.put, List.setIfInBounds_toArray, List.set_cons_zero, List.set_cons_succ]
                   refine wpAnyH_takeD (i := 27) (v := ?vd3_27) rfl rfl (by kernel_rfl) (by kernel_rfl) (by kernel_rfl) (fun _ _ _ h => h) (by rfl) ?yd3_27 (by assumption) ?rd3_27
                   case yd3_27 => (intro w hSw; (try dsimp only at hSw); go_simp; try (with_reducible rfl))
                   try simp only [Act.put, List.setIfInBounds_toArray, List.set_cons_zero, List.set_cons_succ]
                   refine wpAnyH_takeD (i := 28) (v := ?vd3_28) rfl rfl (by kernel_rfl) (by kernel_rfl) (by kernel_rfl) (fun _ _ _ h => h) (by rfl) ?yd3_28 (by assumption) ?rd3_28
                   case yd3_28 => (intro w hSw; (try dsimp only at hSw); go_simp; try (with_reducible rfl))
                   try simp only [Act.put, List.setIfInBounds_toArray, List.set_cons_zero, List.set_cons_succ]
                   refine wpAnyH_offD (i := 29) rfl rfl (by kernel_rfl) (by kernel_rfl) (by kernel_rfl) (fun _ _ _ h => h) (by rfl) (by assumption) ?_
                   try simp only [Act.put, List.setIfInBounds_toArray, List.set_cons_zero, List.set_cons_succ]
                   refine wpAnyH_offD (i := 30) rfl rfl (by kernel_rfl) (by kernel_rfl) (by kernel_rfl) (fun _ _ _ h => h) (by rfl) (by assumption) ?_
                   try simp only [Act.put, List.setIfInBounds_toArray, List.set_cons_zero, List.set_cons_succ]
                   refine wpAnyH_offD (i := 31) rfl rfl (by kernel_rfl) (by kernel_rfl) (by kernel_rfl) (fun _ _ _ h => h) (by rfl) (by assumption) ?_
                   try simp only [Act.put, List.setIfInBounds_toArray, List.set_cons_zero, List.set_cons_succ]
                   refine wpAnyH_offD (i := 32) rfl rfl (by kernel_rfl) (by kernel_rfl) (by kernel_rfl) (fun _ _ _ h => h) (by rfl) (by assumption) ?_
                   try simp only [Act.put, List.setIfInBounds_toArray, List.set_cons_zero, List.set_cons_succ]
                   refine wpAnyH_offD (i := 33) rfl rfl (by kernel_rfl) (by kernel_rfl) (by kernel_rfl) (fun _ _ _ h => h) (by rfl) (by assumption) ?_
                   try simp only [Act.put, List.setIfInBounds_toArray, List.set_cons_zero, List.set_cons_succ]
                   refine wpAnyH_takeD (i := 34) (v := ?vd3_34) rfl rfl (by kernel_rfl) (by kernel_rfl) (by kernel_rfl) (fun _ _ _ h => h) (by rfl) ?yd3_34 (by assumption) ?rd3_34
                   case yd3_34 => (intro w hSw; (try dsimp only at hSw); go_simp; try (with_reducible rfl))
                   try simp only [Act.put, List.setIfInBounds_toArray, List.set_cons_zero, List.set_cons_succ]
                   refine wpAnyH_done (by kernel_rfl) ?_ _
                   all_goals
                     go_wp2_with fail
                     go_ret
                     exact ⟨ret_int (by rw [Hv2.out, Hok.out]; simp), H6.out.bel⟩
                 | true =>
                   cases br with
                   | false =>
                     refine wp_region_held_drew (S := (fun w' => ∀ i, w'.cell? ⟨w.heap.size, i, none⟩ = (#[.int .u8 xk, .int .u8 xs, .string xt, .string xn, .string xv, .int .i64 xa, .int .i64 xb, .slice apo xo.length aco, .slice apc xc.length acc, .slice apr xr.length acr, .slice apf xf.length acf] : Array Value)[i]?)) (by kernel_rfl) (hc3) (fun hHeld => ?_)
                     refine wpAnyH_takeD (i := 0) (v := ?ve4_0) rfl rfl (by kernel_rfl) (by kernel_rfl) (by kernel_rfl) (fun _ _ _ h => h) (by rfl) ?ye4_0 (by assumption) ?re4_0
                     case ye4_0 => (intro w hSw; (try dsimp only at hSw); go_simp; try (with_reducible rfl))
                     try simp only [Act.put, List.setIfInBounds_toArray, List.set_cons_zero, List.set_cons_succ]
                     refine wpAnyH_takeD (i := 1) (v := ?ve4_1) rfl rfl (by kernel_rfl) (by kernel_rfl) (by kernel_rfl) (fun _ _ _ h => h) (by rfl) ?ye4_1 (by assumption) ?re4_1
                     case ye4_1 => (intro w hSw; (try dsimp only at hSw); go_simp; try (with_reducible rfl))
                     try simp only [Act.put, List.setIfInBounds_toArray, List.set_cons_zero, List.set_cons_succ]
                     refine wpAnyH_takeD (i := 2) (v := ?ve4_2) rfl rfl (by kernel_rfl) (by kernel_rfl) (by kernel_rfl) (fun _ _ _ h => h) (by rfl) ?ye4_2 (by assumption) ?re4_2
                     case ye4_2 => (intro w hSw; (try dsimp only at hSw); go_simp; try (with_reducible rfl))
                     try simp only [Act.put, List.setIfInBounds_toArray, List.set_cons_zero, List.set_cons_succ]
                     refine wpAnyH_takeD (i := 3) (v := ?ve4_3) rfl rfl (by kernel_rfl) (by kernel_rfl) (by kernel_rfl) (fun _ _ _ h => h) (by rfl) ?ye4_3 (by assumption) ?re4_3
                     case ye4_3 => (intro w hSw; (try dsimp only at hSw); go_simp; try (with_reducible rfl))
                     try simp only [Act.put, List.setIfInBounds_toArray, List.set_cons_zero, List.set_cons_succ]
                     refine wpAnyH_takeD (i := 4) (v := ?ve4_4) rfl rfl (by kernel_rfl) (by kernel_rfl) (by kernel_rfl) (fun _ _ _ h => h) (by rfl) ?ye4_4 (by assumption) ?re4_4
                     case ye4_4 => (intro w hSw; (try dsimp only at hSw); go_simp; try (with_reducible rfl))
                     try simp only [Act.put, List.setIfInBounds_toArray, List.set_cons_zero, List.set_cons_succ]
                     refine wpAnyH_takeD (i := 5) (v := ?ve4_5) rfl rfl (by kernel_rfl) (by kernel_rfl) (by kernel_rfl) (fun _ _ _ h => h) (by rfl) ?ye4_5 (by assumption) ?re4_5
                     case ye4_5 => (intro w hSw; (try dsimp only at hSw); go_simp; try (with_reducible rfl))
                     try simp only [Act.put, List.setIfInBounds_toArray, List.set_cons_zero, List.set_cons_succ]
                     refine wpAnyH_takeD (i := 6) (v := ?ve4_6) rfl rfl (by kernel_rfl) (by kernel_rfl) (by kernel_rfl) (fun _ _ _ h => h) (by rfl) ?ye4_6 (by assumption) ?re4_6
                     case ye4_6 => (intro w hSw; (try dsimp only at hSw); go_simp; try (with_reducible rfl))
                     try simp only [Act.put, List.setIfInBounds_toArray, List.set_cons_zero, List.set_cons_succ]
                     refine wpAnyH_takeD (i := 7) (v := ?ve4_7) rfl rfl (by kernel_rfl) (by kernel_rfl) (by kernel_rfl) (fun _ _ _ h => h) (by rfl) ?ye4_7 (by assumption) ?re4_7
                     case ye4_7 => (intro w hSw; (try dsimp only at hSw); go_simp; try (with_reducible rfl))
                     try simp only [Act.put, List.setIfInBounds_toArray, List.set_cons_zero, List.set_cons_succ]
                     refine wpAnyH_takeD (i := 8) (v := ?ve4_8) rfl rfl (by kernel_rfl) (by kernel_rfl) (by kernel_rfl) (fun _ _ _ h => h) (by rfl) ?ye4_8 (by assumption) ?re4_8
                     case ye4_8 => (intro w hSw; (try dsimp only at hSw); go_simp; try (with_reducible rfl))
                     try simp only [Act.put, List.setIfInBounds_toArray, List.set_cons_zero, List.set_cons_succ]
                     refine wpAnyH_takeD (i := 9) (v := ?ve4_9) rfl rfl (by kernel_rfl) (by kernel_rfl) (by kernel_rfl) (fun _ _ _ h => h) (by rfl) ?ye4_9 (by assumption) ?re4_9
                     case ye4_9 => (intro w hSw; (try dsimp only at hSw); go_simp; try (with_reducible rfl))
                     try simp only [Act.put, List.setIfInBounds_toArray, List.set_cons_zero, List.set_cons_succ]
                     refine wpAnyH_takeD (i := 10) (v := ?ve4_10) rfl rfl (by kernel_rfl) (by kernel_rfl) (by kernel_rfl) (fun _ _ _ h => h) (by rfl) ?ye4_10 (by assumption) ?re4_10
                     case ye4_10 => (intro w hSw; (try dsimp only at hSw); go_simp; try (with_reducible rfl))
                     try simp only [Act.put, List.setIfInBounds_toArray, List.set_cons_zero, List.set_cons_succ]
                     refine wpAnyH_takeD (i := 11) (v := ?ve4_11) rfl rfl (by kernel_rfl) (by kernel_rfl) (by kernel_rfl) (fun _ _ _ h => h) (by rfl) ?ye4_11 (by assumption) ?re4_11
                     case ye4_11 => (intro w hSw; (try dsimp only at hSw); go_simp; try (with_reducible rfl))
                     try simp only [Act.put, List.setIfInBounds_toArray, List.set_cons_zero, List.set_cons_succ]
                     refine wpAnyH_takeD (i := 12) (v := ?ve4_12) rfl rfl (by kernel_rfl) (by kernel_rfl) (by kernel_rfl) (fun _ _ _ h => h) (by rfl) ?ye4_12 (by assumption) ?re4_12
                     case ye4_12 => (intro w hSw; (try dsimp only at hSw); go_simp; try (with_reducible rfl))
                     try simp only [Act.put, List.setIfInBounds_toArray, List.set_cons_zero, List.set_cons_succ]
                     refine wpAnyH_callD (i := 13) rfl rfl (by kernel_rfl) (by rfl) 68 _ _ (HD.out _ H3.out.drew1) (by go_simp) ?_
                     rintro e w6 ⟨rfl, hb⟩
                     have H6 := Lib.hid (H3.out.drew1.step hb)
                     clear hb
                     refine ⟨_, rfl, HC.out _ H6.out, ?_⟩
                     have hHeld := HC.out _ H6.out
                     try simp only [Act.put, List.setIfInBounds_toArray, List.set_cons_zero, List.set_cons_succ]
                     refine wpAnyH_takeD (i := 14) (v := ?ve4_14) rfl rfl (by kernel_rfl) (by kernel_rfl) (by kernel_rfl) (fun _ _ _ h => h) (by rfl) ?ye4_14 (by assumption) ?re4_14
                     case ye4_14 => (intro w hSw; (try dsimp only at hSw); go_simp; try (with_reducible rfl))
                     try simp only [Act.put, List.setIfInBounds_toArray, List.set_cons_zero, List.set_cons_succ]
                     refine wpAnyH_takeD (i := 15) (v := ?ve4_15) rfl rfl (by kernel_rfl) (by kernel_rfl) (by kernel_rfl) (fun _ _ _ h => h) (by rfl) ?ye4_15 (by assumption) ?re4_15
                     case ye4_15 => (intro w hSw; (try dsimp only at hSw); go_simp; try (with_reducible rfl))
                     try simp only [Act.put, List.setIfInBounds_toArray, List.set_cons_zero, List.set_cons_succ]
                     refine wpAnyH_takeD (i := 16) (v := ?ve4_16) rfl rfl (by kernel_rfl) (by kernel_rfl) (by kernel_rfl) (fun _ _ _ h => h) (by rfl) ?ye4_16 (by assumption) ?re4_16
                     case ye4_16 => (intro w hSw; (try dsimp only at hSw); go_simp; try (with_reducible rfl))
                     try simp only [Act.put, List.setIfInBounds_toArray, List.set_cons_zero, List.set_cons_succ]
                     refine wpAnyH_takeD (i := 17) (v := ?ve4_17) rfl rfl (by kernel_rfl) (by kernel_rfl) (by kernel_rfl) (fun _ _ _ h => h) (by rfl) ?ye4_17 (by assumption) ?re4_17
                     case ye4_17 => (intro w hSw; (try dsimp only at hSw); go_simp; try (with_reducible rfl))
                     try simp only [Act.put, List.setIfInBounds_toArray, List.set_cons_zero, List.set_cons_succ]
                     refine wpAnyH_takeD (i := 18) (v := ?ve4_18) rfl rfl (by kernel_rfl) (by kernel_rfl) (by kernel_rfl) (fun _ _ _ h => h) (by rfl) ?ye4_18 (by assumption) ?re4_18
                     case ye4_18 => (intro w hSw; (try dsimp only at hSw); go_simp; try (with_reducible rfl))
                     try simp only [Act.put, List.setIfInBounds_toArray, List.set_cons_zero, List.set_cons_succ]
                     refine wpAnyH_callD (i := 19) rfl rfl (by kernel_rfl) (by rfl) 69 _ _ (HF.out _ H6.out) (by go_simp) ?_
                     rintro e wz ⟨rfl, rfl⟩
                     refine ⟨_, rfl, hHeld, ?_⟩
                     have hHeld := hHeld
                     try simp only [Act.put, List.setIfInBounds_toArray, List.set_cons_zero, List.set_cons_succ]
                     refine wpAnyH_takeD (i := 20) (v := ?ve4_20) rfl rfl (by kernel_rfl) (by kernel_rfl) (by kernel_rfl) (fun _ _ _ h => h) (by rfl) ?ye4_20 (by assumption) ?re4_20
                     case ye4_20 => (intro w hSw; (try dsimp only at hSw); go_simp; try (with_reducible rfl))
                     try simp only [Act.put, List.setIfInBounds_toArray, List.set_cons_zero, List.set_cons_succ]
                     refine wpAnyH_takeD (i := 21) (v := ?ve4_21) rfl rfl (by kernel_rfl) (by kernel_rfl) (by kernel_rfl) (fun _ _ _ h => h) (by rfl) ?ye4_21 (by assumption) ?re4_21
                     case ye4_21 => (intro w hSw; (try dsimp only at hSw); go_simp; try (with_reducible rfl))
                     try simp only [Act.put, List.setIfInBounds_toArray, List.set_cons_zero, List.set_cons_succ]
                     refine wpAnyH_takeD (i := 22) (v := ?ve4_22) rfl rfl (by kernel_rfl) (by kernel_rfl) (by kernel_rfl) (fun _ _ _ h => h) (by rfl) ?ye4_22 (by assumption) ?re4_22
                     case ye4_22 => (intro w hSw; (try dsimp only at hSw); go_simp; try (with_reducible rfl))
                     try simp only [Act.put, List.setIfInBounds_toArray, List.set_cons_zero, List.set_cons_succ]
                     refine wpAnyH_takeD (i := 23) (v := ?ve4_23) rfl rfl (by kernel_rfl) (by kernel_rfl) (by kernel_rfl) (fun _ _ _ h => h) (by rfl) ?ye4_23 (by assumption) ?re4_23
                     case ye4_23 => (intro w hSw; (try dsimp only at hSw); go_simp; try (with_reducible rfl))
                     try simp only [Act.put, List.setIfInBounds_toArray, List.set_cons_zero, List.set_cons_succ]
                     refine wpAnyH_takeD (i := 24) (v := ?ve4_24) rfl rfl (by kernel_rfl) (by kernel_rfl) (by kernel_rfl) (fun _ _ _ h => h) (by rfl) ?ye4_24 (by assumption) ?re4_24
                     case ye4_24 => (intro w hSw; (try dsimp only at hSw); go_simp; try (with_reducible rfl))
                     try simp only [Act.put, List.setIfInBounds_toArray, List.set_cons_zero, List.set_cons_succ]
                     refine wpAnyH_callD (i := 25) rfl rfl (by kernel_rfl) (by rfl) 70 _ _ (HP.out _ H6.out) (by go_simp) ?_
                     rintro e wz ⟨rfl, rfl⟩
                     refine ⟨_, rfl, hHeld, ?_⟩
                     have hHeld := hHeld
                     try simp only [Act.put, List.setIfInBounds_toArray, List.set_cons_zero, List.set_cons_succ]
                     refine wpAnyH_takeD (i := 26) (v := ?ve4_26) rfl rfl (by kernel_rfl) (by kernel_rfl) (by kernel_rfl) (fun _ _ _ h => h) (by rfl) ?ye4_26 (by assumption) ?re4_26
                     case ye4_26 => (intro w hSw; (try dsimp only at hSw); go_simp; try (with_reducible rfl))
                     try simp only [Act.put, List.setIfInBounds_toArray, List.set_cons_zero, List.set_cons_succ]
                     refine wpAnyH_takeD (i := 27) (v := ?ve4_27) rfl rfl (by kernel_rfl) (by kernel_rfl) (by kernel_rfl) (fun _ _ _ h => h) (by rfl) ?ye4_27 (by assumption) ?re4_27
                     case ye4_27 => (intro w hSw; (try dsimp only at hSw); go_simp; try (with_reducible rfl))
                     try simp only [Act.put, List.setIfInBounds_toArray, List.set_cons_zero, List.set_cons_succ]
                     refine wpAnyH_takeD (i := 28) (v := ?ve4_28) rfl rfl (by kernel_rfl) (by kernel_rfl) (by kernel_rfl) (fun _ _ _ h => h) (by rfl) ?ye4_28 (by assumption) ?re4_28
                     case ye4_28 => (intro w hSw; (try dsimp only at hSw); go_simp; try (with_reducible rfl))
                     try simp only [Act.put, List.setIfInBounds_toArray, List.set_cons_zero, List.set_cons_succ]
                     refine wpAnyH_offD (i := 29) rfl rfl (by kernel_rfl) (by kernel_rfl) (by kernel_rfl) (fun _ _ _ h => h) (by rfl) (by assumption) ?_
                     try simp only [Act.put, List.setIfInBounds_toArray, List.set_cons_zero, List.set_cons_succ]
                     refine wpAnyH_offD (i := 30) rfl rfl (by kernel_rfl) (by kernel_rfl) (by kernel_rfl) (fun _ _ _ h => h) (by rfl) (by assumption) ?_
                     try simp only [Act.put, List.setIfInBounds_toArray, List.set_cons_zero, List.set_cons_succ]
                     refine wpAnyH_offD (i := 31) rfl rfl (by kernel_rfl) (by kernel_rfl) (by kernel_rfl) (fun _ _ _ h => h) (by rfl) (by assumption) ?_
                     try simp only [Act.put, List.setIfInBounds_toArray, List.set_cons_zero, List.set_cons_succ]
                     refine wpAnyH_offD (i := 32) rfl rfl (by kernel_rfl) (by kernel_rfl) (by kernel_rfl) (fun _ _ _ h => h) (by rfl) (by assumption) ?_
                     try simp only [Act.put, List.setIfInBounds_toArray, List.set_cons_zero, List.set_cons_succ]
                     refine wpAnyH_offD (i := 33) rfl rfl (by kernel_rfl) (by kernel_rfl) (by kernel_rfl) (fun _ _ _ h => h) (by rfl) (by assumption) ?_
                     try simp only [Act.put, List.setIfInBounds_toArray, List.set_cons_zero, List.set_cons_succ]
                     refine wpAnyH_takeD (i := 34) (v := ?ve4_34) rfl rfl (by kernel_rfl) (by kernel_rfl) (by kernel_rfl) (fun _ _ _ h => h) (by rfl) ?ye4_34 (by assumption) ?re4_34
                     case ye4_34 => (intro w hSw; (try dsimp only at hSw); go_simp; try (with_reducible rfl))
                     try simp only [Act.put, List.setIfInBounds_toArray, List.set_cons_zero, List.set_cons_succ]
                     refine wpAnyH_done (by kernel_rfl) ?_ _
                     all_goals
                       go_wp2_with fail
                       go_ret
                       exact ⟨ret_int (by rw [Hv2.out, Hok.out]; simp), H6.out.bel⟩
                   | true =>
                     (go_region_held3 (fun w' => ∀ i, w'.cell? ⟨w.heap.size, i, none⟩ = (#[.int .u8 xk, .int .u8 xs, .string xt, .string xn, .string xv, .int .i64 xa, .int .i64 xb, .slice apo xo.length aco, .slice apc xc.length acc, .slice apr xr.length acr, .slice apf xf.length acf] : Array Value)[i]?) (first | exact hc3 | exact HC.out _ H6.out | exact HC.out _ H7.out | exact HC.out _ H8.out | go_keep) (first | (go_at_call 68; refine (HD.out _ H3.out.drew1).mono ?_; rintro e w6 ⟨rfl, hb⟩; have H6 := Lib.hid (H3.out.drew1.step hb); clear hb) | (go_at_call 69; refine (HF.out _ H6.out).mono ?_; rintro e wz ⟨rfl, rfl⟩) | (go_at_call 70; refine (HP.out _ H6.out).mono ?_; rintro e wz ⟨rfl, rfl⟩) | (go_at_call 71; refine (HOf.out _ H6.out).mono ?_; rintro e w7 ⟨a', rfl, hk, hb⟩; have H7 := Lib.hid (H6.out.step hb); have HSm2 := Lib.hid (HSm.out a' w7 H7.out hk.any); clear hb hk) | (go_at_call 22; refine HSm2.out.mono ?_; rintro e w8 ⟨rfl, hb⟩; have H8 := Lib.hid (H7.out.step hb); clear hb)))
                     clear hc3
                     cases sv with
                     | true =>
                       go_wp2_with fail
                       go_ret
                       exact ⟨ret_int (by rw [Hv2.out, Hok.out]; rfl), H8.out.bel⟩
                     | false =>
                       go_wp2_with fail
                       go_ret
                       exact ⟨ret_int (by rw [Hv2.out, Hok.out]; rfl), H8.out.bel⟩

end Go.Proofs.YthhebfknikfleaaGreat
