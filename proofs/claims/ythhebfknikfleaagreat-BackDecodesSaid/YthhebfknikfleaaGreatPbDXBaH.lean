/-
  Messages of servers (layer 7): which may be: the document's.
-/
import Derived.Test.YthhebfknikfleaaGreatPbDP10
namespace Go.Proofs.YthhebfknikfleaaGreat
open Go.RowKit
set_option linter.unusedVariables false
set_option linter.unusedSimpArgs false

set_option maxRecDepth 100000 in
theorem rkind_any (k : Int) (w : World) : Calls Tryz.prog 64 #[.int .u8 k] w fun e w' => e = .returned (.bool (servK k)) ∧ w = w' := by
  have Hk : Hid (servK k = decide (k ∈ [82, 83, 75, 90, 49, 50, 51, 110, 115, 73, 67, 68, 84, 116, 69, 78])) := Lib.hid rfl
  generalize servK k = kv at *
  go_enter Tryz.func64, Tryz.ntmps64
  go_wp2
  all_goals
    go_ret
    refine ⟨ret_bool ?_, rfl⟩
    rw [Hk.out]
    simp_all

theorem rin_any (n lo hi : Int) (w : World) : Calls Tryz.prog 66 #[.int .i64 n, .int .i64 lo, .int .i64 hi] w fun e w' => e = .returned (.bool (inR n lo hi)) ∧ w = w' := by
  have Ho := Lib.hid (inR_ge n lo hi)
  generalize inR n lo hi = r at *
  by_cases h1 : lo ≤ n
  · rw [decide_eq_true h1] at Ho
    go_enter Tryz.func66, Tryz.ntmps66
    go_wp2
    all_goals
      go_ret
      exact ⟨ret_bool (by rw [Ho.out]; simp_all), by first | rfl | trivial⟩
  · rw [decide_eq_false h1] at Ho
    go_enter Tryz.func66, Tryz.ntmps66
    go_wp2
    all_goals
      go_ret
      exact ⟨ret_bool (by rw [Ho.out]; simp_all), by first | rfl | trivial⟩

set_option maxRecDepth 100000 in
set_option maxHeartbeats 4000000 in
theorem rfields_any (S : Nat → Prop) (p : Option Addr) (n c : Nat) (l : List FdV) (w : World) (h : SliceS 2 FdS S w [.slice p n c] l) :
    Calls Tryz.prog 69 #[.slice p n c] w fun e w' => e = .returned (.bool (fieldsB l)) ∧ w = w' := by
  obtain ⟨rfl, hlc, hcm⟩ := h.len
  unfold maxLen at hcm
  have H := Lib.hid h
  have Hv : Hid (fieldsB l = (decide ((l.length : Int) ≤ 65535) && !l.any (fun c => !fieldB c))) := Lib.hid (by unfold fieldsB; congr 1; simp only [decide_eq_decide]; omega)
  generalize fieldsB l = bv at *
  clear h
  by_cases hlen : (l.length : Int) ≤ 65535
  · rw [decide_eq_true hlen, Bool.true_and] at Hv
    go_enter Tryz.func69, Tryz.ntmps69
    go_wp2_with fail
    go_loopw [3] (fun i wr => ∃ k : Nat, k ≤ l.length ∧ i = .int .i64 k ∧ (∀ j (hj : j < l.length), j < k → (!fieldB l[j]) = false) ∧ wr = w) (fun i _ => l.length - (intOf i).toNat)
    case atStart => exact ⟨0, Nat.zero_le _, rfl, (fun j _ h => by omega), rfl⟩
    case round =>
      obtain ⟨k, hk, rfl, hall, rfl⟩ := hrel
      have Hall := Lib.hid hall
      clear hall
      by_cases hltk : k < l.length
      · obtain ⟨b, o, rfl, hS, hbl, c0, c1, hq, hq0, hq1⟩ := fd_at H.out hltk
        have Hbad := Lib.hid (any_at (P := fun c => !fieldB c) hltk)
        have Hgood := Lib.hid (fun h : (!fieldB l[k]) = false => (fun j (hj : j < l.length) (hjk : j < k + 1) => by
          by_cases e : j = k
          · subst e; exact h
          · exact Hall.out j hj (by omega) : ∀ j (hj : j < l.length), j < k + 1 → (!fieldB l[j]) = false))
        have Hx : Hid (fieldB l[k] = ((!(l[k].code == 0)) && cleanB l[k].text)) := Lib.hid rfl
        have HC := Lib.hid (cleanR_any l[k].text wr hq)
        clear hS hq hq0 hq1
        generalize fieldB l[k] = uf at *
        generalize cleanB l[k].text = cv at *
        generalize l[k] = x at *
        obtain ⟨xc, xt⟩ := x
        dsimp only at *
        have hlti : (k : Int) < (l.length : Int) := by omega
        by_cases h0 : xc = 0
        · subst h0
          have Hf := Lib.hid (Hbad.out (by rw [Hx.out]; rfl))
          go_wp2_with fail
          go_ret
          exact ⟨ret_bool (by rw [Hv.out, Hf.out]; rfl), rfl⟩
        · have h0b : (xc == 0) = false := by simpa using h0
          rw [h0b] at Hx
          clear h0
          go_wp2_with fail
          refine HC.out.mono ?_
          rintro e w2 ⟨rfl, rfl⟩
          cases cv with
          | false =>
            have Hf := Lib.hid (Hbad.out (by rw [Hx.out]; rfl))
            go_wp2_with fail
            go_ret
            exact ⟨ret_bool (by rw [Hv.out, Hf.out]; rfl), rfl⟩
          | true =>
            have Hf := Lib.hid (Hgood.out (by rw [Hx.out]; rfl))
            go_wp2_with fail
            go_roundw
            case rel => exact ⟨k + 1, by omega, by go_num, Hf.out, by first | rfl | trivial⟩
            case measure => simp [intOf]; omega
      · obtain rfl : k = l.length := by omega
        have Hf := Lib.hid (notAny_all (P := fun c => !fieldB c) (fun j hj => Hall.out j hj hj))
        clear Hall
        go_wp2_with fail
        go_ret
        exact ⟨ret_bool (by rw [Hv.out, Hf.out]; rfl), rfl⟩
  · rw [decide_eq_false hlen] at Hv
    go_enter Tryz.func69, Tryz.ntmps69
    go_wp2_with fail
    go_ret
    exact ⟨ret_bool (by rw [Hv.out]; rfl), rfl⟩

set_option maxRecDepth 100000 in
set_option maxHeartbeats 4000000 in
theorem rcols_any (S : Nat → Prop) (p : Option Addr) (n c : Nat) (l : List CoV) (w : World) (h : SliceS 7 CoS S w [.slice p n c] l) :
    Calls Tryz.prog 68 #[.slice p n c] w fun e w' => e = .returned (.bool (colsB l)) ∧ Below w.heap.size w w' := by
  obtain ⟨rfl, hlc, hcm⟩ := h.len
  unfold maxLen at hcm
  have H := Lib.hid h
  have Hv : Hid (colsB l = (decide ((l.length : Int) ≤ 65535) && !l.any (fun c => !colB c))) := Lib.hid (by unfold colsB; congr 1; simp only [decide_eq_decide]; omega)
  generalize colsB l = bv at *
  clear h
  by_cases hlen : (l.length : Int) ≤ 65535
  · rw [decide_eq_true hlen, Bool.true_and] at Hv
    go_enter Tryz.func68, Tryz.ntmps68
    go_wp2_with fail
    go_loopw [3] (fun i wr => ∃ k : Nat, k ≤ l.length ∧ i = .int .i64 k ∧ (∀ j (hj : j < l.length), j < k → (!colB l[j]) = false) ∧ Below w.heap.size w wr) (fun i _ => l.length - (intOf i).toNat)
    case atStart => exact ⟨0, Nat.zero_le _, rfl, (fun j _ h => by omega), Below.refl _ _⟩
    case round =>
      obtain ⟨k, hk, rfl, hall, hbw⟩ := hrel
      have Hall := Lib.hid hall
      have HBW := Lib.hid hbw
      clear hall
      by_cases hltk : k < l.length
      · obtain ⟨b, o, rfl, hS, hbl, c0, c1, c2, c3, c4, c5, c6, hq⟩ := co_at (H.out.below CoS.still hbw) hltk
        clear hbw
        have Hbad := Lib.hid (any_at (P := fun c => !colB c) hltk)
        have Hgood := Lib.hid (fun h : (!colB l[k]) = false => (fun j (hj : j < l.length) (hjk : j < k + 1) => by
          by_cases e : j = k
          · subst e; exact h
          · exact Hall.out j hj (by omega) : ∀ j (hj : j < l.length), j < k + 1 → (!colB l[j]) = false))
        have Hx : Hid (colB l[k] = (cleanB l[k].name && (inR l[k].table 0 4294967295 && (inR l[k].attr 0 65535 && (inR l[k].oid 0 4294967295 && (inR l[k].size (-32768) 32767 && (inR l[k].mod (-2147483648) 2147483647 && inR l[k].format 0 65535))))))) := Lib.hid rfl
        have HC := Lib.hid (fun w0 : World => cleanR_any l[k].name w0 hq)
        have HN := Lib.hid (fun (n lo hi : Int) (w0 : World) => rin_any n lo hi w0)
        clear hS hq
        generalize colB l[k] = uf at *
        generalize cleanB l[k].name = cv at *
        generalize l[k] = x at *
        obtain ⟨xn, xt, xa, xo, xs, xm, xf⟩ := x
        dsimp only at *
        have HBA := Lib.hid (HBW.out.alloc HBW.out.size (.cells #[.string xn, .int .i64 xt, .int .i64 xa, .int .i64 xo, .int .i64 xs, .int .i64 xm, .int .i64 xf] 79))
        have Hk := Lib.hid (Blk.new wr 79 #[.string xn, .int .i64 xt, .int .i64 xa, .int .i64 xo, .int .i64 xs, .int .i64 xm, .int .i64 xf])
        have hlti : (k : Int) < (l.length : Int) := by omega
        go_upto_region 7 with fail
        clear c0 c1 c2 c3 c4 c5 c6
        have hcx := Hk.out.cell
        generalize wr.alloc (.cells #[.string xn, .int .i64 xt, .int .i64 xa, .int .i64 xo, .int .i64 xs, .int .i64 xm, .int .i64 xf] 79) = wa at *
        generalize wr.heap.size = gx at *
        have HBad := Lib.hid (fun h : uf = false => Hbad.out (by rw [h]; rfl))
        have HGood := Lib.hid (fun h : uf = true => Hgood.out (by rw [h]; rfl))
        clear Hbad Hgood
        go_wp2_with fail
        refine (HC.out _).mono ?_
        rintro e w2 ⟨rfl, rfl⟩
        cases cv with
        | false =>
          have Hf := Lib.hid (HBad.out (by rw [Hx.out]; try simp))
          go_wp2_with fail
          go_ret
          exact ⟨ret_bool (by rw [Hv.out, Hf.out]; rfl), HBA.out⟩
        | true =>
          obtain ⟨i0, hi0⟩ : ∃ b, inR xt 0 4294967295 = b := ⟨_, rfl⟩
          have Hn0 := Lib.hid (HN.out xt 0 4294967295)
          rw [hi0] at Hn0 Hx
          clear hi0
          go_wp2_with fail
          refine (Hn0.out _).mono ?_
          rintro e w2 ⟨rfl, rfl⟩
          cases i0 with
          | false =>
            have Hf := Lib.hid (HBad.out (by rw [Hx.out]; try simp))
            go_wp2_with fail
            go_ret
            exact ⟨ret_bool (by rw [Hv.out, Hf.out]; rfl), HBA.out⟩
          | true =>
            obtain ⟨i1, hi1⟩ : ∃ b, inR xa 0 65535 = b := ⟨_, rfl⟩
            have Hn1 := Lib.hid (HN.out xa 0 65535)
            rw [hi1] at Hn1 Hx
            clear hi1
            go_wp2_with fail
            refine (Hn1.out _).mono ?_
            rintro e w2 ⟨rfl, rfl⟩
            cases i1 with
            | false =>
              have Hf := Lib.hid (HBad.out (by rw [Hx.out]; try simp))
              go_wp2_with fail
              go_ret
              exact ⟨ret_bool (by rw [Hv.out, Hf.out]; rfl), HBA.out⟩
            | true =>
              obtain ⟨i2, hi2⟩ : ∃ b, inR xo 0 4294967295 = b := ⟨_, rfl⟩
              have Hn2 := Lib.hid (HN.out xo 0 4294967295)
              rw [hi2] at Hn2 Hx
              clear hi2
              go_wp2_with fail
              refine (Hn2.out _).mono ?_
              rintro e w2 ⟨rfl, rfl⟩
              cases i2 with
              | false =>
                have Hf := Lib.hid (HBad.out (by rw [Hx.out]; try simp))
                go_wp2_with fail
                go_ret
                exact ⟨ret_bool (by rw [Hv.out, Hf.out]; rfl), HBA.out⟩
              | true =>
                obtain ⟨i3, hi3⟩ : ∃ b, inR xs (-32768) 32767 = b := ⟨_, rfl⟩
                have Hn3 := Lib.hid (HN.out xs (-32768) 32767)
                rw [hi3] at Hn3 Hx
                clear hi3
                go_wp2_with fail
                refine (Hn3.out _).mono ?_
                rintro e w2 ⟨rfl, rfl⟩
                cases i3 with
                | false =>
                  have Hf := Lib.hid (HBad.out (by rw [Hx.out]; try simp))
                  go_wp2_with fail
                  go_ret
                  exact ⟨ret_bool (by rw [Hv.out, Hf.out]; rfl), HBA.out⟩
                | true =>
                  obtain ⟨i4, hi4⟩ : ∃ b, inR xm (-2147483648) 2147483647 = b := ⟨_, rfl⟩
                  have Hn4 := Lib.hid (HN.out xm (-2147483648) 2147483647)
                  rw [hi4] at Hn4 Hx
                  clear hi4
                  go_wp2_with fail
                  refine (Hn4.out _).mono ?_
                  rintro e w2 ⟨rfl, rfl⟩
                  cases i4 with
                  | false =>
                    have Hf := Lib.hid (HBad.out (by rw [Hx.out]; try simp))
                    go_wp2_with fail
                    go_ret
                    exact ⟨ret_bool (by rw [Hv.out, Hf.out]; rfl), HBA.out⟩
                  | true =>
                    obtain ⟨i5, hi5⟩ : ∃ b, inR xf 0 65535 = b := ⟨_, rfl⟩
                    have Hn5 := Lib.hid (HN.out xf 0 65535)
                    rw [hi5] at Hn5 Hx
                    clear hi5
                    go_wp2_with fail
                    refine (Hn5.out _).mono ?_
                    rintro e w2 ⟨rfl, rfl⟩
                    cases i5 with
                    | false =>
                      have Hf := Lib.hid (HBad.out (by rw [Hx.out]; try simp))
                      go_wp2_with fail
                      go_ret
                      exact ⟨ret_bool (by rw [Hv.out, Hf.out]; rfl), HBA.out⟩
                    | true =>
                      have Hf := Lib.hid (HGood.out (by rw [Hx.out]; rfl))
                      go_wp2_with fail
                      go_roundw
                      case rel => exact ⟨k + 1, by omega, by go_num, Hf.out, HBA.out⟩
                      case measure => simp [intOf]; omega
      · obtain rfl : k = l.length := by omega
        have Hf := Lib.hid (notAny_all (P := fun c => !colB c) (fun j hj => Hall.out j hj hj))
        clear Hall hbw
        go_wp2_with fail
        go_ret
        exact ⟨ret_bool (by rw [Hv.out, Hf.out]; rfl), HBW.out⟩
  · rw [decide_eq_false hlen] at Hv
    go_enter Tryz.func68, Tryz.ntmps68
    go_wp2_with fail
    go_ret
    exact ⟨ret_bool (by rw [Hv.out]; rfl), Below.refl _ _⟩

end Go.Proofs.YthhebfknikfleaaGreat
