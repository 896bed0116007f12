/-
  Messages of clients (layer 6): short ones (remudaplain.Front); awake.
-/
import Derived.Test.YtldjfmddjbdciaaFpC
import Derived.Test.YtldjfmddjbdciaaFpD
namespace Go.Proofs.Ytldjfmddjbdciaa
open Go.RowKit
set_option linter.unusedVariables false
set_option linter.unusedSimpArgs false

def longC (c : CeV) : Bool := decide (300 < c.bytes.length)
theorem longC_any (x : CeV) (q : Option Addr) (d : Nat) (w : World) : Calls Try.prog 49 #[.agg #[.bool x.null, .slice q x.bytes.length d]] w fun e w' => e = .returned (.bool (longC x)) ∧ Below w.heap.size w w' := by
  have Hb := Lib.hid ((Below.refl w.heap.size w).alloc (Nat.le_refl _) (.cells #[.bool x.null, .slice q x.bytes.length d] 71))
  have Hv : Hid (longC x = decide ((300 : Int) < (x.bytes.length : Int))) := Lib.hid (by unfold longC; exact decide_eq_decide.2 (by omega))
  generalize longC x = v at *
  obtain ⟨xn, xb⟩ := x
  dsimp only at *
  generalize xb.length = m at *
  go_enter Try.func49, Try.ntmps49
  go_wp2
  go_ret
  exact ⟨ret_bool (by rw [Hv.out]), Hb.out⟩

/-- What it answers of a message. -/
def FewFR (x : FoV) (w : World) (e : Ending) (w' : World) : Prop := ∃ b, e = .returned (.bool b) ∧ (b = true → FewF x) ∧ Below w.heap.size w w'

set_option maxRecDepth 100000 in
set_option maxHeartbeats 4000000 in
theorem fewF_any (S : Nat → Prop) (x : FoV) (a : FoP) (w : World) (h : FoL S w x a) : Calls Try.prog 24 #[foArg x a] w (FewFR x w) := by
  have H0 := Lib.hid (Fo1.start h)
  have HC : Hid (∀ w1 : World, Fo1 w w1 w.heap.size x a → ∀ i, w1.cell? ⟨w.heap.size, i, none⟩ = (foCells x a)[i]?) := Lib.hid (fun w1 H => H.b.cell)
  have HP := Lib.hid (fun (w0 : World) (H : Fo1 w w0 w.heap.size x a) => containsCe 49 longC (fun _ => True) a.pp x.params.length a.cp x.params w0 H.l.lp (enter_of Try.func49 (by kernel_rfl) rfl) (fun x q d w0 _ => longC_any x q d w0))
  have HN : Hid (∀ w' : World, Below w.heap.size w w' → FewFR x w (.returned (.bool false)) w') := Lib.hid (fun w' h => ⟨false, rfl, (fun e => by cases e), h⟩)
  have HY : Hid (∀ w' : World, Below w.heap.size w w' → x.name.size ≤ 300 → x.portal.size ≤ 300 → x.text.size ≤ 1000 → x.oids.length ≤ 50 → x.formats.length ≤ 50 → x.results.length ≤ 50 → x.params.length ≤ 50 → x.params.any longC = false → FewFR x w (.returned (.bool true)) w') := Lib.hid (fun w' h h1 h2 h3 h4 h5 h6 h7 h8 => ⟨true, rfl, fun _ => ⟨h1, h2, h3, h4, h5, h6, h7, fun c hc => by
    have := List.any_eq_false.1 h8 c hc
    unfold longC at this
    simp at this
    exact this⟩, h⟩)
  generalize x.params.any longC = lv at *
  obtain ⟨xk, xw, xn, xp, xt, xo, xf, xr, xc, xm⟩ := x
  obtain ⟨apo, aco, apf, acf, apr, acr, app, acp⟩ := a
  clear h
  unfold foArg at *
  unfold foCells at HC H0 ⊢
  dsimp only at *
  go_enter Try.func24, Try.ntmps24
  go_upto_region 1 with (fail)
  generalize w.alloc (.cells #[.int .u8 xk, .int .u8 xw, .string xn, .string xp, .string xt, .slice apo xo.length aco, .slice apf xf.length acf, .slice apr xr.length acr, .slice app xc.length acp, .int .i64 xm] 44) = w1 at *
  have hc1 := HC.out w1 H0.out
  by_cases ho : (50 : Int) < (xo.length : Int)
  · go_wp2_with fail
    go_ret
    exact HN.out _ H0.out.bel
  by_cases hf : (50 : Int) < (xf.length : Int)
  · go_wp2_with fail
    go_ret
    exact HN.out _ H0.out.bel
  by_cases hr : (50 : Int) < (xr.length : Int)
  · go_wp2_with fail
    go_ret
    exact HN.out _ H0.out.bel
  by_cases hc : (50 : Int) < (xc.length : Int)
  · go_wp2_with fail
    go_ret
    exact HN.out _ H0.out.bel
  have HP1 := Lib.hid (HP.out w1 H0.out)
  go_wp2_with fail
  refine HP1.out.mono ?_
  rintro e w2 ⟨rfl, hb⟩
  have H2 := Lib.hid (H0.out.step hb)
  have hc2 := HC.out w2 H2.out
  clear hb hc1 HP1 HP
  cases lv with
  | true =>
    go_wp2_with fail
    go_ret
    exact HN.out _ H2.out.bel
  | false =>
    by_cases hn : (xn.size : Int) ≤ 300
    · by_cases hp : (xp.size : Int) ≤ 300
      · by_cases ht : (xt.size : Int) ≤ 1000
        · have Hx := Lib.hid (HY.out _ H2.out.bel (by omega) (by omega) (by omega) (by omega) (by omega) (by omega) (by omega) rfl)
          go_wp2_with fail
          go_ret
          exact Hx.out
        · go_wp2_with fail
          go_ret
          have e : decide ((xt.size : Int) ≤ 1000) = false := decide_eq_false (by omega)
          rw [e]
          exact HN.out _ H2.out.bel
      · go_wp2_with fail
        go_ret
        exact HN.out _ H2.out.bel
    · go_wp2_with fail
      go_ret
      exact HN.out _ H2.out.bel

def foA : FoV := ⟨80, 0, ⟨#[97]⟩, ⟨#[]⟩, ⟨#[98, 101, 103, 105, 110]⟩, [23], [], [], [], 0⟩
theorem foA_ok : checkF foA = 0 := by decide +kernel
theorem foA_len : (bodyF foA).length = 14 := by decide +kernel
theorem foA_fo : FoB foA := ⟨by decide, by decide, by decide, by decide⟩
theorem foA_small : SmallF foA := ⟨by decide +kernel, by decide +kernel, by decide +kernel, by decide +kernel, by decide +kernel, by decide +kernel, by decide +kernel, fun c hc => by cases hc⟩

set_option maxRecDepth 100000 in
set_option maxHeartbeats 4000000 in
theorem foAwake (w : World) : Calls Try.prog 25 #[] w fun e w' => e = .returned (.bool true) ∧ Below w.heap.size w w' := by
  have Hev : Hid (encF foA = (80, bodyF foA, 0)) := Lib.hid (by unfold encF; rw [if_pos foA_ok]; rfl)
  have Hdv : Hid (decF 80 (bodyF foA) = (foA, 0)) := Lib.hid (dec_enc foA_fo foA_ok)
  have Hlen := Lib.hid foA_len
  have hal : Below w.heap.size w (w.alloc (.cells #[.int .i64 23] 3)) := (Below.refl _ _).alloc (Nat.le_refl _) _
  have hs : FoL (fun _ => True) (w.alloc (.cells #[.int .i64 23] 3)) foA ⟨some ⟨w.heap.size, 0, none⟩, 1, none, 0, none, 0, none, 0⟩ := ⟨SliceS.new1 (S := fun _ => True) IntU.still w 3 _ 23 rfl rfl (fun _ _ h => h) trivial, SliceS.empty none 0 (by simp [maxLen]), SliceS.empty none 0 (by simp [maxLen]), SliceS.empty none 0 (by simp [maxLen])⟩
  have Hbd := Lib.hid (enc_any _ foA _ _ hs foA_fo foA_small)
  have Hal := Lib.hid hal
  have hz : w.heap.size ≤ (w.alloc (.cells #[.int .i64 23] 3)).heap.size := by simp
  have Hdc := Lib.hid (fun (p : Option Addr) (c : Nat) (w : World) hb => dec_any 80 (by decide) (by decide) p (bodyF foA) c w (by rw [foA_len]; omega) hb)
  have HK := Lib.hid (fun w0 : World => known_any 83 (by decide) (by decide) w0)
  have HL := Lib.hid (fun w0 : World => known_any 112 (by decide) (by decide) w0)
  rw [show knownV 83 = 1 from rfl] at HK
  rw [show knownV 112 = 2 from rfl] at HL
  unfold EncR at Hbd
  unfold DecR at Hdc
  rw [Hev.out] at Hbd
  rw [Hdv.out, Hlen.out] at Hdc
  dsimp only at Hbd Hdc
  have hH : ∀ a, foArg foA a = .agg #[.int .u8 80, .int .u8 0, .string ⟨#[97]⟩, .string ⟨#[]⟩, .string ⟨#[98, 101, 103, 105, 110]⟩, .slice a.po 1 a.co, .slice a.pf 0 a.cf, .slice a.pr 0 a.cr, .slice a.pp 0 a.cp, .int .i64 0] := fun _ => rfl
  simp only [hH] at Hbd Hdc
  generalize bodyF foA = B at *
  clear hal hs hH
  go_enter Try.func25, Try.ntmps25
  go_wp2_with fail
  generalize w.alloc (.cells #[.int .i64 23] 3) = w1 at *
  refine Hbd.out.mono ?_
  rintro e w2 ⟨v2, rfl, ho2, hb2⟩
  obtain ⟨p2, c2, hv2, -, -, q2, -⟩ := OwnBR.slice ho2
  subst hv2
  rw [Hlen.out]
  have Hp := Lib.hid (Hdc.out p2 c2 _ (q2.below ((Below.refl _ _).alloc (Nat.le_refl _) (.cells #[.int .u8 80, .slice p2 14 c2] 47))))
  have HW2 := Lib.hid ((Hal.out.trans (hb2.mono hz)).alloc (by have := hb2.size; omega) (.cells #[.int .u8 80, .slice p2 14 c2] 47))
  clear ho2 hb2 q2
  go_wp2_with fail
  refine Hp.out.mono ?_
  rintro e w3 ⟨a, rfl, hs3, hb3⟩
  obtain ⟨apo, aco, apf, acf, apr, acr, app, acp⟩ := a
  dsimp only
  have HW3 := Lib.hid ((HW2.out.trans (hb3.mono HW2.out.size)).alloc (by have := HW2.out.size; have := hb3.size; omega) (.cells #[.int .u8 80, .int .u8 0, .string ⟨#[97]⟩, .string ⟨#[]⟩, .string ⟨#[98, 101, 103, 105, 110]⟩, .slice apo 1 aco, .slice apf 0 acf, .slice apr 0 acr, .slice app 0 acp, .int .i64 0] 44))
  clear hs3 hb3
  go_wp2_with (first
    | (go_at_call 32; refine (HK.out _).mono ?_; rintro e w4 ⟨rfl, hb⟩; have HW4 := Lib.hid (HW3.out.trans (hb.mono HW3.out.size)); clear hb HK)
    | (go_at_call 32; refine (HL.out _).mono ?_; rintro e w5 ⟨rfl, hb⟩; have HW5 := Lib.hid (HW4.out.trans (hb.mono HW4.out.size)); clear hb))
  go_ret
  exact ⟨rfl, HW5.out⟩

end Go.Proofs.Ytldjfmddjbdciaa
