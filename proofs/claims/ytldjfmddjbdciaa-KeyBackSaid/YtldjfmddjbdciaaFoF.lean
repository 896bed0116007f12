/-
  Messages of clients (layer 6): texts and values that may be; both.
-/
import Derived.Test.YtldjfmddjbdciaaFoE
namespace Go.Proofs.Ytldjfmddjbdciaa
open Go.RowKit
set_option linter.unusedVariables false
set_option linter.unusedSimpArgs false

def dirty (s : ByteArray) : Bool := !cleanB s
theorem dirty_any (s : ByteArray) (w : World) : Calls Try.prog 86 #[.string s] w fun e w' => e = .returned (.bool (dirty s)) ∧ Below w.heap.size w w' := by
  have Hd : Hid (dirty s = !cleanB s) := Lib.hid rfl
  have Hc := Lib.hid (clean_any s w)
  generalize dirty s = d at *
  generalize cleanB s = c at *
  go_enter Try.func86, Try.ntmps86
  go_wp2_with fail
  refine Hc.out.mono ?_
  rintro e w1 ⟨rfl, rfl⟩
  go_wp2
  go_ret
  exact ⟨ret_bool Hd.out.symm, Below.refl _ _⟩

theorem cleanAll_any (S : Nat → Prop) (p : Option Addr) (n c : Nat) (L : List ByteArray) (w : World) (h : SliceS 1 StrU S w [.slice p n c] L) :
    Calls Try.prog 59 #[.slice p n c] w fun e w' => e = .returned (.bool (!L.any dirty)) ∧ Below w.heap.size w w' := by
  have Hc := Lib.hid (containsStr 86 dirty S p n c L w h (enter_of Try.func86 (by kernel_rfl) rfl) (fun x w0 _ => dirty_any x w0))
  generalize L.any dirty = d at *
  clear h
  go_enter Try.func59, Try.ntmps59
  go_wp2_with fail
  refine Hc.out.mono ?_
  rintro e w1 ⟨rfl, hb⟩
  have Hb := Lib.hid hb
  clear hb
  go_wp2
  go_ret
  exact ⟨rfl, Hb.out⟩

theorem wrongC_any (x : CeV) (q : Option Addr) (d : Nat) (w : World) : Calls Try.prog 84 #[.agg #[.bool x.null, .slice q x.bytes.length d]] w fun e w' => e = .returned (.bool (wrongC x)) ∧ Below w.heap.size w w' := by
  have Hb := Lib.hid ((Below.refl w.heap.size w).alloc (Nat.le_refl _) (.cells #[.bool x.null, .slice q x.bytes.length d] 71))
  have Hv : Hid (wrongC x = ((x.null && decide ((0 : Int) < (x.bytes.length : Int))) || decide ((1048576 : Int) < (x.bytes.length : Int)))) := Lib.hid (by
    unfold wrongC
    have h1 : decide (0 < x.bytes.length) = decide ((0 : Int) < (x.bytes.length : Int)) := decide_eq_decide.2 (by omega)
    have h2 : decide (1048576 < x.bytes.length) = decide ((1048576 : Int) < (x.bytes.length : Int)) := decide_eq_decide.2 (by omega)
    rw [h1, h2])
  generalize wrongC x = v at *
  obtain ⟨xn, xb⟩ := x
  dsimp only at *
  generalize xb.length = m at *
  cases xn with
  | false =>
    go_enter Try.func84, Try.ntmps84
    go_wp2
    go_ret
    exact ⟨ret_bool (by rw [Hv.out]; simp), Hb.out⟩
  | true =>
    cases m with
    | zero =>
      go_enter Try.func84, Try.ntmps84
      go_wp2
      go_ret
      exact ⟨ret_bool (by rw [Hv.out]; simp), Hb.out⟩
    | succ m =>
      have h0 : (0 : Int) < ((m + 1 : Nat) : Int) := by omega
      rw [decide_eq_true h0] at Hv
      obtain ⟨k, hk⟩ : ∃ k : Int, ((m + 1 : Nat) : Int) = k := ⟨_, rfl⟩
      rw [hk] at h0
      have Hk := Lib.hid hk
      go_enter Try.func84, Try.ntmps84
      clear hk
      go_wp2
      all_goals
        go_ret
        exact ⟨ret_bool (by rw [Hv.out]; simp), Hb.out⟩

theorem cells_any (S : Nat → Prop) (p : Option Addr) (n c : Nat) (l : List CeV) (w : World) (h : SliceS 2 CeS S w [.slice p n c] l) :
    Calls Try.prog 57 #[.slice p n c] w fun e w' => e = .returned (.bool (valuesV l)) ∧ Below w.heap.size w w' := by
  obtain ⟨rfl, hlc, hcm⟩ := h.len
  unfold maxLen at hcm
  have Hc := Lib.hid (containsCe 84 wrongC S p _ c l w h (enter_of Try.func84 (by kernel_rfl) rfl) (fun x q d w0 _ => wrongC_any x q d w0))
  have Hv : Hid (valuesV l = (decide ((l.length : Int) ≤ 65535) && !l.any wrongC)) := Lib.hid (by unfold valuesV; congr 1; simp only [decide_eq_decide]; omega)
  generalize valuesV l = v at *
  generalize l.any wrongC = d at *
  clear h
  by_cases hlen : (l.length : Int) ≤ 65535
  · rw [decide_eq_true hlen] at Hv
    go_enter Try.func57, Try.ntmps57
    go_wp2_with fail
    refine Hc.out.mono ?_
    rintro e w1 ⟨rfl, hb⟩
    have Hb := Lib.hid hb
    clear hb
    go_wp2
    go_ret
    exact ⟨ret_bool (by rw [Hv.out]; rfl), Hb.out⟩
  · rw [decide_eq_false hlen] at Hv
    go_enter Try.func57, Try.ntmps57
    go_wp2
    go_ret
    exact ⟨ret_bool (by rw [Hv.out]; rfl), Below.refl _ _⟩

set_option maxRecDepth 100000 in
set_option maxHeartbeats 4000000 in
theorem rvalues_any (S : Nat → Prop) (p : Option Addr) (n c : Nat) (l : List CeV) (w : World) (h : SliceS 2 CeS S w [.slice p n c] l) :
    Calls Try.prog 62 #[.slice p n c] w fun e w' => e = .returned (.bool (valuesV l)) ∧ w = w' := by
  obtain ⟨rfl, hlc, hcm⟩ := h.len
  unfold maxLen at hcm
  have H := Lib.hid h
  have Hv : Hid (valuesV l = (decide ((l.length : Int) ≤ 65535) && !l.any wrongC)) := Lib.hid (by unfold valuesV; congr 1; simp only [decide_eq_decide]; omega)
  generalize valuesV l = v at *
  clear h
  by_cases hlen : (l.length : Int) ≤ 65535
  · rw [decide_eq_true hlen, Bool.true_and] at Hv
    go_enter Try.func62, Try.ntmps62
    go_wp2_with fail
    go_loopw [3] (fun i wr => ∃ k : Nat, k ≤ l.length ∧ i = .int .i64 k ∧ (∀ j (hj : j < l.length), j < k → wrongC l[j] = false) ∧ wr = w) (fun i _ => l.length - (intOf i).toNat)
    case atStart => exact ⟨0, Nat.zero_le _, rfl, (fun j _ h => by omega), rfl⟩
    case round =>
      obtain ⟨k, hk, rfl, hall, rfl⟩ := hrel
      have Hall := Lib.hid hall
      clear hall
      by_cases hltk : k < l.length
      · obtain ⟨b, o, q, d, rfl, hS, hbl, c0, c1, hq⟩ := ce_at H.out hltk
        have Hbad := Lib.hid (any_at (P := wrongC) hltk)
        have Hgood := Lib.hid (fun h : wrongC l[k] = false => (fun j (hj : j < l.length) (hjk : j < k + 1) => by
          by_cases e : j = k
          · subst e; exact h
          · exact Hall.out j hj (by omega) : ∀ j (hj : j < l.length), j < k + 1 → wrongC l[j] = false))
        have Hx : Hid (wrongC l[k] = ((l[k].null && decide ((0 : Int) < (l[k].bytes.length : Int))) || decide ((1048576 : Int) < (l[k].bytes.length : Int)))) := Lib.hid (by
          unfold wrongC
          have h1 : decide (0 < l[k].bytes.length) = decide ((0 : Int) < (l[k].bytes.length : Int)) := decide_eq_decide.2 (by omega)
          have h2 : decide (1048576 < l[k].bytes.length) = decide ((1048576 : Int) < (l[k].bytes.length : Int)) := decide_eq_decide.2 (by omega)
          rw [h1, h2])
        clear hS hq
        generalize wrongC l[k] = uf at *
        generalize l[k] = x at *
        obtain ⟨xn, xb⟩ := x
        dsimp only at *
        generalize xb.length = m at *
        have hlti : (k : Int) < (l.length : Int) := by omega
        cases huf : uf with
        | true =>
          have Hf := Lib.hid (Hbad.out huf)
          have Huf := Lib.hid huf
          have hx := Hx.out
          rw [huf] at hx
          clear huf
          cases xn with
          | false =>
            have h1 : (1048576 : Int) < (m : Int) := by simpa using hx.symm
            clear hx
            go_wp2_with fail
            go_ret
            exact ⟨ret_bool (by rw [Hv.out, Hf.out]; rfl), rfl⟩
          | true =>
            clear hx
            cases m with
            | zero =>
              exfalso
              have := Hx.out
              rw [show uf = true from Huf.out] at this
              simp at this
            | succ m =>
              go_wp2_with fail
              all_goals
                go_ret
                exact ⟨ret_bool (by rw [Hv.out, Hf.out]; rfl), rfl⟩
        | false =>
          have Hf := Lib.hid (Hgood.out huf)
          have hx := Hx.out
          rw [huf] at hx
          clear huf
          have h1 : ¬ (1048576 : Int) < (m : Int) := by
            intro e
            rw [decide_eq_true e] at hx
            simp at hx
          cases xn with
          | false =>
            clear hx
            go_wp2_with fail
            go_roundw
            case rel => exact ⟨k + 1, by omega, by go_num, Hf.out, by first | rfl | trivial⟩
            case measure => simp [intOf]; omega
          | true =>
            have h0 : ¬ (0 : Int) < (m : Int) := by
              intro e
              rw [decide_eq_true e] at hx
              simp at hx
            obtain rfl : m = 0 := by omega
            clear hx
            go_wp2_with fail
            go_roundw
            case rel => exact ⟨k + 1, by omega, by go_num, Hf.out, by first | rfl | trivial⟩
            case measure => simp [intOf]; omega
      · obtain rfl : k = l.length := by omega
        have Hf := Lib.hid (notAny_all (P := wrongC) (fun j hj => Hall.out j hj hj))
        clear Hall
        go_wp2_with fail
        go_ret
        exact ⟨ret_bool (by rw [Hv.out, Hf.out]; rfl), rfl⟩
  · rw [decide_eq_false hlen] at Hv
    go_enter Try.func62, Try.ntmps62
    go_wp2_with fail
    go_ret
    exact ⟨ret_bool (by rw [Hv.out]; rfl), rfl⟩

end Go.Proofs.Ytldjfmddjbdciaa
