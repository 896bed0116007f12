/-
  slices.IndexFunc and ContainsFunc at columns, whatever the function handed in: its contract is a premise.
-/
import Derived.Test.YthhebfknikfleaaGreatBaA
namespace Go.Proofs.YthhebfknikfleaaGreat
open Go.RowKit
set_option linter.unusedVariables false
set_option linter.unusedSimpArgs false

set_option maxRecDepth 100000 in
set_option maxHeartbeats 4000000 in
theorem indexCo1 (K : FuncId) (u : Value) (P : CoV → Bool) (S : Nat → Prop) (p : Option Addr) (n c : Nat) (L : List CoV) (w : World) (h : SliceS 7 CoS S w [.slice p n c] L)
    (hE : ∀ (args : Array Value) (w0 : World), (callFunc K args).run Tryz.prog w0 = .ok (.enter K args) w0) (hK : ∀ (x : CoV) (w0 : World), Below w.heap.size w w0 → x.name.size ≤ maxLen → Calls Tryz.prog K #[.agg #[.string x.name, .int .i64 x.table, .int .i64 x.attr, .int .i64 x.oid, .int .i64 x.size, .int .i64 x.mod, .int .i64 x.format], u] w0 fun e w' => e = .returned (.bool (P x)) ∧ Below w0.heap.size w0 w') :
    Calls Tryz.prog 95 #[.slice p n c, .func (.func K) #[] #[u]] w fun e w' => ∃ r, e = .returned (.int .i64 r) ∧ IdxG P L r ∧ Below w.heap.size w w' := by
  have H := Lib.hid h
  have HK := Lib.hid hK
  obtain ⟨rfl, hlc, hcm⟩ := h.len
  unfold maxLen at hcm
  clear h hK
  go_enter Tryz.func95, Tryz.ntmps95
  go_wp2_with fail
  go_loopw [5, 8] (fun _ i wr => ∃ k : Nat, k ≤ L.length ∧ i = .int .i64 k ∧ k ≤ aheadG P L ∧ Below w.heap.size w wr) (fun _ i _ => L.length - (intOf i).toNat)
  case atStart => exact ⟨0, Nat.zero_le _, rfl, Nat.zero_le _, Below.refl _ _⟩
  case round =>
    obtain ⟨k, hk, rfl, hka, hb⟩ := hrel
    have hsz := hb.size
    have Hb := Lib.hid hb
    have Hka := Lib.hid hka
    clear hka
    by_cases hlt : k < L.length
    · obtain ⟨b, o, rfl, hS, hbl, c0, c1, c2, c3, c4, c5, c6, hq⟩ := co_at (H.out.below CoS.still hb) hlt
      have Hgo := Lib.hid (aheadG_go P L k hlt)
      have Hat := Lib.hid (aheadG_at P L k hlt)
      clear hb hS
      generalize L[k] = x at *
      have Hc := Lib.hid (HK.out x  wr Hb.out hq)
      have hlti : (k : Int) < (L.length : Int) := by omega
      go_wp2_with fail
      refine Hc.out.mono ?_
      rintro e w1 ⟨rfl, hb1⟩
      have Hb1 := Lib.hid (Hb.out.trans (hb1.mono hsz))
      clear hb1
      cases hP : P x with
      | false =>
        have Hn := Lib.hid (Hgo.out Hka.out hP)
        clear hP
        go_wp2_with fail
        go_roundw
        case rel => exact ⟨k + 1, by omega, by go_num, Hn.out, Hb1.out⟩
        case measure => simp [intOf]; omega
      | true =>
        have Hn := Lib.hid (Hat.out Hka.out hP)
        clear hP
        go_wp2_with fail
        go_ret
        exact ⟨_, rfl, .inl ⟨by rw [Hn.out], by rw [Hn.out]; exact hlt⟩, Hb1.out⟩
    · obtain rfl : k = L.length := by omega
      have Hn := Lib.hid (Nat.le_antisymm (aheadG_le P L) Hka.out)
      go_wp2
      go_ret
      exact ⟨_, rfl, .inr ⟨rfl, Hn.out⟩, Hb.out⟩

set_option maxRecDepth 100000 in
theorem containsCo1 (K : FuncId) (u : Value) (P : CoV → Bool) (S : Nat → Prop) (p : Option Addr) (n c : Nat) (L : List CoV) (w : World) (h : SliceS 7 CoS S w [.slice p n c] L)
    (hE : ∀ (args : Array Value) (w0 : World), (callFunc K args).run Tryz.prog w0 = .ok (.enter K args) w0) (hK : ∀ (x : CoV) (w0 : World), Below w.heap.size w w0 → x.name.size ≤ maxLen → Calls Tryz.prog K #[.agg #[.string x.name, .int .i64 x.table, .int .i64 x.attr, .int .i64 x.oid, .int .i64 x.size, .int .i64 x.mod, .int .i64 x.format], u] w0 fun e w' => e = .returned (.bool (P x)) ∧ Below w0.heap.size w0 w') :
    Calls Tryz.prog 35 #[.slice p n c, .func (.func K) #[] #[u]] w fun e w' => e = .returned (.bool (L.any P)) ∧ Below w.heap.size w w' := by
  have H := Lib.hid (indexCo1 K u P S p n c L w h hE hK)
  clear h hK
  go_enter Tryz.func35, Tryz.ntmps35
  go_wp2_with fail
  refine H.out.mono ?_
  rintro e w1 ⟨r, rfl, hr, hb⟩
  have Hr := Lib.hid hr.any
  have Hb := Lib.hid hb
  clear hb hr
  go_wp2
  go_ret
  exact ⟨ret_bool Hr.out, Hb.out⟩

end Go.Proofs.YthhebfknikfleaaGreat
