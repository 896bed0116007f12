/-
  The document's All at equal lists (layer 21).
-/
import Derived.Test.YtjfhpafaopeogaaQuM
import Derived.StillTailTactics
namespace Go.Proofs.Ytjfhpafaopeogaa
open Go.RowKit
set_option linter.unusedVariables false
set_option linter.unusedSimpArgs false

set_option maxRecDepth 100000 in
set_option maxHeartbeats 10000000 in
/-- Two lists of the same entries are the same. -/
theorem rAll_same (S S' : Nat → Prop) (p q : Option Addr) (n m c d : Nat) (xs : List EnV) (w : World) (hx : SliceS 8 EnS S w [.slice p n c] xs) (hy : SliceS 8 EnS S' w [.slice q m d] xs) :
    Calls Try.prog 38 #[.slice p n c, .slice q m d] w fun e w' => e = .returned (.bool true) ∧ Below w.heap.size w w' := by
  have Hx := Lib.hid (hx.weak EnS.still (S' := fun k => k < w.heap.size) (fun k hk _ => hk))
  have Hy := Lib.hid (hy.weak EnS.still (S' := fun k => k < w.heap.size) (fun k hk _ => hk))
  obtain ⟨rfl, hlc, hcm⟩ := hx.len
  obtain ⟨rfl, hld, hdm⟩ := hy.len
  unfold maxLen at hcm hdm
  clear hx hy
  go_enter Try.func38, Try.ntmps38
  go_wp2_with fail
  go_loopw [5] (fun i wr => ∃ k : Nat, k ≤ xs.length ∧ i = .int .i64 k ∧ Below w.heap.size w wr) (fun i _ => xs.length - (intOf i).toNat)
  case atStart => exact ⟨0, Nat.zero_le _, rfl, Below.refl _ _⟩
  case round =>
    obtain ⟨k, hk, rfl, hb⟩ := hrel
    have hbs := hb.size
    have Hb := Lib.hid hb
    clear hb
    by_cases hlt : k < xs.length
    · have hwk : IntKind.i64.wrap ((k : Int) + 1) = (k : Int) + 1 := by rw [IntKind.wrap_i64]; omega
      obtain ⟨b, o, a, rfl, hS, hbl, hL, c0, c1, c2, c3, c4, c5, c6, c7⟩ := en_at (Hx.out.below EnS.still Hb.out) hlt
      obtain ⟨b', o', a', rfl, hS', hbl', hL', e0, e1, e2, e3, e4, e5, e6, e7⟩ := en_at (Hy.out.below EnS.still Hb.out) hlt
      have hbd : Below wr.heap.size wr wr.drew := below_dropN (Below.refl _ _) (Nat.le_refl _)
      have hsm := rSame_any _ _ xs[k] xs[k] a a' wr.drew (hL.keep (Kept.all hbd)) (hL'.keep (Kept.all hbd))
      rw [enEq_self] at hsm
      have HS := Lib.hid hsm
      clear hL hL' hsm hbd hS hS'
      generalize xs[k] = x at *
      unfold enArg at HS
      obtain ⟨xk, xh, xf, xd, xg, xb, xc, xr⟩ := x
      obtain ⟨pg, cg, pb, cb, pc, cc, pr, cr⟩ := a
      obtain ⟨qg, dg, qb, db, qc, dc, qr, dr⟩ := a'
      dsimp only at *
      have hlti : (k : Int) < (xs.length : Int) := by omega
      go_upto_region 6 with (fail)
      go_still_tail 8, (by kernel_rfl)
      change wpList _ _ _ _ _ wr.drew
      have Hbd : Hid (Below w.heap.size w wr.drew) := Lib.hid (Hb.out.trans (below_dropN (w := wr) (Below.refl _ _) hbs))
      generalize wr.drew = w5 at *
      clear c0 c1 c2 c3 c4 c5 c6 c7 e0 e1 e2 e3 e4 e5 e6 e7
      go_wp2_with (go_at_call 34; refine HS.out.mono ?_; rintro e w6 ⟨rfl, hb6⟩; have Hb6 := Lib.hid (Hbd.out.trans (hb6.mono Hbd.out.size)); clear hb6)
      all_goals
        go_roundw
        case rel => exact ⟨k + 1, by omega, by go_num, Hb6.out⟩
        case measure => simp [intOf]; omega
    · obtain rfl : k = xs.length := by omega
      go_wp2
      go_ret
      exact ⟨rfl, Hb.out⟩

end Go.Proofs.Ytjfhpafaopeogaa
