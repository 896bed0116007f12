/-
  A server without its client (layer 34): Plan, Bytes; both.
-/
import Derived.Test.YtldjfmddjbdciaaFoQ
import Derived.Test.YtldjfmddjbdciaaFrBy
import Derived.Test.YtldjfmddjbdciaaBytesEqual
namespace Go.Proofs.Ytldjfmddjbdciaa
open Go.RowKit
set_option linter.unusedVariables false
set_option linter.unusedSimpArgs false

def planV (st left : Int) (on wt dt : Bool) : Int := if wt = true then 1 else if (on || dt) = true then 2 else if 0 < left then 1 else if st = 73 then 0 else 3

theorem plan_any (st left : Int) (on wt dt : Bool) (w : World) : Calls Try.prog 18 #[.int .u8 st, .int .i64 left, .agg #[.bool on, .bool wt, .bool dt]] w fun e w' => e = .returned (.int .i64 (planV st left on wt dt)) ∧ Below w.heap.size w w' := by
  have Hb := Lib.hid (fun cs : Array Value => (Below.refl w.heap.size w).alloc (Nat.le_refl _) (.cells cs 33))
  have Hv : Hid (planV st left on wt dt = if wt = true then 1 else if (on || dt) = true then 2 else if 0 < left then 1 else if st = 73 then 0 else 3) := Lib.hid rfl
  generalize planV st left on wt dt = pv at *
  go_enter Try.func18, Try.ntmps18
  go_wp2
  all_goals
    go_ret
    refine ⟨ret_int ?_, Hb.out _⟩
    rw [Hv.out]
    simp_all
  all_goals omega

theorem rplan_any (st left : Int) (on wt dt : Bool) (w : World) : Calls Try.prog 19 #[.int .u8 st, .int .i64 left, .agg #[.bool on, .bool wt, .bool dt]] w fun e w' => e = .returned (.int .i64 (planV st left on wt dt)) ∧ Below w.heap.size w w' := by
  have Hb := Lib.hid (fun cs : Array Value => (Below.refl w.heap.size w).alloc (Nat.le_refl _) (.cells cs 36))
  have Hv : Hid (planV st left on wt dt = if wt = true then 1 else if (on || dt) = true then 2 else if 0 < left then 1 else if st = 73 then 0 else 3) := Lib.hid rfl
  generalize planV st left on wt dt = pv at *
  go_enter Try.func19, Try.ntmps19
  go_wp2
  all_goals
    go_ret
    refine ⟨ret_int ?_, Hb.out _⟩
    rw [Hv.out]
    simp_all
  all_goals omega

end Go.Proofs.Ytldjfmddjbdciaa
