/-
  The contracts of package num (layer 1) and of remudaref01: sizes and spans.
-/
import Derived.Test.YtldjfmddjbdciaaRows
import Derived.WalkKit
import Derived.WalkSpells
import Derived.WalkLawsBesides
import Derived.Lib.Hide
namespace Go.Proofs.Ytldjfmddjbdciaa
open Go.RowKit

def sizedB (n : Int) : Bool := n == 1 || n == 2 || n == 4
def rightB (n size : Int) : Bool := sizedB size && (decide (-(2 ^ (8 * size.toNat)) / 2 ≤ n) && decide (n < 2 ^ (8 * size.toNat)))
def signedV (n size : Int) : Int := if sizedB size = true ∧ 2 ^ (8 * size.toNat) / 2 ≤ n ∧ n < 2 ^ (8 * size.toNat) then n - 2 ^ (8 * size.toNat) else n

theorem sizedB_cases {n : Int} (h : sizedB n = true) : n = 1 ∨ n = 2 ∨ n = 4 := by
  unfold sizedB at h; simp at h; omega
theorem sizedB_not {n : Int} (h : sizedB n = false) : n ≠ 1 ∧ n ≠ 2 ∧ n ≠ 4 := by
  unfold sizedB at h; simp at h; omega

theorem sized_any (n : Int) (w : World) :
    Calls Try.prog 74 #[.int .i64 n] w fun e w' => e = .returned (.bool (sizedB n)) ∧ w = w' := by
  unfold sizedB
  go_enter Try.func74, Try.ntmps74
  go_wp2
  all_goals go_ret
  all_goals simp_all

theorem sizedR_any (n : Int) (w : World) :
    Calls Try.prog 78 #[.int .i64 n] w fun e w' => e = .returned (.bool (sizedB n)) ∧ w = w' := by
  unfold sizedB
  go_enter Try.func78, Try.ntmps78
  go_wp2
  all_goals go_ret
  all_goals simp_all

theorem span_any (n : Int) (w : World) (h : n = 1 ∨ n = 2 ∨ n = 4):
    Calls Try.prog 102 #[.int .i64 n] w fun e w' => e = .returned (.int .i64 (2 ^ (8 * n.toNat))) ∧ w = w' := by
  rcases h with rfl | rfl | rfl
  all_goals
    go_enter Try.func102, Try.ntmps102
    go_wp2
    go_ret
    exact ⟨rfl, rfl⟩

end Go.Proofs.Ytldjfmddjbdciaa
