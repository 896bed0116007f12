/-
  The contract of remudaref01.Right.
-/
import Derived.Test.YtldjfmddjbdciaaNumA
import Derived.Test.YtldjfmddjbdciaaNumRight
namespace Go.Proofs.Ytldjfmddjbdciaa
open Go.RowKit

theorem rightR_any (n size : Int) (w : World) :
    Calls Try.prog 80 #[.int .i64 n, .int .i64 size] w fun e w' => e = .returned (.bool (rightB n size)) ∧ w = w' := by
  by_cases hs : sizedB size = true
  · unfold rightB
    rcases sizedB_cases hs with rfl | rfl | rfl
    all_goals
      clear hs
      go_enter Try.func80, Try.ntmps80
      go_wp2_with (first | (go_at_call 78; refine (sizedR_any _ _).mono ?_; rintro e w' ⟨rfl, rfl⟩) | (go_at_call 81; refine (pow_size _ _ (by omega)).mono ?_; rintro e w' ⟨rfl, rfl⟩))
      all_goals go_ret
      all_goals (simp_all [sizedB]; try omega)
  · have hs' : sizedB size = false := by simpa using hs
    have hr : rightB n size = false := by unfold rightB; rw [hs']; rfl
    have Hs := Lib.hid hs'
    have Hr := Lib.hid hr
    clear hs hs' hr
    go_enter Try.func80, Try.ntmps80
    go_wp2_with (first | (go_at_call 78; refine (sizedR_any _ _).mono ?_; rintro e w' ⟨rfl, rfl⟩; rw [Hs.out]))
    go_ret
    rw [Hr.out]
    exact ⟨rfl, rfl⟩

end Go.Proofs.Ytldjfmddjbdciaa
