/-
  The contract of num.Right.
-/
import Derived.Test.YtldjfmddjbdciaaNumS
namespace Go.Proofs.Ytldjfmddjbdciaa
open Go.RowKit

theorem right_any (n size : Int) (w : World) :
    Calls Try.prog 79 #[.int .i64 n, .int .i64 size] w fun e w' => e = .returned (.bool (rightB n size)) ∧ w = w' := by
  by_cases hs : sizedB size = true
  · unfold rightB
    rcases sizedB_cases hs with rfl | rfl | rfl
    all_goals
      clear hs
      go_enter Try.func79, Try.ntmps79
      go_wp2_with (first | (go_at_call 74; refine (sized_any _ _).mono ?_; rintro e w' ⟨rfl, rfl⟩) | (go_at_call 102; refine (span_any _ _ (by omega)).mono ?_; rintro e w' ⟨rfl, rfl⟩))
      all_goals go_ret
      all_goals (simp_all [sizedB]; try omega)
  · have hs' : sizedB size = false := by simpa using hs
    have hr : rightB n size = false := by unfold rightB; rw [hs']; rfl
    have Hs := Lib.hid hs'
    have Hr := Lib.hid hr
    clear hs hs' hr
    go_enter Try.func79, Try.ntmps79
    go_wp2_with (first | (go_at_call 74; refine (sized_any _ _).mono ?_; rintro e w' ⟨rfl, rfl⟩; rw [Hs.out]))
    go_ret
    rw [Hr.out]
    exact ⟨rfl, rfl⟩

end Go.Proofs.Ytldjfmddjbdciaa
