/-
  The contracts of package num (layer 1) and of remudaref01: Right, Signed.
-/
import Derived.Test.YtbgdjgfkpllhlaaNumA
namespace Go.Proofs.Ytbgdjgfkpllhlaa
open Go.RowKit

theorem right_any (n size : Int) (w : World) :
    Calls Try.prog 13 #[.int .i64 n, .int .i64 size] w fun e w' => e = .returned (.bool (rightB n size)) ∧ w = w' := by
  by_cases hs : sizedB size = true
  · unfold rightB
    rcases sizedB_cases hs with rfl | rfl | rfl
    all_goals
      clear hs
      go_enter Try.func13, Try.ntmps13
      go_wp2_with (first | (go_at_call 24; refine (sized_any _ _).mono ?_; rintro e w' ⟨rfl, rfl⟩) | (go_at_call 26; refine (span_any _ _ (by omega)).mono ?_; rintro e w' ⟨rfl, rfl⟩))
      all_goals go_ret
      all_goals (simp_all [sizedB]; try omega)
  · have hs' : sizedB size = false := by simpa using hs
    have hr : rightB n size = false := by unfold rightB; rw [hs']; rfl
    have Hs := Lib.hid hs'
    have Hr := Lib.hid hr
    clear hs hs' hr
    go_enter Try.func13, Try.ntmps13
    go_wp2_with (first | (go_at_call 24; refine (sized_any _ _).mono ?_; rintro e w' ⟨rfl, rfl⟩; rw [Hs.out]))
    go_ret
    rw [Hr.out]
    exact ⟨rfl, rfl⟩

theorem rightR_any (n size : Int) (w : World) :
    Calls Try.prog 14 #[.int .i64 n, .int .i64 size] w fun e w' => e = .returned (.bool (rightB n size)) ∧ w = w' := by
  by_cases hs : sizedB size = true
  · unfold rightB
    rcases sizedB_cases hs with rfl | rfl | rfl
    all_goals
      clear hs
      go_enter Try.func14, Try.ntmps14
      go_wp2_with (first | (go_at_call 25; refine (sizedR_any _ _).mono ?_; rintro e w' ⟨rfl, rfl⟩) | (go_at_call 27; refine (pow_size _ _ (by omega)).mono ?_; rintro e w' ⟨rfl, rfl⟩))
      all_goals go_ret
      all_goals (simp_all [sizedB]; try omega)
  · have hs' : sizedB size = false := by simpa using hs
    have hr : rightB n size = false := by unfold rightB; rw [hs']; rfl
    have Hs := Lib.hid hs'
    have Hr := Lib.hid hr
    clear hs hs' hr
    go_enter Try.func14, Try.ntmps14
    go_wp2_with (first | (go_at_call 25; refine (sizedR_any _ _).mono ?_; rintro e w' ⟨rfl, rfl⟩; rw [Hs.out]))
    go_ret
    rw [Hr.out]
    exact ⟨rfl, rfl⟩

theorem signed_any (n size : Int) (w : World) :
    Calls Try.prog 11 #[.int .i64 n, .int .i64 size] w fun e w' => e = .returned (.int .i64 (signedV n size)) ∧ w = w' := by
  by_cases hs : sizedB size = true
  · unfold signedV
    rcases sizedB_cases hs with rfl | rfl | rfl
    all_goals
      clear hs
      go_enter Try.func11, Try.ntmps11
      go_wp2_with (first | (go_at_call 24; refine (sized_any _ _).mono ?_; rintro e w' ⟨rfl, rfl⟩) | (go_at_call 26; refine (span_any _ _ (by omega)).mono ?_; rintro e w' ⟨rfl, rfl⟩))
      all_goals go_ret
      all_goals (simp_all [sizedB]; try omega)
  · have hs' : sizedB size = false := by simpa using hs
    have hr : signedV n size = n := by unfold signedV; rw [hs']; simp
    have Hs := Lib.hid hs'
    have Hr := Lib.hid hr
    clear hs hs' hr
    go_enter Try.func11, Try.ntmps11
    go_wp2_with (first | (go_at_call 24; refine (sized_any _ _).mono ?_; rintro e w' ⟨rfl, rfl⟩; rw [Hs.out]))
    go_ret
    rw [Hr.out]
    exact ⟨rfl, rfl⟩

theorem signedR_any (n size : Int) (w : World) :
    Calls Try.prog 12 #[.int .i64 n, .int .i64 size] w fun e w' => e = .returned (.int .i64 (signedV n size)) ∧ w = w' := by
  by_cases hs : sizedB size = true
  · unfold signedV
    rcases sizedB_cases hs with rfl | rfl | rfl
    all_goals
      clear hs
      go_enter Try.func12, Try.ntmps12
      go_wp2_with (first | (go_at_call 25; refine (sizedR_any _ _).mono ?_; rintro e w' ⟨rfl, rfl⟩) | (go_at_call 27; refine (pow_size _ _ (by omega)).mono ?_; rintro e w' ⟨rfl, rfl⟩))
      all_goals go_ret
      all_goals (simp_all [sizedB]; try omega)
  · have hs' : sizedB size = false := by simpa using hs
    have hr : signedV n size = n := by unfold signedV; rw [hs']; simp
    have Hs := Lib.hid hs'
    have Hr := Lib.hid hr
    clear hs hs' hr
    go_enter Try.func12, Try.ntmps12
    go_wp2_with (first | (go_at_call 25; refine (sizedR_any _ _).mono ?_; rintro e w' ⟨rfl, rfl⟩; rw [Hs.out]))
    go_ret
    rw [Hr.out]
    exact ⟨rfl, rfl⟩

end Go.Proofs.Ytbgdjgfkpllhlaa
