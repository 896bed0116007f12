/-
  Plain laws: a number that was put is got.
-/
import Derived.Test.YtldjfmddjbdciaaNumD
namespace Go.Proofs.Ytldjfmddjbdciaa
open Go.RowKit

theorem be_putB' (n : Int) (z : Nat) (hz : z = 1 ∨ z = 2 ∨ z = 4) : be (putB n z z) = n % 2 ^ (8 * z) := by
  rcases hz with rfl | rfl | rfl
  · have h0 := putAt_shr n 1 0 (by omega) (by omega)
    simp [putB, be, List.range_succ] at *
    omega
  · have h0 := putAt_shr n 2 0 (by omega) (by omega)
    have h1 := putAt_shr n 2 1 (by omega) (by omega)
    simp [putB, be, List.range_succ] at *
    omega
  · have h0 := putAt_shr n 4 0 (by omega) (by omega)
    have h1 := putAt_shr n 4 1 (by omega) (by omega)
    have h2 := putAt_shr n 4 2 (by omega) (by omega)
    have h3 := putAt_shr n 4 3 (by omega) (by omega)
    simp [putB, be, List.range_succ] at *
    omega

theorem putV_right {l : List UInt8} {n : Int} {z : Nat} (h : rightB n z = true) : putV l n z = l ++ putB n z z := by
  unfold putV
  rw [if_pos h]
  rfl

theorem putV_len4 (l : List UInt8) (n size : Int) : (putV l n size).length ≤ l.length + 4 := by
  unfold putV
  split
  · rename_i h
    have hs : sizedB size = true := by unfold rightB at h; simp at h; exact h.1
    rw [List.length_append, putB_length]
    rcases sizedB_cases hs with rfl | rfl | rfl <;> simp
  · simp

theorem rightB_4 {n : Int} (h0 : 0 ≤ n) (h1 : n < 4294967296) : rightB n (4 : Nat) = true := by
  simp [rightB, sizedB]
  omega
theorem rightB_2 {n : Int} (h0 : 0 ≤ n) (h1 : n < 65536) : rightB n (2 : Nat) = true := by
  simp [rightB, sizedB]
  omega

theorem be_put4 {n : Int} (h0 : 0 ≤ n) (h1 : n < 4294967296) : be (putB n 4 4) = n := by
  rw [be_putB' n 4 (by omega)]
  omega
theorem be_put2 {n : Int} (h0 : 0 ≤ n) (h1 : n < 65536) : be (putB n 2 2) = n := by
  rw [be_putB' n 2 (by omega)]
  omega

end Go.Proofs.Ytldjfmddjbdciaa
