/-
  The contract of num.Put: bytes with a number behind them.
-/
import Derived.Test.YtldjfmddjbdciaaNumRight
import Derived.Test.YtldjfmddjbdciaaNumRightR
import Derived.Test.YtldjfmddjbdciaaNumC
import Derived.Test.YtldjfmddjbdciaaBytes
namespace Go.Proofs.Ytldjfmddjbdciaa
open Go.RowKit

/-- The byte at place j of a number of z bytes. -/
def putAt (n : Int) (z j : Nat) : UInt8 := UInt8.ofNat ((n % 4294967296).toNat / 256 ^ (z - 1 - j))
def putB (n : Int) (z j : Nat) : List UInt8 := (List.range j).map (putAt n z)
/-- Bytes with a number behind them. -/
def putV (l : List UInt8) (n size : Int) : List UInt8 := l ++ if rightB n size = true then putB n size.toNat size.toNat else []

theorem putB_succ (n : Int) (z j : Nat) : putB n z (j + 1) = putB n z j ++ [putAt n z j] := by
  simp [putB, List.range_succ]
theorem putB_length (n : Int) (z j : Nat) : (putB n z j).length = j := by simp [putB]

theorem putAt_shr (n : Int) (z j : Nat) (hz : z = 1 ∨ z = 2 ∨ z = 4) (hj : j < z) : ((putAt n z j).toNat : Int) = n / 2 ^ (8 * (z - 1 - j)) % 256 := by
  have : (z = 1 ∧ j = 0) ∨ (z = 2 ∧ j = 0) ∨ (z = 2 ∧ j = 1) ∨ (z = 4 ∧ j = 0) ∨ (z = 4 ∧ j = 1) ∨ (z = 4 ∧ j = 2) ∨ (z = 4 ∧ j = 3) := by omega
  rcases this with ⟨rfl, rfl⟩ | ⟨rfl, rfl⟩ | ⟨rfl, rfl⟩ | ⟨rfl, rfl⟩ | ⟨rfl, rfl⟩ | ⟨rfl, rfl⟩ | ⟨rfl, rfl⟩ <;> simp [putAt] <;> omega

set_option maxHeartbeats 1000000 in
theorem put_any (p : Option Addr) (l : List UInt8) (cap : Nat) (n size : Int) (w : World) (hl : l.length ≤ 1000000000) (hb : BytesIn w p l) :
    Calls Try.prog 40 #[.slice p l.length cap, .int .i64 n, .int .i64 size] w fun e w' =>
      ∃ v, e = .returned v ∧ OwnB w.heap.size w' v (putV l n size) ∧ Below w.heap.size w w' := by
  by_cases hr : rightB n size = true
  · have hs : sizedB size = true := by unfold rightB at hr; simp at hr; exact hr.1
    have hsz := sizedB_cases hs
    obtain ⟨z, rfl⟩ := Int.eq_ofNat_of_zero_le (show 0 ≤ size by omega)
    have hz : z = 1 ∨ z = 2 ∨ z = 4 := by omega
    have hV : putV l n z = l ++ putB n z z := by unfold putV; rw [if_pos hr]; rfl
    have HV := Lib.hid hV
    have Hr := Lib.hid hr
    have Hb := Lib.hid hb
    have hz1 : 1 ≤ z := by omega
    have hz4 : z ≤ 4 := by omega
    have Hz := Lib.hid hz
    clear hb hr hs hsz hV hz
    go_enter Try.func40, Try.ntmps40
    go_wp2_with (first | (at_builtin; refine step_appendB _ rfl _ _ rfl w.heap.size _ [] rfl (OwnB.empty (Nat.le_refl _)) _ l _ rfl (Hb.out.alloc _) (by simp; omega) (by simp) ?_; intro v1 w1 hown1 hb1 _) | (go_at_call 79; refine (right_any _ _ _).mono ?_; rintro e w' ⟨rfl, rfl⟩; rw [Hr.out]))
    have hbel : Below w.heap.size w w1 := ((Below.refl _ _).alloc (Nat.le_refl _) _).trans hb1
    go_loopw [7, 8] (fun v s wr => ∃ j : Nat, j ≤ z ∧ s = .int .i64 (8 * ((z : Int) - 1 - j)) ∧ OwnB w.heap.size wr v (l ++ putB n z j) ∧ Below w.heap.size w wr) (fun _ s _ => (intOf s + 8).toNat)
    case atStart => exact ⟨0, Nat.zero_le _, by congr 1; omega, by simpa [putB] using hown1, hbel⟩
    case round =>
      obtain ⟨j, hj, rfl, hown, hbw⟩ := hrel
      have Hown := Lib.hid hown
      have Hbw := Lib.hid hbw
      have hbsz := hbw.size
      clear hown hbw hb1 hbel hown1
      by_cases hlt : j < z
      · go_wp2_with (first | (at_builtin; refine step_appendB _ rfl _ _ rfl w.heap.size _ _ rfl (Hown.out.alloc _) _ [putAt n z j] 1 rfl (BytesIn.new1 _ _ _ _ (putAt_shr n z j Hz.out hlt)) (by simp [putB_length]; omega) (by simp; omega) ?_; intro v2 w2 hown2 hb2 _))
        have hbel2 := (Hbw.out.alloc hbsz _).trans hb2
        rw [List.append_assoc, ← putB_succ] at hown2
        go_roundw
        case rel => exact ⟨j + 1, by omega, by congr 1; omega, hown2, hbel2⟩
        case measure => simp [intOf]; omega
      · go_wp2
        go_ret
        obtain rfl : j = z := by omega
        refine ⟨_, rfl, ?_, Hbw.out⟩
        rw [HV.out]; exact Hown.out
  · have hV : putV l n size = l := by unfold putV; rw [if_neg hr]; simp
    have hr' : rightB n size = false := by simpa using hr
    have HV := Lib.hid hV
    have Hr := Lib.hid hr'
    have Hb := Lib.hid hb
    clear hb hr hr' hV
    go_enter Try.func40, Try.ntmps40
    go_wp2_with (first | (at_builtin; refine step_appendB _ rfl _ _ rfl w.heap.size _ [] rfl (OwnB.empty (Nat.le_refl _)) _ l _ rfl (Hb.out.alloc _) (by simp; omega) (by simp) ?_; intro v1 w1 hown1 hb1 _) | (go_at_call 79; refine (right_any _ _ _).mono ?_; rintro e w' ⟨rfl, rfl⟩; rw [Hr.out]))
    go_ret
    refine ⟨_, rfl, ?_, ((Below.refl _ _).alloc (Nat.le_refl _) _).trans hb1⟩
    rw [HV.out]; simpa using hown1

end Go.Proofs.Ytldjfmddjbdciaa
