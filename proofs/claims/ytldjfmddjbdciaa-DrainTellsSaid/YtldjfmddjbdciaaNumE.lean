/-
  The contract of remudaref01.Put.
-/
import Derived.Test.YtldjfmddjbdciaaNumD
namespace Go.Proofs.Ytldjfmddjbdciaa
open Go.RowKit

theorem pow_int (i : Int) (w : World) (h0 : 0 ≤ i) (h : i ≤ 7) :
    Calls Try.prog 81 #[.int .i64 i] w fun e w' => e = .returned (.int .i64 (256 ^ i.toNat)) ∧ w = w' := by
  obtain ⟨k, rfl⟩ := Int.eq_ofNat_of_zero_le h0
  rw [Int.toNat_natCast]
  exact pow_any k w (by omega)

theorem rightB_bd {n : Int} {z : Nat} (h : rightB n z = true) (hz : z = 1 ∨ z = 2 ∨ z = 4) : -2147483648 ≤ n ∧ n < 4294967296 ∧ 0 ≤ n + 2 ^ (8 * z) := by
  rcases hz with rfl | rfl | rfl <;> simp [rightB, sizedB] at h <;> omega

theorem putAt_div (n n' : Int) (z j : Nat) (hz : z = 1 ∨ z = 2 ∨ z = 4) (hj : j < z) (h : n' = n ∨ n' = n + 2 ^ (8 * z)) :
    ((putAt n z j).toNat : Int) = n' / 256 ^ (z - 1 - j) % 256 := by
  rw [putAt_shr n z j hz hj]
  have : (z = 1 ∧ j = 0) ∨ (z = 2 ∧ j = 0) ∨ (z = 2 ∧ j = 1) ∨ (z = 4 ∧ j = 0) ∨ (z = 4 ∧ j = 1) ∨ (z = 4 ∧ j = 2) ∨ (z = 4 ∧ j = 3) := by omega
  rcases this with ⟨rfl, rfl⟩ | ⟨rfl, rfl⟩ | ⟨rfl, rfl⟩ | ⟨rfl, rfl⟩ | ⟨rfl, rfl⟩ | ⟨rfl, rfl⟩ | ⟨rfl, rfl⟩ <;> simp at * <;> omega

theorem putAt_tmod (n n' : Int) (z j : Nat) (hz : z = 1 ∨ z = 2 ∨ z = 4) (hj : j < z) (h0 : 0 ≤ n') (h : n' = n ∨ n' = n + 2 ^ (8 * z)) :
    ((putAt n z j).toNat : Int) = (n' / 256 ^ (z - 1 - j)).tmod 256 % 256 := by
  have hq : 0 ≤ n' / 256 ^ (z - 1 - j) := Int.ediv_nonneg h0 (by have := pow_bd (z - 1 - j) 7 (by omega) (by omega); omega)
  rw [putAt_div n n' z j hz hj h, Int.tmod_eq_emod_of_nonneg hq]
  omega

set_option maxHeartbeats 1000000 in
theorem putR_any (p : Option Addr) (l : List UInt8) (cap : Nat) (n size : Int) (w : World) (hl : l.length ≤ 1000000000) (hb : BytesIn w p l) :
    Calls Try.prog 42 #[.slice p l.length cap, .int .i64 n, .int .i64 size] w fun e w' =>
      ∃ v, e = .returned v ∧ OwnB w.heap.size w' v (putV l n size) ∧ Below w.heap.size w w' := by
  by_cases hr : rightB n size = true
  · have hs : sizedB size = true := by unfold rightB at hr; simp at hr; exact hr.1
    have hsz := sizedB_cases hs
    obtain ⟨z, rfl⟩ := Int.eq_ofNat_of_zero_le (show 0 ≤ size by omega)
    have hz : z = 1 ∨ z = 2 ∨ z = 4 := by omega
    have hV : putV l n z = l ++ putB n z z := by unfold putV; rw [if_pos hr]; rfl
    have hbd := rightB_bd hr hz
    obtain ⟨n', hn'⟩ : ∃ n', n' = if n < 0 then n + 2 ^ (8 * z) else n := ⟨_, rfl⟩
    have h0 : 0 ≤ n' := by rw [hn']; split <;> omega
    have hor : n' = n ∨ n' = n + 2 ^ (8 * z) := by rw [hn']; split <;> simp
    have hn'hi : n' < 9000000000 := by rcases hz with rfl | rfl | rfl <;> simp at hor <;> omega
    have HV := Lib.hid hV
    have Hr := Lib.hid hr
    have Hb := Lib.hid hb
    have hz1 : 1 ≤ z := by omega
    have hz4 : z ≤ 4 := by omega
    have Hz := Lib.hid hz
    have Hor := Lib.hid hor
    have Hn' := Lib.hid hn'
    have Hsz := Lib.hid hsz
    have hpb : 2 ^ (8 * z) ≤ (4294967296 : Int) := by rcases hz with rfl | rfl | rfl <;> decide
    have hpb0 : (0 : Int) ≤ 2 ^ (8 * z) := by rcases hz with rfl | rfl | rfl <;> decide
    clear hb hr hs hsz hV hz hor hn'
    by_cases hneg : n < 0
    all_goals
      have hn2 : n' = if n < 0 then n + 2 ^ (8 * z) else n := Hn'.out
      simp only [hneg, if_true, if_false] at hn2
      have Hn2 := Lib.hid hn2
      clear hn2
      go_enter Try.func42, Try.ntmps42
      go_wp2_with (first | (at_builtin; refine step_appendB _ rfl _ _ rfl w.heap.size _ [] rfl (OwnB.none _ _) _ l _ rfl Hb.out (by simp; omega) (by simp) ?_; intro v1 w1 hown1 hb1 _) | (go_at_call 80; refine (rightR_any _ _ _).mono ?_; rintro e w' ⟨rfl, rfl⟩; rw [Hr.out]) | (go_at_call 81; refine (pow_size _ _ Hsz.out).mono ?_; rintro e w' ⟨rfl, rfl⟩; rw [Int.toNat_natCast]))
      try rw [← Hn2.out]
      go_loopw [7, 8] (fun v s wr => ∃ j : Nat, j ≤ z ∧ s = .int .i64 ((z : Int) - 1 - j) ∧ OwnB w.heap.size wr v (l ++ putB n z j) ∧ Below w.heap.size w wr) (fun _ s _ => (intOf s + 1).toNat)
      case atStart => exact ⟨0, Nat.zero_le _, by congr 1; omega, by simpa [putB] using hown1, hb1⟩
      case round =>
        obtain ⟨j, hj, rfl, hown, hbw⟩ := hrel
        have Hown := Lib.hid hown
        have Hbw := Lib.hid hbw
        have hbsz := hbw.size
        clear hown hbw hb1 hown1
        by_cases hlt : j < z
        · have e7 : ((z : Int) - 1 - j).toNat = z - 1 - j := by omega
          have E7 := Lib.hid e7
          have hp7 := pow_bd (z - 1 - j) 7 (by omega) (by omega)
          clear e7
          go_wp2_with (first | (go_at_call 81; refine (pow_int _ _ (by omega) (by omega)).mono ?_; rintro e w' ⟨rfl, rfl⟩; rw [E7.out]) | (at_builtin; refine step_appendB _ rfl _ _ rfl w.heap.size _ _ rfl (Hown.out.alloc _) _ [putAt n z j] 1 rfl (BytesIn.new1 _ _ _ _ (putAt_tmod n n' z j Hz.out hlt h0 Hor.out)) (by simp [putB_length]; omega) (by simp; omega) ?_; intro v2 w2 hown2 hb2 _))
          have hbel2 := (Hbw.out.alloc hbsz _).trans hb2
          rw [List.append_assoc, ← putB_succ] at hown2
          go_roundw
          case rel => exact ⟨j + 1, by omega, by congr 1; omega, hown2, hbel2⟩
          case measure => simp [intOf]; omega
        · go_wp2
          go_ret
          obtain rfl : j = z := by omega
          refine ⟨_, rfl, ?_, Hbw.out⟩
          rw [HV.out]; exact Hown.out
  · have hV : putV l n size = l := by unfold putV; rw [if_neg hr]; simp
    have hr' : rightB n size = false := by simpa using hr
    have HV := Lib.hid hV
    have Hr := Lib.hid hr'
    have Hb := Lib.hid hb
    clear hb hr hr' hV
    go_enter Try.func42, Try.ntmps42
    go_wp2_with (first | (at_builtin; refine step_appendB _ rfl _ _ rfl w.heap.size _ [] rfl (OwnB.none _ _) _ l _ rfl Hb.out (by simp; omega) (by simp) ?_; intro v1 w1 hown1 hb1 _) | (go_at_call 80; refine (rightR_any _ _ _).mono ?_; rintro e w' ⟨rfl, rfl⟩; rw [Hr.out]))
    go_ret
    refine ⟨_, rfl, ?_, hb1⟩
    rw [HV.out]; simpa using hown1

end Go.Proofs.Ytldjfmddjbdciaa
