/-
  The contracts of num.Get and remudaref01.Get: the number that some bytes are.
-/
import Derived.Test.YtldjfmddjbdciaaNumS
import Derived.Test.YtldjfmddjbdciaaBase
namespace Go.Proofs.Ytldjfmddjbdciaa
open Go.RowKit

/-- The number of some bytes, and the error's number. -/
def getV (l : List UInt8) (at' size : Int) : Int × Int :=
  if sizedB size = false ∨ at' < 0 then (0, 1)
  else if (l.length : Int) - size < at' then (0, 3)
  else (be ((l.drop at'.toNat).take size.toNat), 0)

theorem getV_arg {l : List UInt8} {at' size : Int} (h : sizedB size = false ∨ at' < 0) : getV l at' size = (0, 1) := by
  unfold getV; rw [if_pos h]
theorem getV_short {l : List UInt8} {at' size : Int} (h1 : sizedB size = true) (h2 : ¬ at' < 0) (h : (l.length : Int) - size < at') : getV l at' size = (0, 3) := by
  unfold getV; rw [if_neg (by simp [h1, h2]), if_pos h]
theorem getV_yes {l : List UInt8} {at' size : Int} (h1 : sizedB size = true) (h2 : ¬ at' < 0) (h : ¬ (l.length : Int) - size < at') :
    getV l at' size = (be ((l.drop at'.toNat).take size.toNat), 0) := by
  unfold getV; rw [if_neg (by simp [h1, h2]), if_neg h]

theorem pow_le4 (k n : Nat) (h : k ≤ n) (hn : n ≤ 4) : (256 : Int) ^ k ≤ 4294967296 := by
  have : k = 0 ∨ k = 1 ∨ k = 2 ∨ k = 3 ∨ k = 4 := by omega
  rcases this with rfl | rfl | rfl | rfl | rfl <;> decide

theorem be_le4 (l : List UInt8) (k : Nat) (h : k ≤ 4) : 0 ≤ be (l.take k) ∧ be (l.take k) < 4294967296 := by
  have h1 := be_bd (l.take k)
  have h2 := pow_le4 (l.take k).length 4 (by rw [List.length_take]; omega) (by omega)
  omega

set_option maxHeartbeats 400000 in
theorem getR_any (p : Option Addr) (l : List UInt8) (cap : Nat) (at' size : Int) (w : World) (hl : l.length ≤ cap) (hc : cap ≤ maxLen) (hb : BytesIn w p l) :
    Calls Try.prog 39 #[.slice p l.length cap, .int .i64 at', .int .i64 size] w fun e w' =>
      e = .returned (.tuple #[.int .i64 (getV l at' size).1, .int .i64 (getV l at' size).2]) ∧ w = w' := by
  unfold maxLen at hc
  by_cases h0 : sizedB size = false ∨ at' < 0
  · rw [getV_arg h0]
    by_cases hs : sizedB size = true
    · have hlt : at' < 0 := by simpa [hs] using h0
      have Hs := Lib.hid hs
      clear hs h0
      go_enter Try.func39, Try.ntmps39
      go_wp2_with (first | (go_at_call 78; refine (sizedR_any _ _).mono ?_; rintro e w' ⟨rfl, rfl⟩; rw [Hs.out]))
      go_ret2
      exact ⟨rfl, rfl⟩
    · have Hs := Lib.hid (show sizedB size = false by simpa using hs)
      clear hs h0
      go_enter Try.func39, Try.ntmps39
      go_wp2_with (first | (go_at_call 78; refine (sizedR_any _ _).mono ?_; rintro e w' ⟨rfl, rfl⟩; rw [Hs.out]))
      go_ret2
      exact ⟨rfl, rfl⟩
  · have hs : sizedB size = true := by cases h : sizedB size <;> simp_all
    have ha : ¬ at' < 0 := fun h => h0 (.inr h)
    have hsz := sizedB_cases hs
    clear h0
    by_cases hsh : (l.length : Int) - size < at'
    · rw [getV_short hs ha hsh]
      have Hs := Lib.hid hs
      clear hs
      go_enter Try.func39, Try.ntmps39
      go_wp2_with (first | (go_at_call 78; refine (sizedR_any _ _).mono ?_; rintro e w' ⟨rfl, rfl⟩; rw [Hs.out]))
      go_ret2
      exact ⟨rfl, rfl⟩
    · rw [getV_yes hs ha hsh]
      obtain ⟨b, o, rfl⟩ := hb.addr (by omega)
      obtain ⟨a, rfl⟩ := Int.eq_ofNat_of_zero_le (show 0 ≤ at' by omega)
      obtain ⟨z, rfl⟩ := Int.eq_ofNat_of_zero_le (show 0 ≤ size by omega)
      rw [Int.toNat_natCast, Int.toNat_natCast]
      have hz4 : z ≤ 4 := by omega
      have hz1 : 1 ≤ z := by omega
      have hfit : a + z ≤ l.length := by omega
      have Hs := Lib.hid hs
      have Hb := Lib.hid hb
      clear hs hb hsz hsh ha
      go_enter Try.func39, Try.ntmps39
      go_wp2_with (first | (go_at_call 78; refine (sizedR_any _ _).mono ?_; rintro e w' ⟨rfl, rfl⟩; rw [Hs.out]))
      go_loop [8, 9] (fun n i => ∃ k : Nat, k ≤ z ∧ i = .int .i64 k ∧ n = .int .i64 (be ((l.drop a).take k))) (fun _ i => z - (intOf i).toNat)
      case atStart => exact ⟨0, Nat.zero_le _, rfl, rfl⟩
      case round =>
        obtain ⟨k, hk, rfl, rfl⟩ := hrel
        have hbd := be_le4 (l.drop a) k (by omega)
        by_cases hlt : k < z
        · have hcell := Hb.out.cellAt (a + k) (by omega)
          have hu := u8_bd (l.getD (a + k) 0)
          have hbe := be_take_succ (l.drop a) k (by rw [List.length_drop]; omega)
          rw [show (l.drop a).getD k 0 = l.getD (a + k) 0 from by simp [List.getD]] at hbe
          have Hbe := Lib.hid hbe
          clear hbe
          generalize l.getD (a + k) 0 = c at hcell hu Hbe
          generalize be ((l.drop a).take k) = n at hbd Hbe
          go_wp2
          go_round
          case rel => exact ⟨k + 1, by omega, by go_num, by rw [Hbe.out]⟩
          case measure => simp [intOf]; omega
        · go_wp2
          go_ret2
          obtain rfl : k = z := by omega
          exact ⟨rfl, rfl⟩

set_option maxHeartbeats 400000 in
theorem get_any (p : Option Addr) (l : List UInt8) (cap : Nat) (at' size : Int) (w : World) (hl : l.length ≤ cap) (hc : cap ≤ maxLen) (hb : BytesIn w p l) :
    Calls Try.prog 36 #[.slice p l.length cap, .int .i64 at', .int .i64 size] w fun e w' =>
      e = .returned (.tuple #[.int .i64 (getV l at' size).1, .int .i64 (getV l at' size).2]) ∧ w = w' := by
  unfold maxLen at hc
  by_cases h0 : sizedB size = false ∨ at' < 0
  · rw [getV_arg h0]
    by_cases hs : sizedB size = true
    · have hlt : at' < 0 := by simpa [hs] using h0
      have Hs := Lib.hid hs
      clear hs h0
      go_enter Try.func36, Try.ntmps36
      go_wp2_with (first | (go_at_call 74; refine (sized_any _ _).mono ?_; rintro e w' ⟨rfl, rfl⟩; rw [Hs.out]))
      go_ret2
      exact ⟨rfl, rfl⟩
    · have Hs := Lib.hid (show sizedB size = false by simpa using hs)
      clear hs h0
      go_enter Try.func36, Try.ntmps36
      go_wp2_with (first | (go_at_call 74; refine (sized_any _ _).mono ?_; rintro e w' ⟨rfl, rfl⟩; rw [Hs.out]))
      go_ret2
      exact ⟨rfl, rfl⟩
  · have hs : sizedB size = true := by cases h : sizedB size <;> simp_all
    have ha : ¬ at' < 0 := fun h => h0 (.inr h)
    have hsz := sizedB_cases hs
    clear h0
    by_cases hsh : (l.length : Int) - size < at'
    · rw [getV_short hs ha hsh]
      have Hs := Lib.hid hs
      clear hs
      by_cases hsl : (l.length : Int) < size
      all_goals
        go_enter Try.func36, Try.ntmps36
        go_wp2_with (first | (go_at_call 74; refine (sized_any _ _).mono ?_; rintro e w' ⟨rfl, rfl⟩; rw [Hs.out]))
        go_ret2
        exact ⟨rfl, rfl⟩
    · rw [getV_yes hs ha hsh]
      obtain ⟨b, o, rfl⟩ := hb.addr (by omega)
      obtain ⟨a, rfl⟩ := Int.eq_ofNat_of_zero_le (show 0 ≤ at' by omega)
      obtain ⟨z, rfl⟩ := Int.eq_ofNat_of_zero_le (show 0 ≤ size by omega)
      rw [Int.toNat_natCast, Int.toNat_natCast]
      have hz4 : z ≤ 4 := by omega
      have hz1 : 1 ≤ z := by omega
      have hfit : a + z ≤ l.length := by omega
      have hnc : ¬ cap = a := by omega
      have Hs := Lib.hid hs
      have Hb := Lib.hid hb
      clear hs hb hsz hsh ha
      go_enter Try.func36, Try.ntmps36
      go_wp2_with (first | (go_at_call 74; refine (sized_any _ _).mono ?_; rintro e w' ⟨rfl, rfl⟩; rw [Hs.out]))
      go_loop [8, 35] (fun n i => ∃ k : Nat, k ≤ z ∧ i = .int .i64 k ∧ n = .int .i64 (be ((l.drop a).take k))) (fun _ i => z - (intOf i).toNat)
      case atStart => exact ⟨0, Nat.zero_le _, rfl, rfl⟩
      case round =>
        obtain ⟨k, hk, rfl, rfl⟩ := hrel
        have hbd := be_le4 (l.drop a) k (by omega)
        by_cases hlt : k < z
        · have hcell := Hb.out.cellAt (a + k) (by omega)
          rw [← Nat.add_assoc] at hcell
          have hu := u8_bd (l.getD (a + k) 0)
          have hbe := be_take_succ (l.drop a) k (by rw [List.length_drop]; omega)
          rw [show (l.drop a).getD k 0 = l.getD (a + k) 0 from by simp [List.getD]] at hbe
          have Hbe := Lib.hid hbe
          clear hbe
          generalize l.getD (a + k) 0 = c at hcell hu Hbe
          generalize be ((l.drop a).take k) = n at hbd Hbe
          go_wp2
          go_round
          case rel => exact ⟨k + 1, by omega, by go_num, by rw [Hbe.out, or_byte n _ hbd.1 hbd.2 hu.1 hu.2]⟩
          case measure => simp [intOf]; omega
        · go_wp2
          go_ret2
          obtain rfl : k = z := by omega
          exact ⟨rfl, rfl⟩

end Go.Proofs.Ytldjfmddjbdciaa
