/-
  What is said first (layer 11): a session's keys; both.
-/
import Derived.Test.YthhebfknikfleaaGreatPackA
import Derived.Laws.Bits64b
import Derived.IntWalk
namespace Go.Proofs.YthhebfknikfleaaGreat
open Go.RowKit
set_option linter.unusedVariables false
set_option linter.unusedSimpArgs false

/-- A session's number, between two others. -/
def keyI (id : Int) : Int := (if id < 0 then 0 else if 1048576 < id then 1048576 else id) + 1
def keyM (id : Int) : Int := keyI id * 7919 % 2147483648
theorem keyI_bd (id : Int) : 1 ≤ keyI id ∧ keyI id ≤ 1048577 := by unfold keyI; split <;> (try split) <;> omega
theorem keyM_bd (id : Int) : 0 ≤ keyM id ∧ keyM id < 2147483648 := by unfold keyM; omega
theorem and_mask {E : Int} (h0 : 0 ≤ E) (h1 : E < 9223372036854775808) : bits BinOp.and IntKind.i64 E 2147483647 = E % 2147483648 := by
  obtain ⟨n, rfl⟩ := Int.eq_ofNat_of_zero_le h0
  have e : n &&& 2147483647 = n % 2147483648 := Nat.and_two_pow_sub_one_eq_mod n 31
  have h1 : (BitVec.ofInt 64 (n : Int)).toNat = n := by
    rw [BitVec.ofInt_natCast, BitVec.toNat_ofNat]; exact Nat.mod_eq_of_lt (by omega)
  have h2 : (BitVec.ofInt 64 ((2147483647 : Nat) : Int)).toNat = 2147483647 := by
    rw [BitVec.ofInt_natCast, BitVec.toNat_ofNat]
  show IntKind.i64.wrap ((BitVec.ofInt 64 (n : Int) &&& BitVec.ofInt 64 ((2147483647 : Nat) : Int)).toNat : Int) = _
  rw [BitVec.toNat_and, h1, h2, e, IntKind.wrap_i64]
  omega
theorem ret_two {a b c d : Int} (h1 : a = c) (h2 : b = d) : Ending.returned (.tuple #[.int .i64 a, .int .i64 b]) = .returned (.tuple #[.int .i64 c, .int .i64 d]) := by rw [h1, h2]
theorem keyI_lo {id : Int} (h : id < 0) : keyI id = 1 := by unfold keyI; rw [if_pos h]; rfl
theorem keyI_hi {id : Int} (h : 1048576 < id) : keyI id = 1048577 := by unfold keyI; rw [if_neg (by omega), if_pos h]; rfl
theorem keyI_in {id : Int} (h : 0 ≤ id) (g : id ≤ 1048576) : keyI id = id + 1 := by unfold keyI; rw [if_neg (by omega), if_neg (by omega)]

set_option maxRecDepth 100000 in
theorem keys_any (id : Int) (w : World) : Calls Tryz.prog 92 #[.int .i64 id] w fun e w' => e = .returned (.tuple #[.int .i64 (keyI id), .int .i64 (keyM id)]) ∧ w = w' := by
  have Hm : Hid (keyM id = keyI id * 7919 % 2147483648) := Lib.hid rfl
  by_cases h : id < 0
  · have Hk := Lib.hid (keyI_lo h)
    generalize keyM id = km at *
    generalize keyI id = ki at *
    go_enter Tryz.func92, Tryz.ntmps92
    go_wp2
    all_goals
      go_ret2
      exact ⟨ret_two (by rw [Hk.out]; try (first | (rw [and_mask (by omega) (by omega)]; omega) | (rw [and_mask (by omega) (by omega)]; rfl) | rfl | decide)) (by rw [Hm.out, Hk.out]; try (first | (rw [and_mask (by omega) (by omega)]; omega) | (rw [and_mask (by omega) (by omega)]; rfl) | rfl | decide)), rfl⟩
  · by_cases g : 1048576 < id
    · have Hk := Lib.hid (keyI_hi g)
      generalize keyM id = km at *
      generalize keyI id = ki at *
      have h' : 0 ≤ id := by omega
      clear h
      go_enter Tryz.func92, Tryz.ntmps92
      go_wp2
      all_goals
        go_ret2
        exact ⟨ret_two (by rw [Hk.out]; try (first | (rw [and_mask (by omega) (by omega)]; omega) | (rw [and_mask (by omega) (by omega)]; rfl) | rfl | decide)) (by rw [Hm.out, Hk.out]; try (first | (rw [and_mask (by omega) (by omega)]; omega) | (rw [and_mask (by omega) (by omega)]; rfl) | rfl | decide)), rfl⟩
    · have Hk := Lib.hid (keyI_in (id := id) (by omega) (by omega))
      generalize keyM id = km at *
      generalize keyI id = ki at *
      have h' : 0 ≤ id := by omega
      have g' : id ≤ 1048576 := by omega
      clear h g
      go_enter Tryz.func92, Tryz.ntmps92
      go_wp2
      all_goals
        go_ret2
        exact ⟨ret_two (by rw [Hk.out]; try (rw [and_mask (by omega) (by omega)]; try omega)) (by rw [Hm.out, Hk.out]; rw [and_mask (by omega) (by omega)]; try omega), rfl⟩

set_option maxRecDepth 100000 in
theorem rkeys_any (id : Int) (w : World) : Calls Tryz.prog 87 #[.int .i64 id] w fun e w' => e = .returned (.tuple #[.int .i64 (keyI id), .int .i64 (keyM id)]) ∧ w = w' := by
  have Hm : Hid (keyM id = keyI id * 7919 % 2147483648) := Lib.hid rfl
  by_cases h : id < 0
  · have Hk := Lib.hid (keyI_lo h)
    generalize keyM id = km at *
    generalize keyI id = ki at *
    go_enter Tryz.func87, Tryz.ntmps87
    go_wp2
    all_goals
      go_ret2
      exact ⟨ret_two (by rw [Hk.out]; try (first | omega | rfl | decide)) (by rw [Hm.out, Hk.out]; try (first | omega | rfl | decide)), rfl⟩
  · by_cases g : 1048576 < id
    · have Hk := Lib.hid (keyI_hi g)
      generalize keyM id = km at *
      generalize keyI id = ki at *
      have h' : 0 ≤ id := by omega
      clear h
      go_enter Tryz.func87, Tryz.ntmps87
      go_wp2
      all_goals
        go_ret2
        exact ⟨ret_two (by rw [Hk.out]; try (first | omega | rfl | decide)) (by rw [Hm.out, Hk.out]; try (first | omega | rfl | decide)), rfl⟩
    · have Hk := Lib.hid (keyI_in (id := id) (by omega) (by omega))
      generalize keyM id = km at *
      generalize keyI id = ki at *
      have h' : 0 ≤ id := by omega
      have g' : id ≤ 1048576 := by omega
      clear h g
      go_enter Tryz.func87, Tryz.ntmps87
      go_wp2
      all_goals
        go_ret2
        exact ⟨ret_two (by rw [Hk.out]; try (first | omega | rfl)) (by rw [Hm.out, Hk.out]; try (first | omega | rfl)), rfl⟩

end Go.Proofs.YthhebfknikfleaaGreat
