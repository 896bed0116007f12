/-
  The walk of RingLives, whatever size (layer 36).
-/
import Derived.Test.YthdafefhcdlkbaaRingK
namespace Go.Proofs.Ythdafefhcdlkbaa
open Go.RowKit

set_option maxRecDepth 100000 in
set_option maxHeartbeats 2000000 in
theorem ringLives_no (m : Int) (hm : m < 1 ∨ 1048576 < m) (p : Option Addr) (c : Nat) (xs : List DoL) (w : World) (hx : SliceR 3 DoR w.heap.size w [.slice p xs.length c] xs) :
    Calls Try.prog 4 #[.int .i64 m, .slice p xs.length c] w fun e w' => e = .returned (.bool true) ∧ Below w.heap.size w w' := by
  have Hx := Lib.hid hx
  obtain ⟨p', c', h1, hlc, hcm, hh⟩ := hx
  clear hh
  simp only [List.cons.injEq, Value.slice.injEq, and_true] at h1
  obtain ⟨rfl, h9, rfl⟩ := h1
  clear h9
  unfold maxLen at hcm
  have Hm := Lib.hid hm
  clear hm
  go_enter Try.func4, Try.ntmps4
  go_wp2_with fail
  refine (ringNew_no m w Hm.out).mono ?_
  rintro e w0 ⟨rfl, rfl⟩
  go_wp2_with fail
  refine (refNew_no m _ Hm.out).mono ?_
  rintro e w0 ⟨rfl, rfl⟩
  go_wp2_with fail
  go_loopw [9, 10, 11, 34] (fun _ _ _ i wr => i = .int .i64 0 ∧ wr = w) (fun _ _ _ i _ => 0)
  case atStart => exact ⟨rfl, rfl⟩
  case round =>
    obtain ⟨rfl, rfl⟩ := hrel
    by_cases hlt : 0 < xs.length
    · obtain ⟨p', c', h1, _, _, h4⟩ := Hx.out
      simp only [List.cons.injEq, Value.slice.injEq, and_true] at h1
      obtain ⟨rfl, h9, rfl⟩ := h1
      clear h9
      obtain ⟨b', o, es, rfl, hbB, hel, hcell, v', rfl, pb, cb, hv, hl1, hl2, hin, hin2⟩ := h4 0 xs[0] (List.getElem?_eq_getElem hlt)
      simp only [List.cons.injEq, and_true] at hv
      subst hv
      have c0 := hcell 0 _ rfl
      have c1 := hcell 1 _ rfl
      have c2 := hcell 2 _ rfl
      simp only [Nat.zero_mul, Nat.add_zero] at c0 c1 c2
      clear hcell h4 hel hin hin2
      generalize xs[0] = x at c0 c1 c2 hl1 hl2
      obtain ⟨xt, xn, xb'⟩ := x
      dsimp only at c0 c1 c2 hl1 hl2
      unfold maxLen at hl2
      go_wp2_with fail
      refine (awake_yes _).mono ?_
      rintro e w3 ⟨rfl, ht3⟩
      have Ht3 := Lib.hid ht3
      clear ht3
      go_wp2
      go_ret
      exact ⟨rfl, ((Below.refl _ _).alloc (Nat.le_refl _) _).trans (Ht3.out.below (by simp) (fun k e => e.elim))⟩
    · go_wp2_with fail
      refine (awake_yes _).mono ?_
      rintro e w3 ⟨rfl, ht3⟩
      have Ht3 := Lib.hid ht3
      clear ht3
      go_wp2
      go_ret
      exact ⟨rfl, Ht3.out.below (Nat.le_refl _) (fun k e => e.elim)⟩

theorem ringLives_read (a : Int) (p : Option Addr) (n c : Nat) (xs : List DoL) (w : World) (hx : SliceR 3 DoR w.heap.size w [.slice p n c] xs) :
    Calls Try.prog 4 #[.int .i64 a, .slice p n c] w fun e w' => e = .returned (.bool true) ∧ Below w.heap.size w w' := by
  obtain ⟨p', c', h1, _⟩ := id hx
  simp only [List.cons.injEq, Value.slice.injEq, and_true] at h1
  obtain ⟨rfl, rfl, rfl⟩ := h1
  by_cases h : a < 1 ∨ 1048576 < a
  · exact ringLives_no a h p c xs w hx
  · obtain ⟨m, rfl⟩ := Int.eq_ofNat_of_zero_le (show 0 ≤ a by omega)
    exact ringLives_ok m (by omega) (by omega) p c xs w hx

end Go.Proofs.Ythdafefhcdlkbaa
