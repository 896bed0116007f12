/-
  The walk of RingNobody (layer 36).
-/
import Derived.Test.YthdafefhcdlkbaaRingF
namespace Go.Proofs.Ythdafefhcdlkbaa
open Go.RowKit

theorem Touch.trans' {a b c : World} (h : Touch (fun _ => False) a b) (k : Touch (fun _ => False) b c) : Touch (fun _ => False) a c := h.trans k

theorem ringLen_nil (w : World) :
    Calls Try.prog 13 #[.pointer none] w fun e w' => e = .returned (.int .i64 0) ∧ w = w' := by
  go_enter Try.func13, Try.ntmps13
  go_wp2
  go_ret
  exact ⟨rfl, rfl⟩

theorem ringRoom_zero (rb : Nat) (w : World) (h : ∀ i, w.cell? ⟨rb, i, none⟩ = (#[.slice none 0 0, .int .i64 0, .int .i64 0, .int .i64 0] : Array Value)[i]?) :
    Calls Try.prog 14 #[.pointer (some ⟨rb, 0, none⟩)] w fun e w' => e = .returned (.int .i64 0) ∧ Touch (fun _ => False) w w' := by
  go_enter Try.func14, Try.ntmps14
  go_wp2_with fail
  go_quiet (fail)
  go_wp2
  go_ret
  exact ⟨rfl, (Touch.refl _ _).drewN _⟩

set_option maxRecDepth 100000 in
theorem ringNobody_walk (p : Option Addr) (n c : Nat) (m : Int) (w : World) :
    Calls Try.prog 3 #[.slice p n c, .int .i64 m] w fun e w' => e = .returned (.bool true) ∧ Below w.heap.size w w' := by
  go_enter Try.func3, Try.ntmps3
  go_wp2_with fail
  refine (put_nil p n c _).mono ?_
  rintro e w1 ⟨rfl, rfl⟩
  go_wp2_with fail
  have hb : Blk (w.alloc (.cells #[.slice none 0 0, .int .i64 0, .int .i64 0, .int .i64 0] 25)) w.heap.size 25 #[.slice none 0 0, .int .i64 0, .int .i64 0, .int .i64 0] := Blk.new w _ _
  have Ht := Lib.hid ((Touch.refl (fun _ => False) w).alloc (.cells #[.slice none 0 0, .int .i64 0, .int .i64 0, .int .i64 0] 25))
  generalize w.alloc (.cells #[.slice none 0 0, .int .i64 0, .int .i64 0, .int .i64 0] 25) = w1 at *
  have hc := hb.cell
  clear hb
  refine (put_zero _ p n c _ (hc 3)).mono ?_
  rintro e w2 ⟨rfl, rfl⟩
  go_wp2_with fail
  refine (take_nil m _).mono ?_
  rintro e w2 ⟨rfl, rfl⟩
  go_wp2_with fail
  refine (take_none _ 0 m _ (hc 2) (.inr rfl)).mono ?_
  rintro e w2 ⟨rfl, rfl⟩
  go_wp2_with fail
  refine (ringLen_nil _).mono ?_
  rintro e w2 ⟨rfl, rfl⟩
  go_wp2_with fail
  refine (ringRoom_zero _ _ hc).mono ?_
  rintro e w2 ⟨rfl, ht2⟩
  have Ht2 := Lib.hid ht2
  clear ht2
  go_wp2_with fail
  refine (awake_yes _).mono ?_
  rintro e w3 ⟨rfl, ht3⟩
  have Ht3 := Lib.hid ht3
  clear ht3
  go_wp2
  go_ret
  exact ⟨rfl, ((Ht.out.trans' Ht2.out).trans' Ht3.out).below (Nat.le_refl _) (fun k h => h.elim)⟩

end Go.Proofs.Ythdafefhcdlkbaa
