/-
  The contracts of package ring (layer 36): New, Len, Room.
-/
import Derived.Test.YthdafefhcdlkbaaCopy
import Derived.Test.YthdafefhcdlkbaaRingPlain
import Derived.BigQuiet
import Derived.Deep.QuietTactic
namespace Go.Proofs.Ythdafefhcdlkbaa
open Go.RowKit

/-- A ring in memory: its struct in block rb, its array (where there is one) in block g. -/
def RingB (w : World) (rb g : Nat) (L : List UInt8) (most : Nat) (v : Value) (bs : List UInt8) (a : Nat) : Prop :=
  Blk w rb 25 #[v, .int .i64 (a : Nat), .int .i64 (L.length : Nat), .int .i64 (most : Nat)] ∧ 1 ≤ most ∧ most ≤ 1048576 ∧ bs.length ≤ most ∧ RingIs bs a L ∧ g < w.heap.size ∧
    ((bs = [] ∧ v = .slice none 0 0) ∨ (bs ≠ [] ∧ v = .slice (some ⟨g, 0, none⟩) bs.length bs.length ∧ Blk w g 5 (cellsB bs) ∧ g ≠ rb))
def RingO (w : World) (rb g : Nat) (L : List UInt8) (most : Nat) : Prop := ∃ v bs a, RingB w rb g L most v bs a

theorem RingO.drewN {w : World} {rb g : Nat} {L : List UInt8} {most : Nat} (h : RingO w rb g L most) (n : Nat) : RingO (w.drewN n) rb g L most := h

theorem RingO.touch {w w' : World} {rb g : Nat} {L : List UInt8} {most : Nat} {p : Nat → Prop} (h : RingO w rb g L most) (ht : Touch p w w') (h1 : ¬ p rb) (h2 : ¬ p g) : RingO w' rb g L most := by
  obtain ⟨v, bs, a, hb, h3, h4, h5, h6, hg, h7⟩ := h
  refine ⟨v, bs, a, ht.blk hb h1, h3, h4, h5, h6, Nat.lt_of_lt_of_le hg ht.size, ?_⟩
  rcases h7 with h7 | ⟨e1, e2, e3, e4⟩
  · exact .inl h7
  · exact .inr ⟨e1, e2, ht.blk e3 h2, e4⟩

theorem RingO.lt {w : World} {rb g : Nat} {L : List UInt8} {most : Nat} (h : RingO w rb g L most) : rb < w.heap.size := by
  obtain ⟨v, bs, a, hb, _⟩ := h
  exact hb.lt

theorem RingO.ltg {w : World} {rb g : Nat} {L : List UInt8} {most : Nat} (h : RingO w rb g L most) : g < w.heap.size := by
  obtain ⟨v, bs, a, _, _, _, _, _, h, _⟩ := h
  exact h

theorem ringNew_no (n : Int) (w : World) (h : n < 1 ∨ 1048576 < n) :
    Calls Try.prog 16 #[.int .i64 n] w fun e w' => e = .returned (.tuple #[.pointer none, .int .i64 1]) ∧ w = w' := by
  rcases h with h | h
  all_goals
    by_cases h2 : n < 1
    all_goals
      go_enter Try.func16, Try.ntmps16
      go_wp2
      go_ret2
      exact ⟨rfl, rfl⟩

theorem ringNew_yes (n : Nat) (w : World) (h1 : 1 ≤ n) (h2 : n ≤ 1048576) :
    Calls Try.prog 16 #[.int .i64 (n : Int)] w fun e w' => e = .returned (.tuple #[.pointer (some ⟨w.heap.size, 0, none⟩), .int .i64 0]) ∧ RingO w' w.heap.size w.heap.size [] n ∧ Touch (fun _ => False) w w' := by
  go_enter Try.func16, Try.ntmps16
  go_wp2
  go_ret2
  exact ⟨rfl, ⟨_, [], 0, Blk.new w _ _, h1, h2, by simp, RingIs.nothing, by simp, .inl ⟨rfl, rfl⟩⟩, (Touch.refl _ _).alloc _⟩

theorem ringLen_any (rb g : Nat) (L : List UInt8) (most : Nat) (w : World) (h : RingO w rb g L most) :
    Calls Try.prog 13 #[.pointer (some ⟨rb, 0, none⟩)] w fun e w' => e = .returned (.int .i64 L.length) ∧ w = w' := by
  obtain ⟨v, bs, a, hb, _⟩ := h
  have hc := hb.cell
  clear hb
  go_enter Try.func13, Try.ntmps13
  go_wp2
  go_ret
  exact ⟨rfl, rfl⟩

theorem ringRoom_any (rb g : Nat) (L : List UInt8) (most : Nat) (w : World) (h : RingO w rb g L most) :
    Calls Try.prog 14 #[.pointer (some ⟨rb, 0, none⟩)] w fun e w' => e = .returned (.int .i64 ((most : Int) - L.length)) ∧ Touch (fun _ => False) w w' := by
  obtain ⟨v, bs, a, hb, h1, h2, h3, h4, _⟩ := h
  have hc := hb.cell
  have hl := h4.1
  clear hb h4
  go_enter Try.func14, Try.ntmps14
  go_wp2_with fail
  go_quiet (fail)
  go_wp2
  go_ret
  exact ⟨rfl, (Touch.refl _ _).drewN _⟩

end Go.Proofs.Ythdafefhcdlkbaa
