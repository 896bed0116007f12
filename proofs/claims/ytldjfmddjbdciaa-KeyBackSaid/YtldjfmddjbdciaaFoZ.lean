/-
  Messages of clients (layer 6): Decode as a plain law, and what it leaves.
-/
import Derived.Test.YtldjfmddjbdciaaFoY
namespace Go.Proofs.Ytldjfmddjbdciaa
open Go.RowKit
set_option linter.unusedVariables false
set_option linter.unusedSimpArgs false

/-- Decode: the message and the error. -/
def decF (k : Int) (L : List UInt8) : FoV × Int :=
  if knownV k = 0 then (foZero 0, 4)
  else if knownV k = 2 then (foZero 0, 9)
  else match readP k L with
    | some (f, []) => if checkF f = 0 then (f, 0) else (foZero 0, 4)
    | _ => (foZero 0, 4)
/-- What Decode leaves. -/
def DecR (k : Int) (L : List UInt8) (w : World) (e : Ending) (w' : World) : Prop :=
  ∃ a, e = .returned (.tuple #[foArg (decF k L).1 a, .int .i64 (decF k L).2]) ∧ FoL (fun j => w.heap.size ≤ j) w' (decF k L).1 a ∧ Below w.heap.size w w'
theorem dec_unknown {k : Int} {L : List UInt8} (h : knownV k = 0) : decF k L = (foZero 0, 4) := by unfold decF; rw [if_pos h]
theorem dec_other {k : Int} {L : List UInt8} (h : knownV k = 2) : decF k L = (foZero 0, 9) := by unfold decF; rw [if_neg (by omega), if_pos h]
/-- A scan that ended badly, or with something left. -/
theorem dec_bad {k : Int} {L L' : List UInt8} {f : FoV} {b : Bool} (h : knownV k = 1) (hs : StepO L false (readP k) f L' b) (hb : (!b && L'.isEmpty) = false) : decF k L = (foZero 0, 4) := by
  unfold decF
  rw [if_neg (by omega), if_neg (by omega)]
  cases b with
  | true =>
    rcases hs.2.1 rfl with e | e
    · cases e
    · rw [e]
  | false =>
    rw [(hs.1 rfl).2]
    cases L' with
    | nil => cases hb
    | cons x T => rfl
theorem dec_ok {k : Int} {L : List UInt8} {f : FoV} (h : knownV k = 1) (hs : StepO L false (readP k) f [] false) : decF k L = (if checkF f = 0 then (f, 0) else (foZero 0, 4)) := by
  unfold decF
  rw [if_neg (by omega), if_neg (by omega), (hs.1 rfl).2]

end Go.Proofs.Ytldjfmddjbdciaa
