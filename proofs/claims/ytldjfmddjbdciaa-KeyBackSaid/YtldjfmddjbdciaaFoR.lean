/-
  Messages of clients (layer 6): what a body says, as a plain law.
-/
import Derived.Test.YtldjfmddjbdciaaFoA
import Derived.Test.YtldjfmddjbdciaaPackC
namespace Go.Proofs.Ytldjfmddjbdciaa
open Go.RowKit
set_option linter.unusedVariables false
set_option linter.unusedSimpArgs false

/-- What is left behind a step; none where it can't be had. -/
def numP (z : Nat) (L : List UInt8) : Option (Int × List UInt8) := if numOk L false z = true then some (numV L false z, L.drop z) else none
def textQ (L : List UInt8) : Option (ByteArray × List UInt8) := if textOk L false = true then some (textV L false, L.drop ((Lib.indexByte L 0).toNat + 1)) else none
def takeP (n : Int) (L : List UInt8) : Option (List UInt8 × List UInt8) := if takeOk L false n = true then some (takeV L false n, L.drop n.toNat) else none
/-- So many numbers. -/
def numsP (z : Nat) : Nat → List UInt8 → Option (List Int × List UInt8)
  | 0, L => some ([], L)
  | n + 1, L => (numP z L).bind fun a => (numsP z n a.2).bind fun b => some (a.1 :: b.1, b.2)
def listQ (z : Nat) (L : List UInt8) : Option (List Int × List UInt8) := (numP 2 L).bind fun a => numsP z a.1.toNat a.2
/-- A value. -/
def cellP (L : List UInt8) : Option (CeV × List UInt8) := (numP 4 L).bind fun a => if a.1 = 4294967295 then some (⟨true, []⟩, a.2) else (takeP a.1 a.2).bind fun b => some (⟨false, b.1⟩, b.2)
def cellsP : Nat → List UInt8 → Option (List CeV × List UInt8)
  | 0, L => some ([], L)
  | n + 1, L => (cellP L).bind fun a => (cellsP n a.2).bind fun b => some (a.1 :: b.1, b.2)
def rowQ (L : List UInt8) : Option (List CeV × List UInt8) := (numP 2 L).bind fun a => cellsP a.1.toNat a.2

/-- A step over a scan: what it answers where all goes well; where it is bad nothing is said. -/
def StepO {α : Type} (L : List UInt8) (bad : Bool) (P : List UInt8 → Option (α × List UInt8)) (x : α) (L' : List UInt8) (bad' : Bool) : Prop :=
  (bad' = false → bad = false ∧ P L = some (x, L')) ∧ (bad' = true → bad = true ∨ P L = none) ∧ L'.length ≤ L.length

end Go.Proofs.Ytldjfmddjbdciaa
