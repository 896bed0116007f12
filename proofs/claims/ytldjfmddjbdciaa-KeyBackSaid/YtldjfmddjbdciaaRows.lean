/-
  No cell of these rows narrows 'for every input' (looked for: loops, veiled, ifaces, maps, wideKeys, modest, calm, conditions, laid).
  DERIVED. THE GIVEN ROWS OF THIS SEAT. 7 by the template 'for every input the law returns true; each argument reads behind the call as it read before'; 0 by the template 'total and deterministic' (their statements: YtldjfmddjbdciaaTotals.lean).
  GIVEN WITH THE SEED: the statements are not yours to turn. If you find one false, say at which input.
  Laid BY PROGRAM, IN A SANDBOX (cutbox-rows.mjs): the forced cells as the released guide's own fill.sh prints them over the translation 3ee1618e84a1fcc1… (all of the seat's roots in one cut). By AI agents, Wed Nov 11 2026. No macro, syntax, notation, axiom, sorry.
-/
import Derived.Test.YtldjfmddjbdciaaChecked
import GoSem.Claim
import GoSem.ClaimJoined
import GoSem.ClaimMapViews
import Derived.JoinedTies
import Derived.KernelRfl
namespace Go.Proofs.Ytldjfmddjbdciaa
/- THE CELL 'sum', in the pinned program and in every row, IS THE sha256 OF THE DUMP (.gsa) THAT YtldjfmddjbdciaaProg.lean LOADS. Nothing in Lean hashes anything: it is a label: what it is worth is what the hold of that sum in a sandbox is worth. -/
noncomputable def Try.pinned : Pinned := { name := "ytldjfmddjbdciaa", sum := "3ee1618e84a1fcc16e2cd86bdf05c1d7ef8f08dcdf1c0a09dcda618e2a78cf6f", checked := Try.checked }
namespace Rows
def none {H : Type} : Left H := { results := [], args := [] }

/-- 'remudalaw12.KeyTells': WHATEVER THE INPUT: true; the input reads as it did. -/
def keyTellsSpec : ChangeSpec := { name := "keyTells", fn := fun _ => fun
  | [d1, d2, d3] => { results := [.lit (.bool true)], args := [d1, d2, d3] }
  | _ => none }
def keyTellsRow : OpenClaim := { program := "ytldjfmddjbdciaa", sum := "3ee1618e84a1fcc16e2cd86bdf05c1d7ef8f08dcdf1c0a09dcda618e2a78cf6f", func := "remuda/remudalaw12.KeyTells", spec := "keyTells", unfollowed := true, recurses := true, apart := false }
def KeyTellsSaid : Prop := keyTellsRow.holds Try.pinned (OpenSpec.ofChange keyTellsSpec)

/-- ITS FALSE NEIGHBOUR: 'it returns false'. Refute it at one input. -/
def keyTellsWrong : ChangeSpec := { name := "keyTells", fn := fun _ => fun
  | [d1, d2, d3] => { results := [.lit (.bool false)], args := [d1, d2, d3] }
  | _ => none }
def KeyTellsWrongFalsely : Prop := keyTellsRow.holds Try.pinned (OpenSpec.ofChange keyTellsWrong)

/-- 'remudalaw12.KeyBack': WHATEVER THE INPUT: true; the input reads as it did. -/
def keyBackSpec : ChangeSpec := { name := "keyBack", fn := fun _ => fun
  | [d1, d2] => { results := [.lit (.bool true)], args := [d1, d2] }
  | _ => none }
def keyBackRow : OpenClaim := { program := "ytldjfmddjbdciaa", sum := "3ee1618e84a1fcc16e2cd86bdf05c1d7ef8f08dcdf1c0a09dcda618e2a78cf6f", func := "remuda/remudalaw12.KeyBack", spec := "keyBack", unfollowed := true, recurses := true, apart := false }
def KeyBackSaid : Prop := keyBackRow.holds Try.pinned (OpenSpec.ofChange keyBackSpec)

/-- ITS FALSE NEIGHBOUR: 'it returns false'. Refute it at one input. -/
def keyBackWrong : ChangeSpec := { name := "keyBack", fn := fun _ => fun
  | [d1, d2] => { results := [.lit (.bool false)], args := [d1, d2] }
  | _ => none }
def KeyBackWrongFalsely : Prop := keyBackRow.holds Try.pinned (OpenSpec.ofChange keyBackWrong)

/-- 'remudalaw34.DrainTells': WHATEVER THE INPUT: true; the input reads as it did. -/
def drainTellsSpec : ChangeSpec := { name := "drainTells", fn := fun _ => fun
  | [d1, d2, d3, d4] => { results := [.lit (.bool true)], args := [d1, d2, d3, d4] }
  | _ => none }
def drainTellsRow : OpenClaim := { program := "ytldjfmddjbdciaa", sum := "3ee1618e84a1fcc16e2cd86bdf05c1d7ef8f08dcdf1c0a09dcda618e2a78cf6f", func := "remuda/remudalaw34.DrainTells", spec := "drainTells", inPlace := ["internal/bytealg.IndexByte", "internal/bytealg.IndexByteString"], unfollowed := true, recurses := true, apart := false }
def DrainTellsSaid : Prop := drainTellsRow.holds Try.pinned (OpenSpec.ofChange drainTellsSpec)

/-- ITS FALSE NEIGHBOUR: 'it returns false'. Refute it at one input. -/
def drainTellsWrong : ChangeSpec := { name := "drainTells", fn := fun _ => fun
  | [d1, d2, d3, d4] => { results := [.lit (.bool false)], args := [d1, d2, d3, d4] }
  | _ => none }
def DrainTellsWrongFalsely : Prop := drainTellsRow.holds Try.pinned (OpenSpec.ofChange drainTellsWrong)

/-- 'remudalaw34.DrainIdle': WHATEVER THE INPUT: true; the input reads as it did. -/
def drainIdleSpec : ChangeSpec := { name := "drainIdle", fn := fun _ => fun
  | [d1, d2, d3] => { results := [.lit (.bool true)], args := [d1, d2, d3] }
  | _ => none }
def drainIdleRow : OpenClaim := { program := "ytldjfmddjbdciaa", sum := "3ee1618e84a1fcc16e2cd86bdf05c1d7ef8f08dcdf1c0a09dcda618e2a78cf6f", func := "remuda/remudalaw34.DrainIdle", spec := "drainIdle", inPlace := ["internal/bytealg.IndexByte", "internal/bytealg.IndexByteString"], unfollowed := true, recurses := true, apart := false }
def DrainIdleSaid : Prop := drainIdleRow.holds Try.pinned (OpenSpec.ofChange drainIdleSpec)

/-- ITS FALSE NEIGHBOUR: 'it returns false'. Refute it at one input. -/
def drainIdleWrong : ChangeSpec := { name := "drainIdle", fn := fun _ => fun
  | [d1, d2, d3] => { results := [.lit (.bool false)], args := [d1, d2, d3] }
  | _ => none }
def DrainIdleWrongFalsely : Prop := drainIdleRow.holds Try.pinned (OpenSpec.ofChange drainIdleWrong)

/-- 'remudalaw06.FrontEncodes': WHATEVER THE INPUT: true; the input reads as it did. -/
def frontEncodesSpec : ChangeSpec := { name := "frontEncodes", fn := fun _ => fun
  | [d1, d2] => { results := [.lit (.bool true)], args := [d1, d2] }
  | _ => none }
def frontEncodesRow : OpenClaim := { program := "ytldjfmddjbdciaa", sum := "3ee1618e84a1fcc16e2cd86bdf05c1d7ef8f08dcdf1c0a09dcda618e2a78cf6f", func := "remuda/remudalaw06.FrontEncodes", spec := "frontEncodes", inPlace := ["internal/bytealg.IndexByte", "internal/bytealg.IndexByteString"], unfollowed := true, recurses := true, apart := false }
def FrontEncodesSaid : Prop := frontEncodesRow.holds Try.pinned (OpenSpec.ofChange frontEncodesSpec)

/-- ITS FALSE NEIGHBOUR: 'it returns false'. Refute it at one input. -/
def frontEncodesWrong : ChangeSpec := { name := "frontEncodes", fn := fun _ => fun
  | [d1, d2] => { results := [.lit (.bool false)], args := [d1, d2] }
  | _ => none }
def FrontEncodesWrongFalsely : Prop := frontEncodesRow.holds Try.pinned (OpenSpec.ofChange frontEncodesWrong)

/-- 'remudalaw06.FrontDecodes': WHATEVER THE INPUT: true; the input reads as it did. -/
def frontDecodesSpec : ChangeSpec := { name := "frontDecodes", fn := fun _ => fun
  | [d] => { results := [.lit (.bool true)], args := [d] }
  | _ => none }
def frontDecodesRow : OpenClaim := { program := "ytldjfmddjbdciaa", sum := "3ee1618e84a1fcc16e2cd86bdf05c1d7ef8f08dcdf1c0a09dcda618e2a78cf6f", func := "remuda/remudalaw06.FrontDecodes", spec := "frontDecodes", inPlace := ["internal/bytealg.IndexByte", "internal/bytealg.IndexByteString"], unfollowed := true, recurses := true, apart := false }
def FrontDecodesSaid : Prop := frontDecodesRow.holds Try.pinned (OpenSpec.ofChange frontDecodesSpec)

/-- ITS FALSE NEIGHBOUR: 'it returns false'. Refute it at one input. -/
def frontDecodesWrong : ChangeSpec := { name := "frontDecodes", fn := fun _ => fun
  | [d] => { results := [.lit (.bool false)], args := [d] }
  | _ => none }
def FrontDecodesWrongFalsely : Prop := frontDecodesRow.holds Try.pinned (OpenSpec.ofChange frontDecodesWrong)

/-- 'remudalaw06.FrontBack': WHATEVER THE INPUT: true; the input reads as it did. -/
def frontBackSpec : ChangeSpec := { name := "frontBack", fn := fun _ => fun
  | [d1, d2] => { results := [.lit (.bool true)], args := [d1, d2] }
  | _ => none }
def frontBackRow : OpenClaim := { program := "ytldjfmddjbdciaa", sum := "3ee1618e84a1fcc16e2cd86bdf05c1d7ef8f08dcdf1c0a09dcda618e2a78cf6f", func := "remuda/remudalaw06.FrontBack", spec := "frontBack", inPlace := ["internal/bytealg.IndexByte", "internal/bytealg.IndexByteString"], unfollowed := true, recurses := true, apart := false }
def FrontBackSaid : Prop := frontBackRow.holds Try.pinned (OpenSpec.ofChange frontBackSpec)

/-- ITS FALSE NEIGHBOUR: 'it returns false'. Refute it at one input. -/
def frontBackWrong : ChangeSpec := { name := "frontBack", fn := fun _ => fun
  | [d1, d2] => { results := [.lit (.bool false)], args := [d1, d2] }
  | _ => none }
def FrontBackWrongFalsely : Prop := frontBackRow.holds Try.pinned (OpenSpec.ofChange frontBackWrong)

/- THE SECOND FORM. 'bulk': how many values and letters a reading holds, each counted each time it is reached (what is shared counts as often as it is met; a slice's spare places count too). A statement '..UptoSaid' is the law's where the arguments, and the package variables that the reading takes, are together of bulk at most 1048576: NARROWER than '..Said'. Prove '..Said' where nothing that the law and all that it calls make is longer than what came in: it says more and counts as full. Else prove '..UptoSaid'. A law counts once. -/
mutual
def uptoBulk {H : Type} : DataW H → Nat
  | .lit (.string bytes) => bytes.length + 1
  | .lit _ => 1
  | .nil => 1
  | .ptr d => uptoBulk d + 1
  | .slice elems spare => uptoBulkAll elems + uptoBulkAll spare + 1
  | .agg parts => uptoBulkAll parts + 1
  | .iface _ d => uptoBulk d + 1
  | .map entries => uptoBulkEntries entries + 1
  | .held _ => 1
def uptoBulkAll {H : Type} : List (DataW H) → Nat
  | [] => 0
  | d :: r => uptoBulk d + uptoBulkAll r
def uptoBulkEntries {H : Type} : List (Lit × DataW H) → Nat
  | [] => 0
  | x :: r => uptoBulkEntry x + uptoBulkEntries r
def uptoBulkEntry {H : Type} : Lit × DataW H → Nat
  | (.string bytes, d) => bytes.length + uptoBulk d + 1
  | (_, d) => uptoBulk d + 1
 end
def uptoSmall : (H : Type) → List (DataW H) → Bool := fun _ ds => decide (uptoBulkAll ds ≤ 1048576)
def OpenSpec.upto (s : _root_.Go.ChangeSpec) : _root_.Go.OpenSpec := { _root_.Go.OpenSpec.ofChange s with cond := some uptoSmall }

/-- 'remudalaw12.KeyTells', WHERE WHAT IT READS IS OF BULK AT MOST 1048576: true; the input reads as it did. -/
def keyTellsUptoRow : OpenClaim := { program := "ytldjfmddjbdciaa", sum := "3ee1618e84a1fcc16e2cd86bdf05c1d7ef8f08dcdf1c0a09dcda618e2a78cf6f", func := "remuda/remudalaw12.KeyTells", spec := "keyTells", unfollowed := true, recurses := true, apart := false, narrowed := true }
def KeyTellsUptoSaid : Prop := keyTellsUptoRow.holds Try.pinned (OpenSpec.upto keyTellsSpec)

/-- 'remudalaw12.KeyBack', WHERE WHAT IT READS IS OF BULK AT MOST 1048576: true; the input reads as it did. -/
def keyBackUptoRow : OpenClaim := { program := "ytldjfmddjbdciaa", sum := "3ee1618e84a1fcc16e2cd86bdf05c1d7ef8f08dcdf1c0a09dcda618e2a78cf6f", func := "remuda/remudalaw12.KeyBack", spec := "keyBack", unfollowed := true, recurses := true, apart := false, narrowed := true }
def KeyBackUptoSaid : Prop := keyBackUptoRow.holds Try.pinned (OpenSpec.upto keyBackSpec)

/-- 'remudalaw34.DrainTells', WHERE WHAT IT READS IS OF BULK AT MOST 1048576: true; the input reads as it did. -/
def drainTellsUptoRow : OpenClaim := { program := "ytldjfmddjbdciaa", sum := "3ee1618e84a1fcc16e2cd86bdf05c1d7ef8f08dcdf1c0a09dcda618e2a78cf6f", func := "remuda/remudalaw34.DrainTells", spec := "drainTells", inPlace := ["internal/bytealg.IndexByte", "internal/bytealg.IndexByteString"], unfollowed := true, recurses := true, apart := false, narrowed := true }
def DrainTellsUptoSaid : Prop := drainTellsUptoRow.holds Try.pinned (OpenSpec.upto drainTellsSpec)

/-- 'remudalaw34.DrainIdle', WHERE WHAT IT READS IS OF BULK AT MOST 1048576: true; the input reads as it did. -/
def drainIdleUptoRow : OpenClaim := { program := "ytldjfmddjbdciaa", sum := "3ee1618e84a1fcc16e2cd86bdf05c1d7ef8f08dcdf1c0a09dcda618e2a78cf6f", func := "remuda/remudalaw34.DrainIdle", spec := "drainIdle", inPlace := ["internal/bytealg.IndexByte", "internal/bytealg.IndexByteString"], unfollowed := true, recurses := true, apart := false, narrowed := true }
def DrainIdleUptoSaid : Prop := drainIdleUptoRow.holds Try.pinned (OpenSpec.upto drainIdleSpec)

/-- 'remudalaw06.FrontEncodes', WHERE WHAT IT READS IS OF BULK AT MOST 1048576: true; the input reads as it did. -/
def frontEncodesUptoRow : OpenClaim := { program := "ytldjfmddjbdciaa", sum := "3ee1618e84a1fcc16e2cd86bdf05c1d7ef8f08dcdf1c0a09dcda618e2a78cf6f", func := "remuda/remudalaw06.FrontEncodes", spec := "frontEncodes", inPlace := ["internal/bytealg.IndexByte", "internal/bytealg.IndexByteString"], unfollowed := true, recurses := true, apart := false, narrowed := true }
def FrontEncodesUptoSaid : Prop := frontEncodesUptoRow.holds Try.pinned (OpenSpec.upto frontEncodesSpec)

/-- 'remudalaw06.FrontDecodes', WHERE WHAT IT READS IS OF BULK AT MOST 1048576: true; the input reads as it did. -/
def frontDecodesUptoRow : OpenClaim := { program := "ytldjfmddjbdciaa", sum := "3ee1618e84a1fcc16e2cd86bdf05c1d7ef8f08dcdf1c0a09dcda618e2a78cf6f", func := "remuda/remudalaw06.FrontDecodes", spec := "frontDecodes", inPlace := ["internal/bytealg.IndexByte", "internal/bytealg.IndexByteString"], unfollowed := true, recurses := true, apart := false, narrowed := true }
def FrontDecodesUptoSaid : Prop := frontDecodesUptoRow.holds Try.pinned (OpenSpec.upto frontDecodesSpec)

/-- 'remudalaw06.FrontBack', WHERE WHAT IT READS IS OF BULK AT MOST 1048576: true; the input reads as it did. -/
def frontBackUptoRow : OpenClaim := { program := "ytldjfmddjbdciaa", sum := "3ee1618e84a1fcc16e2cd86bdf05c1d7ef8f08dcdf1c0a09dcda618e2a78cf6f", func := "remuda/remudalaw06.FrontBack", spec := "frontBack", inPlace := ["internal/bytealg.IndexByte", "internal/bytealg.IndexByteString"], unfollowed := true, recurses := true, apart := false, narrowed := true }
def FrontBackUptoSaid : Prop := frontBackUptoRow.holds Try.pinned (OpenSpec.upto frontBackSpec)

end Rows
end Go.Proofs.Ytldjfmddjbdciaa
