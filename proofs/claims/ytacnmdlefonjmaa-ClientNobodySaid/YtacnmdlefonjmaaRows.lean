/-
  No cell of these rows narrows 'for every input' (looked for: loops, veiled, ifaces, maps, wideKeys, modest, calm, conditions, laid).
  DERIVED. THE GIVEN ROWS OF THIS SEAT. 5 by the template 'for every input the law returns true; each argument reads behind the call as it read before'; 0 by the template 'total and deterministic' (their statements: YtacnmdlefonjmaaTotals.lean).
  GIVEN WITH THE SEED: the statements are not yours to turn. If you find one false, say at which input.
  Laid BY PROGRAM, IN A SANDBOX (cutbox-rows.mjs): the forced cells as the released guide's own fill.sh prints them over the translation 415eda5ca872544b… (all of the seat's roots in one cut). By AI agents, Wed Nov 11 2026. No macro, syntax, notation, axiom, sorry.
-/
import Derived.Test.YtacnmdlefonjmaaChecked
import GoSem.Claim
import GoSem.ClaimJoined
import GoSem.ClaimMapViews
import Derived.JoinedTies
import Derived.KernelRfl
namespace Go.Proofs.Ytacnmdlefonjmaa
/- THE CELL 'sum', in the pinned program and in every row, IS THE sha256 OF THE DUMP (.gsa) THAT YtacnmdlefonjmaaProg.lean LOADS. Nothing in Lean hashes anything: it is a label: what it is worth is what the hold of that sum in a sandbox is worth. -/
noncomputable def Try.pinned : Pinned := { name := "ytacnmdlefonjmaa", sum := "415eda5ca872544bc89048d081872520db2b1dab3a2b06da9467c0520c7109e0", checked := Try.checked }
namespace Rows
def none {H : Type} : Left H := { results := [], args := [] }

/-- 'remudalaw16.OverTells': WHATEVER THE INPUT: true; the input reads as it did. -/
def overTellsSpec : ChangeSpec := { name := "overTells", fn := fun _ => fun
  | [d1, d2, d3, d4] => { results := [.lit (.bool true)], args := [d1, d2, d3, d4] }
  | _ => none }
def overTellsRow : OpenClaim := { program := "ytacnmdlefonjmaa", sum := "415eda5ca872544bc89048d081872520db2b1dab3a2b06da9467c0520c7109e0", func := "remuda/remudalaw16.OverTells", spec := "overTells", unfollowed := true, recurses := true, apart := false }
def OverTellsSaid : Prop := overTellsRow.holds Try.pinned (OpenSpec.ofChange overTellsSpec)

/-- ITS FALSE NEIGHBOUR: 'it returns false'. Refute it at one input. -/
def overTellsWrong : ChangeSpec := { name := "overTells", fn := fun _ => fun
  | [d1, d2, d3, d4] => { results := [.lit (.bool false)], args := [d1, d2, d3, d4] }
  | _ => none }
def OverTellsWrongFalsely : Prop := overTellsRow.holds Try.pinned (OpenSpec.ofChange overTellsWrong)

/-- 'remudalaw16.OverApplies': WHATEVER THE INPUT: true; the input reads as it did. -/
def overAppliesSpec : ChangeSpec := { name := "overApplies", fn := fun _ => fun
  | [d1, d2, d3, d4] => { results := [.lit (.bool true)], args := [d1, d2, d3, d4] }
  | _ => none }
def overAppliesRow : OpenClaim := { program := "ytacnmdlefonjmaa", sum := "415eda5ca872544bc89048d081872520db2b1dab3a2b06da9467c0520c7109e0", func := "remuda/remudalaw16.OverApplies", spec := "overApplies", unfollowed := true, recurses := true, apart := false }
def OverAppliesSaid : Prop := overAppliesRow.holds Try.pinned (OpenSpec.ofChange overAppliesSpec)

/-- ITS FALSE NEIGHBOUR: 'it returns false'. Refute it at one input. -/
def overAppliesWrong : ChangeSpec := { name := "overApplies", fn := fun _ => fun
  | [d1, d2, d3, d4] => { results := [.lit (.bool false)], args := [d1, d2, d3, d4] }
  | _ => none }
def OverAppliesWrongFalsely : Prop := overAppliesRow.holds Try.pinned (OpenSpec.ofChange overAppliesWrong)

/-- 'remudalaw16.OverLater': WHATEVER THE INPUT: true; the input reads as it did. -/
def overLaterSpec : ChangeSpec := { name := "overLater", fn := fun _ => fun
  | [d1, d2, d3] => { results := [.lit (.bool true)], args := [d1, d2, d3] }
  | _ => none }
def overLaterRow : OpenClaim := { program := "ytacnmdlefonjmaa", sum := "415eda5ca872544bc89048d081872520db2b1dab3a2b06da9467c0520c7109e0", func := "remuda/remudalaw16.OverLater", spec := "overLater", unfollowed := true, recurses := true, apart := false }
def OverLaterSaid : Prop := overLaterRow.holds Try.pinned (OpenSpec.ofChange overLaterSpec)

/-- ITS FALSE NEIGHBOUR: 'it returns false'. Refute it at one input. -/
def overLaterWrong : ChangeSpec := { name := "overLater", fn := fun _ => fun
  | [d1, d2, d3] => { results := [.lit (.bool false)], args := [d1, d2, d3] }
  | _ => none }
def OverLaterWrongFalsely : Prop := overLaterRow.holds Try.pinned (OpenSpec.ofChange overLaterWrong)

/-- 'remudalaw16.OverNobody': WHATEVER THE INPUT: true; the input reads as it did. -/
def overNobodySpec : ChangeSpec := { name := "overNobody", fn := fun _ => fun
  | [d1, d2, d3] => { results := [.lit (.bool true)], args := [d1, d2, d3] }
  | _ => none }
def overNobodyRow : OpenClaim := { program := "ytacnmdlefonjmaa", sum := "415eda5ca872544bc89048d081872520db2b1dab3a2b06da9467c0520c7109e0", func := "remuda/remudalaw16.OverNobody", spec := "overNobody", unfollowed := true, recurses := true, apart := false }
def OverNobodySaid : Prop := overNobodyRow.holds Try.pinned (OpenSpec.ofChange overNobodySpec)

/-- ITS FALSE NEIGHBOUR: 'it returns false'. Refute it at one input. -/
def overNobodyWrong : ChangeSpec := { name := "overNobody", fn := fun _ => fun
  | [d1, d2, d3] => { results := [.lit (.bool false)], args := [d1, d2, d3] }
  | _ => none }
def OverNobodyWrongFalsely : Prop := overNobodyRow.holds Try.pinned (OpenSpec.ofChange overNobodyWrong)

/-- 'remudalaw39.ClientNobody': WHATEVER THE INPUT: true; the input reads as it did. -/
def clientNobodySpec : ChangeSpec := { name := "clientNobody", fn := fun _ => fun
  | [d] => { results := [.lit (.bool true)], args := [d] }
  | _ => none }
def clientNobodyRow : OpenClaim := { program := "ytacnmdlefonjmaa", sum := "415eda5ca872544bc89048d081872520db2b1dab3a2b06da9467c0520c7109e0", func := "remuda/remudalaw39.ClientNobody", spec := "clientNobody", inPlace := ["internal/bytealg.IndexByte", "internal/bytealg.IndexByteString"], unfollowed := true, recurses := true, apart := false }
def ClientNobodySaid : Prop := clientNobodyRow.holds Try.pinned (OpenSpec.ofChange clientNobodySpec)

/-- ITS FALSE NEIGHBOUR: 'it returns false'. Refute it at one input. -/
def clientNobodyWrong : ChangeSpec := { name := "clientNobody", fn := fun _ => fun
  | [d] => { results := [.lit (.bool false)], args := [d] }
  | _ => none }
def ClientNobodyWrongFalsely : Prop := clientNobodyRow.holds Try.pinned (OpenSpec.ofChange clientNobodyWrong)

/- THE SECOND FORM. 'bulk': how many values and letters a reading holds, each counted each time it is reached (what is shared counts as often as it is met; a slice's spare places count too). A statement '..UptoSaid' is the law's where the arguments, and the package variables that the reading takes, are together of bulk at most 1048576: NARROWER than '..Said'. Prove '..Said' where nothing that the law and all that it calls make is longer than what came in: it says more and counts as full. Else prove '..UptoSaid'. A law counts once. -/
mutual
def uptoBulk {H : Type} : DataW H → Nat
  | .lit (.string bytes) => bytes.length + 1
  | .lit _ => 1
  | .nil => 1
  | .ptr d => uptoBulk d + 1
  | .slice elems spare => uptoBulkAll elems + uptoBulkAll spare + 1
  | .agg parts => uptoBulkAll parts + 1
  | .iface _ d => uptoBulk d + 1
  | .map entries => uptoBulkEntries entries + 1
  | .held _ => 1
def uptoBulkAll {H : Type} : List (DataW H) → Nat
  | [] => 0
  | d :: r => uptoBulk d + uptoBulkAll r
def uptoBulkEntries {H : Type} : List (Lit × DataW H) → Nat
  | [] => 0
  | x :: r => uptoBulkEntry x + uptoBulkEntries r
def uptoBulkEntry {H : Type} : Lit × DataW H → Nat
  | (.string bytes, d) => bytes.length + uptoBulk d + 1
  | (_, d) => uptoBulk d + 1
 end
def uptoSmall : (H : Type) → List (DataW H) → Bool := fun _ ds => decide (uptoBulkAll ds ≤ 1048576)
def OpenSpec.upto (s : _root_.Go.ChangeSpec) : _root_.Go.OpenSpec := { _root_.Go.OpenSpec.ofChange s with cond := some uptoSmall }

/-- 'remudalaw16.OverTells', WHERE WHAT IT READS IS OF BULK AT MOST 1048576: true; the input reads as it did. -/
def overTellsUptoRow : OpenClaim := { program := "ytacnmdlefonjmaa", sum := "415eda5ca872544bc89048d081872520db2b1dab3a2b06da9467c0520c7109e0", func := "remuda/remudalaw16.OverTells", spec := "overTells", unfollowed := true, recurses := true, apart := false, narrowed := true }
def OverTellsUptoSaid : Prop := overTellsUptoRow.holds Try.pinned (OpenSpec.upto overTellsSpec)

/-- 'remudalaw16.OverApplies', WHERE WHAT IT READS IS OF BULK AT MOST 1048576: true; the input reads as it did. -/
def overAppliesUptoRow : OpenClaim := { program := "ytacnmdlefonjmaa", sum := "415eda5ca872544bc89048d081872520db2b1dab3a2b06da9467c0520c7109e0", func := "remuda/remudalaw16.OverApplies", spec := "overApplies", unfollowed := true, recurses := true, apart := false, narrowed := true }
def OverAppliesUptoSaid : Prop := overAppliesUptoRow.holds Try.pinned (OpenSpec.upto overAppliesSpec)

/-- 'remudalaw16.OverLater', WHERE WHAT IT READS IS OF BULK AT MOST 1048576: true; the input reads as it did. -/
def overLaterUptoRow : OpenClaim := { program := "ytacnmdlefonjmaa", sum := "415eda5ca872544bc89048d081872520db2b1dab3a2b06da9467c0520c7109e0", func := "remuda/remudalaw16.OverLater", spec := "overLater", unfollowed := true, recurses := true, apart := false, narrowed := true }
def OverLaterUptoSaid : Prop := overLaterUptoRow.holds Try.pinned (OpenSpec.upto overLaterSpec)

/-- 'remudalaw16.OverNobody', WHERE WHAT IT READS IS OF BULK AT MOST 1048576: true; the input reads as it did. -/
def overNobodyUptoRow : OpenClaim := { program := "ytacnmdlefonjmaa", sum := "415eda5ca872544bc89048d081872520db2b1dab3a2b06da9467c0520c7109e0", func := "remuda/remudalaw16.OverNobody", spec := "overNobody", unfollowed := true, recurses := true, apart := false, narrowed := true }
def OverNobodyUptoSaid : Prop := overNobodyUptoRow.holds Try.pinned (OpenSpec.upto overNobodySpec)

/-- 'remudalaw39.ClientNobody', WHERE WHAT IT READS IS OF BULK AT MOST 1048576: true; the input reads as it did. -/
def clientNobodyUptoRow : OpenClaim := { program := "ytacnmdlefonjmaa", sum := "415eda5ca872544bc89048d081872520db2b1dab3a2b06da9467c0520c7109e0", func := "remuda/remudalaw39.ClientNobody", spec := "clientNobody", inPlace := ["internal/bytealg.IndexByte", "internal/bytealg.IndexByteString"], unfollowed := true, recurses := true, apart := false, narrowed := true }
def ClientNobodyUptoSaid : Prop := clientNobodyUptoRow.holds Try.pinned (OpenSpec.upto clientNobodySpec)

end Rows
end Go.Proofs.Ytacnmdlefonjmaa
