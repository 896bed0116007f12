/-
  No cell of these rows narrows 'for every input' (looked for: loops, veiled, ifaces, maps, wideKeys, modest, calm, conditions, laid).
  DERIVED. THE GIVEN ROWS OF THIS SEAT. 2 by the template 'for every input the law returns true; each argument reads behind the call as it read before'; 0 by the template 'total and deterministic' (their statements: YtacnmdlefonjmaaGreatTotals.lean).
  GIVEN WITH THE SEED: the statements are not yours to turn. If you find one false, say at which input.
  Laid BY PROGRAM, IN A SANDBOX (cutbox-rows.mjs): the forced cells as the released guide's own fill.sh prints them over the translation fe36f21a6954513d… (all of the seat's roots in one cut). By AI agents, Wed Nov 11 2026. No macro, syntax, notation, axiom, sorry.
-/
import Derived.Test.YtacnmdlefonjmaaGreatChecked
import GoSem.Claim
import GoSem.ClaimJoined
import GoSem.ClaimMapViews
import Derived.JoinedTies
import Derived.KernelRfl
namespace Go.Proofs.YtacnmdlefonjmaaGreat
/- THE CELL 'sum', in the pinned program and in every row, IS THE sha256 OF THE DUMP (.gsa) THAT YtacnmdlefonjmaaGreatProg.lean LOADS. Nothing in Lean hashes anything: it is a label: what it is worth is what the hold of that sum in a sandbox is worth. -/
noncomputable def Tryz.pinned : Pinned := { name := "ytacnmdlefonjmaagreat", sum := "fe36f21a6954513dd3f64b78aaa38a588d5c4c4c4a81189c9a5b420efa4ff472", checked := Tryz.checked }
namespace Rows
def none {H : Type} : Left H := { results := [], args := [] }

/-- 'remudalaw39.ClientLives': WHATEVER THE INPUT: true; the input reads as it did. -/
def clientLivesSpec : ChangeSpec := { name := "clientLives", fn := fun _ => fun
  | [d1, d2, d3] => { results := [.lit (.bool true)], args := [d1, d2, d3] }
  | _ => none }
def clientLivesRow : OpenClaim := { program := "ytacnmdlefonjmaagreat", sum := "fe36f21a6954513dd3f64b78aaa38a588d5c4c4c4a81189c9a5b420efa4ff472", func := "remuda/remudalaw39.ClientLives", spec := "clientLives", inPlace := ["internal/bytealg.IndexByte", "internal/bytealg.IndexByteString"], unfollowed := true, recurses := true, apart := false }
def ClientLivesSaid : Prop := clientLivesRow.holds Tryz.pinned (OpenSpec.ofChange clientLivesSpec)

/-- ITS FALSE NEIGHBOUR: 'it returns false'. Refute it at one input. -/
def clientLivesWrong : ChangeSpec := { name := "clientLives", fn := fun _ => fun
  | [d1, d2, d3] => { results := [.lit (.bool false)], args := [d1, d2, d3] }
  | _ => none }
def ClientLivesWrongFalsely : Prop := clientLivesRow.holds Tryz.pinned (OpenSpec.ofChange clientLivesWrong)

/-- 'remudalaw39.ClientPieces': WHATEVER THE INPUT: true; the input reads as it did. -/
def clientPiecesSpec : ChangeSpec := { name := "clientPieces", fn := fun _ => fun
  | [d1, d2] => { results := [.lit (.bool true)], args := [d1, d2] }
  | _ => none }
def clientPiecesRow : OpenClaim := { program := "ytacnmdlefonjmaagreat", sum := "fe36f21a6954513dd3f64b78aaa38a588d5c4c4c4a81189c9a5b420efa4ff472", func := "remuda/remudalaw39.ClientPieces", spec := "clientPieces", inPlace := ["internal/bytealg.IndexByte", "internal/bytealg.IndexByteString"], unfollowed := true, recurses := true, apart := false }
def ClientPiecesSaid : Prop := clientPiecesRow.holds Tryz.pinned (OpenSpec.ofChange clientPiecesSpec)

/-- ITS FALSE NEIGHBOUR: 'it returns false'. Refute it at one input. -/
def clientPiecesWrong : ChangeSpec := { name := "clientPieces", fn := fun _ => fun
  | [d1, d2] => { results := [.lit (.bool false)], args := [d1, d2] }
  | _ => none }
def ClientPiecesWrongFalsely : Prop := clientPiecesRow.holds Tryz.pinned (OpenSpec.ofChange clientPiecesWrong)

/- THE SECOND FORM. 'bulk': how many values and letters a reading holds, each counted each time it is reached (what is shared counts as often as it is met; a slice's spare places count too). A statement '..UptoSaid' is the law's where the arguments, and the package variables that the reading takes, are together of bulk at most 1048576: NARROWER than '..Said'. Prove '..Said' where nothing that the law and all that it calls make is longer than what came in: it says more and counts as full. Else prove '..UptoSaid'. A law counts once. -/
mutual
def uptoBulk {H : Type} : DataW H → Nat
  | .lit (.string bytes) => bytes.length + 1
  | .lit _ => 1
  | .nil => 1
  | .ptr d => uptoBulk d + 1
  | .slice elems spare => uptoBulkAll elems + uptoBulkAll spare + 1
  | .agg parts => uptoBulkAll parts + 1
  | .iface _ d => uptoBulk d + 1
  | .map entries => uptoBulkEntries entries + 1
  | .held _ => 1
def uptoBulkAll {H : Type} : List (DataW H) → Nat
  | [] => 0
  | d :: r => uptoBulk d + uptoBulkAll r
def uptoBulkEntries {H : Type} : List (Lit × DataW H) → Nat
  | [] => 0
  | x :: r => uptoBulkEntry x + uptoBulkEntries r
def uptoBulkEntry {H : Type} : Lit × DataW H → Nat
  | (.string bytes, d) => bytes.length + uptoBulk d + 1
  | (_, d) => uptoBulk d + 1
 end
def uptoSmall : (H : Type) → List (DataW H) → Bool := fun _ ds => decide (uptoBulkAll ds ≤ 1048576)
def OpenSpec.upto (s : _root_.Go.ChangeSpec) : _root_.Go.OpenSpec := { _root_.Go.OpenSpec.ofChange s with cond := some uptoSmall }

/-- 'remudalaw39.ClientLives', WHERE WHAT IT READS IS OF BULK AT MOST 1048576: true; the input reads as it did. -/
def clientLivesUptoRow : OpenClaim := { program := "ytacnmdlefonjmaagreat", sum := "fe36f21a6954513dd3f64b78aaa38a588d5c4c4c4a81189c9a5b420efa4ff472", func := "remuda/remudalaw39.ClientLives", spec := "clientLives", inPlace := ["internal/bytealg.IndexByte", "internal/bytealg.IndexByteString"], unfollowed := true, recurses := true, apart := false, narrowed := true }
def ClientLivesUptoSaid : Prop := clientLivesUptoRow.holds Tryz.pinned (OpenSpec.upto clientLivesSpec)

/-- 'remudalaw39.ClientPieces', WHERE WHAT IT READS IS OF BULK AT MOST 1048576: true; the input reads as it did. -/
def clientPiecesUptoRow : OpenClaim := { program := "ytacnmdlefonjmaagreat", sum := "fe36f21a6954513dd3f64b78aaa38a588d5c4c4c4a81189c9a5b420efa4ff472", func := "remuda/remudalaw39.ClientPieces", spec := "clientPieces", inPlace := ["internal/bytealg.IndexByte", "internal/bytealg.IndexByteString"], unfollowed := true, recurses := true, apart := false, narrowed := true }
def ClientPiecesUptoSaid : Prop := clientPiecesUptoRow.holds Tryz.pinned (OpenSpec.upto clientPiecesSpec)

end Rows
end Go.Proofs.YtacnmdlefonjmaaGreat
