/-
  No cell of these rows narrows 'for every input' (looked for: loops, veiled, ifaces, maps, wideKeys, modest, calm, conditions, laid).
  DERIVED. THE GIVEN ROWS OF THIS SEAT. 12 by the template 'for every input the law returns true; each argument reads behind the call as it read before'; 0 by the template 'total and deterministic' (their statements: YtpdkoijgemgaiaaTotals.lean).
  GIVEN WITH THE SEED: the statements are not yours to turn. If you find one false, say at which input.
  Laid BY PROGRAM, IN A SANDBOX (cutbox-rows.mjs): the forced cells as the released guide's own fill.sh prints them over the translation 97c1b9e6b94ee8a7… (all of the seat's roots in one cut). By AI agents, Wed Nov 11 2026. No macro, syntax, notation, axiom, sorry.
-/
import Derived.Test.YtpdkoijgemgaiaaChecked
import GoSem.Claim
import GoSem.ClaimJoined
import GoSem.ClaimMapViews
import Derived.JoinedTies
import Derived.KernelRfl
namespace Go.Proofs.Ytpdkoijgemgaiaa
/- THE CELL 'sum', in the pinned program and in every row, IS THE sha256 OF THE DUMP (.gsa) THAT YtpdkoijgemgaiaaProg.lean LOADS. Nothing in Lean hashes anything: it is a label: what it is worth is what the hold of that sum in a sandbox is worth. -/
noncomputable def Try.pinned : Pinned := { name := "ytpdkoijgemgaiaa", sum := "97c1b9e6b94ee8a7b927e31c77e1b461a0dbfe57a19910d2c6bacfe922d310b9", checked := Try.checked }
namespace Rows
def none {H : Type} : Left H := { results := [], args := [] }

/-- 'remudalaw21.QueueNobody': WHATEVER THE INPUT: true; the input reads as it did. -/
def queueNobodySpec : ChangeSpec := { name := "queueNobody", fn := fun _ => fun
  | [d] => { results := [.lit (.bool true)], args := [d] }
  | _ => none }
def queueNobodyRow : OpenClaim := { program := "ytpdkoijgemgaiaa", sum := "97c1b9e6b94ee8a7b927e31c77e1b461a0dbfe57a19910d2c6bacfe922d310b9", func := "remuda/remudalaw21.QueueNobody", spec := "queueNobody", unfollowed := true, recurses := true, apart := false }
def QueueNobodySaid : Prop := queueNobodyRow.holds Try.pinned (OpenSpec.ofChange queueNobodySpec)

/-- ITS FALSE NEIGHBOUR: 'it returns false'. Refute it at one input. -/
def queueNobodyWrong : ChangeSpec := { name := "queueNobody", fn := fun _ => fun
  | [d] => { results := [.lit (.bool false)], args := [d] }
  | _ => none }
def QueueNobodyWrongFalsely : Prop := queueNobodyRow.holds Try.pinned (OpenSpec.ofChange queueNobodyWrong)

/-- 'remudalaw21.QueueOrder': WHATEVER THE INPUT: true; the input reads as it did. -/
def queueOrderSpec : ChangeSpec := { name := "queueOrder", fn := fun _ => fun
  | [d1, d2] => { results := [.lit (.bool true)], args := [d1, d2] }
  | _ => none }
def queueOrderRow : OpenClaim := { program := "ytpdkoijgemgaiaa", sum := "97c1b9e6b94ee8a7b927e31c77e1b461a0dbfe57a19910d2c6bacfe922d310b9", func := "remuda/remudalaw21.QueueOrder", spec := "queueOrder", unfollowed := true, recurses := true, apart := false }
def QueueOrderSaid : Prop := queueOrderRow.holds Try.pinned (OpenSpec.ofChange queueOrderSpec)

/-- ITS FALSE NEIGHBOUR: 'it returns false'. Refute it at one input. -/
def queueOrderWrong : ChangeSpec := { name := "queueOrder", fn := fun _ => fun
  | [d1, d2] => { results := [.lit (.bool false)], args := [d1, d2] }
  | _ => none }
def QueueOrderWrongFalsely : Prop := queueOrderRow.holds Try.pinned (OpenSpec.ofChange queueOrderWrong)

/-- 'remudalaw12.KeyTells': WHATEVER THE INPUT: true; the input reads as it did. -/
def keyTellsSpec : ChangeSpec := { name := "keyTells", fn := fun _ => fun
  | [d1, d2, d3] => { results := [.lit (.bool true)], args := [d1, d2, d3] }
  | _ => none }
def keyTellsRow : OpenClaim := { program := "ytpdkoijgemgaiaa", sum := "97c1b9e6b94ee8a7b927e31c77e1b461a0dbfe57a19910d2c6bacfe922d310b9", func := "remuda/remudalaw12.KeyTells", spec := "keyTells", unfollowed := true, recurses := true, apart := false }
def KeyTellsSaid : Prop := keyTellsRow.holds Try.pinned (OpenSpec.ofChange keyTellsSpec)

/-- ITS FALSE NEIGHBOUR: 'it returns false'. Refute it at one input. -/
def keyTellsWrong : ChangeSpec := { name := "keyTells", fn := fun _ => fun
  | [d1, d2, d3] => { results := [.lit (.bool false)], args := [d1, d2, d3] }
  | _ => none }
def KeyTellsWrongFalsely : Prop := keyTellsRow.holds Try.pinned (OpenSpec.ofChange keyTellsWrong)

/-- 'remudalaw12.KeyBack': WHATEVER THE INPUT: true; the input reads as it did. -/
def keyBackSpec : ChangeSpec := { name := "keyBack", fn := fun _ => fun
  | [d1, d2] => { results := [.lit (.bool true)], args := [d1, d2] }
  | _ => none }
def keyBackRow : OpenClaim := { program := "ytpdkoijgemgaiaa", sum := "97c1b9e6b94ee8a7b927e31c77e1b461a0dbfe57a19910d2c6bacfe922d310b9", func := "remuda/remudalaw12.KeyBack", spec := "keyBack", unfollowed := true, recurses := true, apart := false }
def KeyBackSaid : Prop := keyBackRow.holds Try.pinned (OpenSpec.ofChange keyBackSpec)

/-- ITS FALSE NEIGHBOUR: 'it returns false'. Refute it at one input. -/
def keyBackWrong : ChangeSpec := { name := "keyBack", fn := fun _ => fun
  | [d1, d2] => { results := [.lit (.bool false)], args := [d1, d2] }
  | _ => none }
def KeyBackWrongFalsely : Prop := keyBackRow.holds Try.pinned (OpenSpec.ofChange keyBackWrong)

/-- 'remudalaw21.QueueSame': WHATEVER THE INPUT: true; the input reads as it did. -/
def queueSameSpec : ChangeSpec := { name := "queueSame", fn := fun _ => fun
  | [d1, d2] => { results := [.lit (.bool true)], args := [d1, d2] }
  | _ => none }
def queueSameRow : OpenClaim := { program := "ytpdkoijgemgaiaa", sum := "97c1b9e6b94ee8a7b927e31c77e1b461a0dbfe57a19910d2c6bacfe922d310b9", func := "remuda/remudalaw21.QueueSame", spec := "queueSame", unfollowed := true, recurses := true, apart := false }
def QueueSameSaid : Prop := queueSameRow.holds Try.pinned (OpenSpec.ofChange queueSameSpec)

/-- ITS FALSE NEIGHBOUR: 'it returns false'. Refute it at one input. -/
def queueSameWrong : ChangeSpec := { name := "queueSame", fn := fun _ => fun
  | [d1, d2] => { results := [.lit (.bool false)], args := [d1, d2] }
  | _ => none }
def QueueSameWrongFalsely : Prop := queueSameRow.holds Try.pinned (OpenSpec.ofChange queueSameWrong)

/-- 'remudalaw42.EventParses': WHATEVER THE INPUT: true; the input reads as it did. -/
def eventParsesSpec : ChangeSpec := { name := "eventParses", fn := fun _ => fun
  | [d] => { results := [.lit (.bool true)], args := [d] }
  | _ => none }
def eventParsesRow : OpenClaim := { program := "ytpdkoijgemgaiaa", sum := "97c1b9e6b94ee8a7b927e31c77e1b461a0dbfe57a19910d2c6bacfe922d310b9", func := "remuda/remudalaw42.EventParses", spec := "eventParses", apart := false }
def EventParsesSaid : Prop := eventParsesRow.holds Try.pinned (OpenSpec.ofChange eventParsesSpec)

/-- ITS FALSE NEIGHBOUR: 'it returns false'. Refute it at one input. -/
def eventParsesWrong : ChangeSpec := { name := "eventParses", fn := fun _ => fun
  | [d] => { results := [.lit (.bool false)], args := [d] }
  | _ => none }
def EventParsesWrongFalsely : Prop := eventParsesRow.holds Try.pinned (OpenSpec.ofChange eventParsesWrong)

/-- 'remudalaw04.FrameNobody': WHATEVER THE INPUT: true; the input reads as it did. -/
def frameNobodySpec : ChangeSpec := { name := "frameNobody", fn := fun _ => fun
  | [d] => { results := [.lit (.bool true)], args := [d] }
  | _ => none }
def frameNobodyRow : OpenClaim := { program := "ytpdkoijgemgaiaa", sum := "97c1b9e6b94ee8a7b927e31c77e1b461a0dbfe57a19910d2c6bacfe922d310b9", func := "remuda/remudalaw04.FrameNobody", spec := "frameNobody", apart := false }
def FrameNobodySaid : Prop := frameNobodyRow.holds Try.pinned (OpenSpec.ofChange frameNobodySpec)

/-- ITS FALSE NEIGHBOUR: 'it returns false'. Refute it at one input. -/
def frameNobodyWrong : ChangeSpec := { name := "frameNobody", fn := fun _ => fun
  | [d] => { results := [.lit (.bool false)], args := [d] }
  | _ => none }
def FrameNobodyWrongFalsely : Prop := frameNobodyRow.holds Try.pinned (OpenSpec.ofChange frameNobodyWrong)

/-- 'remudalaw21.QueueLives': WHATEVER THE INPUT: true; the input reads as it did. -/
def queueLivesSpec : ChangeSpec := { name := "queueLives", fn := fun _ => fun
  | [d1, d2] => { results := [.lit (.bool true)], args := [d1, d2] }
  | _ => none }
def queueLivesRow : OpenClaim := { program := "ytpdkoijgemgaiaa", sum := "97c1b9e6b94ee8a7b927e31c77e1b461a0dbfe57a19910d2c6bacfe922d310b9", func := "remuda/remudalaw21.QueueLives", spec := "queueLives", unfollowed := true, recurses := true, apart := false }
def QueueLivesSaid : Prop := queueLivesRow.holds Try.pinned (OpenSpec.ofChange queueLivesSpec)

/-- ITS FALSE NEIGHBOUR: 'it returns false'. Refute it at one input. -/
def queueLivesWrong : ChangeSpec := { name := "queueLives", fn := fun _ => fun
  | [d1, d2] => { results := [.lit (.bool false)], args := [d1, d2] }
  | _ => none }
def QueueLivesWrongFalsely : Prop := queueLivesRow.holds Try.pinned (OpenSpec.ofChange queueLivesWrong)

/-- 'remudalaw42.EventBack': WHATEVER THE INPUT: true; the input reads as it did. -/
def eventBackSpec : ChangeSpec := { name := "eventBack", fn := fun _ => fun
  | [d] => { results := [.lit (.bool true)], args := [d] }
  | _ => none }
def eventBackRow : OpenClaim := { program := "ytpdkoijgemgaiaa", sum := "97c1b9e6b94ee8a7b927e31c77e1b461a0dbfe57a19910d2c6bacfe922d310b9", func := "remuda/remudalaw42.EventBack", spec := "eventBack", apart := false }
def EventBackSaid : Prop := eventBackRow.holds Try.pinned (OpenSpec.ofChange eventBackSpec)

/-- ITS FALSE NEIGHBOUR: 'it returns false'. Refute it at one input. -/
def eventBackWrong : ChangeSpec := { name := "eventBack", fn := fun _ => fun
  | [d] => { results := [.lit (.bool false)], args := [d] }
  | _ => none }
def EventBackWrongFalsely : Prop := eventBackRow.holds Try.pinned (OpenSpec.ofChange eventBackWrong)

/-- 'remudalaw42.EventCodes': WHATEVER THE INPUT: true; the input reads as it did. -/
def eventCodesSpec : ChangeSpec := { name := "eventCodes", fn := fun _ => fun
  | [d1, d2, d3] => { results := [.lit (.bool true)], args := [d1, d2, d3] }
  | _ => none }
def eventCodesRow : OpenClaim := { program := "ytpdkoijgemgaiaa", sum := "97c1b9e6b94ee8a7b927e31c77e1b461a0dbfe57a19910d2c6bacfe922d310b9", func := "remuda/remudalaw42.EventCodes", spec := "eventCodes", apart := false }
def EventCodesSaid : Prop := eventCodesRow.holds Try.pinned (OpenSpec.ofChange eventCodesSpec)

/-- ITS FALSE NEIGHBOUR: 'it returns false'. Refute it at one input. -/
def eventCodesWrong : ChangeSpec := { name := "eventCodes", fn := fun _ => fun
  | [d1, d2, d3] => { results := [.lit (.bool false)], args := [d1, d2, d3] }
  | _ => none }
def EventCodesWrongFalsely : Prop := eventCodesRow.holds Try.pinned (OpenSpec.ofChange eventCodesWrong)

/-- 'remudalaw04.FrameBytes': WHATEVER THE INPUT: true; the input reads as it did. -/
def frameBytesSpec : ChangeSpec := { name := "frameBytes", fn := fun _ => fun
  | [d] => { results := [.lit (.bool true)], args := [d] }
  | _ => none }
def frameBytesRow : OpenClaim := { program := "ytpdkoijgemgaiaa", sum := "97c1b9e6b94ee8a7b927e31c77e1b461a0dbfe57a19910d2c6bacfe922d310b9", func := "remuda/remudalaw04.FrameBytes", spec := "frameBytes", apart := false }
def FrameBytesSaid : Prop := frameBytesRow.holds Try.pinned (OpenSpec.ofChange frameBytesSpec)

/-- ITS FALSE NEIGHBOUR: 'it returns false'. Refute it at one input. -/
def frameBytesWrong : ChangeSpec := { name := "frameBytes", fn := fun _ => fun
  | [d] => { results := [.lit (.bool false)], args := [d] }
  | _ => none }
def FrameBytesWrongFalsely : Prop := frameBytesRow.holds Try.pinned (OpenSpec.ofChange frameBytesWrong)

/-- 'remudalaw04.FramePieces': WHATEVER THE INPUT: true; the input reads as it did. -/
def framePiecesSpec : ChangeSpec := { name := "framePieces", fn := fun _ => fun
  | [d1, d2] => { results := [.lit (.bool true)], args := [d1, d2] }
  | _ => none }
def framePiecesRow : OpenClaim := { program := "ytpdkoijgemgaiaa", sum := "97c1b9e6b94ee8a7b927e31c77e1b461a0dbfe57a19910d2c6bacfe922d310b9", func := "remuda/remudalaw04.FramePieces", spec := "framePieces", apart := false }
def FramePiecesSaid : Prop := framePiecesRow.holds Try.pinned (OpenSpec.ofChange framePiecesSpec)

/-- ITS FALSE NEIGHBOUR: 'it returns false'. Refute it at one input. -/
def framePiecesWrong : ChangeSpec := { name := "framePieces", fn := fun _ => fun
  | [d1, d2] => { results := [.lit (.bool false)], args := [d1, d2] }
  | _ => none }
def FramePiecesWrongFalsely : Prop := framePiecesRow.holds Try.pinned (OpenSpec.ofChange framePiecesWrong)

/- THE SECOND FORM. 'bulk': how many values and letters a reading holds, each counted each time it is reached (what is shared counts as often as it is met; a slice's spare places count too). A statement '..UptoSaid' is the law's where the arguments, and the package variables that the reading takes, are together of bulk at most 1048576: NARROWER than '..Said'. Prove '..Said' where nothing that the law and all that it calls make is longer than what came in: it says more and counts as full. Else prove '..UptoSaid'. A law counts once. -/
mutual
def uptoBulk {H : Type} : DataW H → Nat
  | .lit (.string bytes) => bytes.length + 1
  | .lit _ => 1
  | .nil => 1
  | .ptr d => uptoBulk d + 1
  | .slice elems spare => uptoBulkAll elems + uptoBulkAll spare + 1
  | .agg parts => uptoBulkAll parts + 1
  | .iface _ d => uptoBulk d + 1
  | .map entries => uptoBulkEntries entries + 1
  | .held _ => 1
def uptoBulkAll {H : Type} : List (DataW H) → Nat
  | [] => 0
  | d :: r => uptoBulk d + uptoBulkAll r
def uptoBulkEntries {H : Type} : List (Lit × DataW H) → Nat
  | [] => 0
  | x :: r => uptoBulkEntry x + uptoBulkEntries r
def uptoBulkEntry {H : Type} : Lit × DataW H → Nat
  | (.string bytes, d) => bytes.length + uptoBulk d + 1
  | (_, d) => uptoBulk d + 1
 end
def uptoSmall : (H : Type) → List (DataW H) → Bool := fun _ ds => decide (uptoBulkAll ds ≤ 1048576)
def OpenSpec.upto (s : _root_.Go.ChangeSpec) : _root_.Go.OpenSpec := { _root_.Go.OpenSpec.ofChange s with cond := some uptoSmall }

/-- 'remudalaw21.QueueNobody', WHERE WHAT IT READS IS OF BULK AT MOST 1048576: true; the input reads as it did. -/
def queueNobodyUptoRow : OpenClaim := { program := "ytpdkoijgemgaiaa", sum := "97c1b9e6b94ee8a7b927e31c77e1b461a0dbfe57a19910d2c6bacfe922d310b9", func := "remuda/remudalaw21.QueueNobody", spec := "queueNobody", unfollowed := true, recurses := true, apart := false, narrowed := true }
def QueueNobodyUptoSaid : Prop := queueNobodyUptoRow.holds Try.pinned (OpenSpec.upto queueNobodySpec)

/-- 'remudalaw21.QueueOrder', WHERE WHAT IT READS IS OF BULK AT MOST 1048576: true; the input reads as it did. -/
def queueOrderUptoRow : OpenClaim := { program := "ytpdkoijgemgaiaa", sum := "97c1b9e6b94ee8a7b927e31c77e1b461a0dbfe57a19910d2c6bacfe922d310b9", func := "remuda/remudalaw21.QueueOrder", spec := "queueOrder", unfollowed := true, recurses := true, apart := false, narrowed := true }
def QueueOrderUptoSaid : Prop := queueOrderUptoRow.holds Try.pinned (OpenSpec.upto queueOrderSpec)

/-- 'remudalaw12.KeyTells', WHERE WHAT IT READS IS OF BULK AT MOST 1048576: true; the input reads as it did. -/
def keyTellsUptoRow : OpenClaim := { program := "ytpdkoijgemgaiaa", sum := "97c1b9e6b94ee8a7b927e31c77e1b461a0dbfe57a19910d2c6bacfe922d310b9", func := "remuda/remudalaw12.KeyTells", spec := "keyTells", unfollowed := true, recurses := true, apart := false, narrowed := true }
def KeyTellsUptoSaid : Prop := keyTellsUptoRow.holds Try.pinned (OpenSpec.upto keyTellsSpec)

/-- 'remudalaw12.KeyBack', WHERE WHAT IT READS IS OF BULK AT MOST 1048576: true; the input reads as it did. -/
def keyBackUptoRow : OpenClaim := { program := "ytpdkoijgemgaiaa", sum := "97c1b9e6b94ee8a7b927e31c77e1b461a0dbfe57a19910d2c6bacfe922d310b9", func := "remuda/remudalaw12.KeyBack", spec := "keyBack", unfollowed := true, recurses := true, apart := false, narrowed := true }
def KeyBackUptoSaid : Prop := keyBackUptoRow.holds Try.pinned (OpenSpec.upto keyBackSpec)

/-- 'remudalaw21.QueueSame', WHERE WHAT IT READS IS OF BULK AT MOST 1048576: true; the input reads as it did. -/
def queueSameUptoRow : OpenClaim := { program := "ytpdkoijgemgaiaa", sum := "97c1b9e6b94ee8a7b927e31c77e1b461a0dbfe57a19910d2c6bacfe922d310b9", func := "remuda/remudalaw21.QueueSame", spec := "queueSame", unfollowed := true, recurses := true, apart := false, narrowed := true }
def QueueSameUptoSaid : Prop := queueSameUptoRow.holds Try.pinned (OpenSpec.upto queueSameSpec)

/-- 'remudalaw42.EventParses', WHERE WHAT IT READS IS OF BULK AT MOST 1048576: true; the input reads as it did. -/
def eventParsesUptoRow : OpenClaim := { program := "ytpdkoijgemgaiaa", sum := "97c1b9e6b94ee8a7b927e31c77e1b461a0dbfe57a19910d2c6bacfe922d310b9", func := "remuda/remudalaw42.EventParses", spec := "eventParses", apart := false, narrowed := true }
def EventParsesUptoSaid : Prop := eventParsesUptoRow.holds Try.pinned (OpenSpec.upto eventParsesSpec)

/-- 'remudalaw04.FrameNobody', WHERE WHAT IT READS IS OF BULK AT MOST 1048576: true; the input reads as it did. -/
def frameNobodyUptoRow : OpenClaim := { program := "ytpdkoijgemgaiaa", sum := "97c1b9e6b94ee8a7b927e31c77e1b461a0dbfe57a19910d2c6bacfe922d310b9", func := "remuda/remudalaw04.FrameNobody", spec := "frameNobody", apart := false, narrowed := true }
def FrameNobodyUptoSaid : Prop := frameNobodyUptoRow.holds Try.pinned (OpenSpec.upto frameNobodySpec)

/-- 'remudalaw21.QueueLives', WHERE WHAT IT READS IS OF BULK AT MOST 1048576: true; the input reads as it did. -/
def queueLivesUptoRow : OpenClaim := { program := "ytpdkoijgemgaiaa", sum := "97c1b9e6b94ee8a7b927e31c77e1b461a0dbfe57a19910d2c6bacfe922d310b9", func := "remuda/remudalaw21.QueueLives", spec := "queueLives", unfollowed := true, recurses := true, apart := false, narrowed := true }
def QueueLivesUptoSaid : Prop := queueLivesUptoRow.holds Try.pinned (OpenSpec.upto queueLivesSpec)

/-- 'remudalaw42.EventBack', WHERE WHAT IT READS IS OF BULK AT MOST 1048576: true; the input reads as it did. -/
def eventBackUptoRow : OpenClaim := { program := "ytpdkoijgemgaiaa", sum := "97c1b9e6b94ee8a7b927e31c77e1b461a0dbfe57a19910d2c6bacfe922d310b9", func := "remuda/remudalaw42.EventBack", spec := "eventBack", apart := false, narrowed := true }
def EventBackUptoSaid : Prop := eventBackUptoRow.holds Try.pinned (OpenSpec.upto eventBackSpec)

/-- 'remudalaw42.EventCodes', WHERE WHAT IT READS IS OF BULK AT MOST 1048576: true; the input reads as it did. -/
def eventCodesUptoRow : OpenClaim := { program := "ytpdkoijgemgaiaa", sum := "97c1b9e6b94ee8a7b927e31c77e1b461a0dbfe57a19910d2c6bacfe922d310b9", func := "remuda/remudalaw42.EventCodes", spec := "eventCodes", apart := false, narrowed := true }
def EventCodesUptoSaid : Prop := eventCodesUptoRow.holds Try.pinned (OpenSpec.upto eventCodesSpec)

/-- 'remudalaw04.FrameBytes', WHERE WHAT IT READS IS OF BULK AT MOST 1048576: true; the input reads as it did. -/
def frameBytesUptoRow : OpenClaim := { program := "ytpdkoijgemgaiaa", sum := "97c1b9e6b94ee8a7b927e31c77e1b461a0dbfe57a19910d2c6bacfe922d310b9", func := "remuda/remudalaw04.FrameBytes", spec := "frameBytes", apart := false, narrowed := true }
def FrameBytesUptoSaid : Prop := frameBytesUptoRow.holds Try.pinned (OpenSpec.upto frameBytesSpec)

/-- 'remudalaw04.FramePieces', WHERE WHAT IT READS IS OF BULK AT MOST 1048576: true; the input reads as it did. -/
def framePiecesUptoRow : OpenClaim := { program := "ytpdkoijgemgaiaa", sum := "97c1b9e6b94ee8a7b927e31c77e1b461a0dbfe57a19910d2c6bacfe922d310b9", func := "remuda/remudalaw04.FramePieces", spec := "framePieces", apart := false, narrowed := true }
def FramePiecesUptoSaid : Prop := framePiecesUptoRow.holds Try.pinned (OpenSpec.upto framePiecesSpec)

end Rows
end Go.Proofs.Ytpdkoijgemgaiaa
