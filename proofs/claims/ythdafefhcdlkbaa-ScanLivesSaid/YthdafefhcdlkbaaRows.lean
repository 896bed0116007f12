/-
  No cell of these rows narrows 'for every input' (looked for: loops, veiled, ifaces, maps, wideKeys, modest, calm, conditions, laid).
  DERIVED. THE GIVEN ROWS OF THIS SEAT. 8 by the template 'for every input the law returns true; each argument reads behind the call as it read before'; 0 by the template 'total and deterministic' (their statements: YthdafefhcdlkbaaTotals.lean).
  GIVEN WITH THE SEED: the statements are not yours to turn. If you find one false, say at which input.
  Laid BY PROGRAM, IN A SANDBOX (cutbox-rows.mjs): the forced cells as the released guide's own fill.sh prints them over the translation 40260ecaba701248… (all of the seat's roots in one cut). By AI agents, Wed Nov 11 2026. No macro, syntax, notation, axiom, sorry.
-/
import Derived.Test.YthdafefhcdlkbaaChecked
import GoSem.Claim
import GoSem.ClaimJoined
import GoSem.ClaimMapViews
import Derived.JoinedTies
import Derived.KernelRfl
namespace Go.Proofs.Ythdafefhcdlkbaa
/- THE CELL 'sum', in the pinned program and in every row, IS THE sha256 OF THE DUMP (.gsa) THAT YthdafefhcdlkbaaProg.lean LOADS. Nothing in Lean hashes anything: it is a label: what it is worth is what the hold of that sum in a sandbox is worth. -/
noncomputable def Try.pinned : Pinned := { name := "ythdafefhcdlkbaa", sum := "40260ecaba701248dbde8177070425ee593aa1b1fd3ba49f1cc490263431f911", checked := Try.checked }
namespace Rows
def none {H : Type} : Left H := { results := [], args := [] }

/-- 'remudalaw36.RingNobody': WHATEVER THE INPUT: true; the input reads as it did. -/
def ringNobodySpec : ChangeSpec := { name := "ringNobody", fn := fun _ => fun
  | [d1, d2] => { results := [.lit (.bool true)], args := [d1, d2] }
  | _ => none }
def ringNobodyRow : OpenClaim := { program := "ythdafefhcdlkbaa", sum := "40260ecaba701248dbde8177070425ee593aa1b1fd3ba49f1cc490263431f911", func := "remuda/remudalaw36.RingNobody", spec := "ringNobody", apart := false }
def RingNobodySaid : Prop := ringNobodyRow.holds Try.pinned (OpenSpec.ofChange ringNobodySpec)

/-- ITS FALSE NEIGHBOUR: 'it returns false'. Refute it at one input. -/
def ringNobodyWrong : ChangeSpec := { name := "ringNobody", fn := fun _ => fun
  | [d1, d2] => { results := [.lit (.bool false)], args := [d1, d2] }
  | _ => none }
def RingNobodyWrongFalsely : Prop := ringNobodyRow.holds Try.pinned (OpenSpec.ofChange ringNobodyWrong)

/-- 'remudalaw36.RingLives': WHATEVER THE INPUT: true; the input reads as it did. -/
def ringLivesSpec : ChangeSpec := { name := "ringLives", fn := fun _ => fun
  | [d1, d2] => { results := [.lit (.bool true)], args := [d1, d2] }
  | _ => none }
def ringLivesRow : OpenClaim := { program := "ythdafefhcdlkbaa", sum := "40260ecaba701248dbde8177070425ee593aa1b1fd3ba49f1cc490263431f911", func := "remuda/remudalaw36.RingLives", spec := "ringLives", apart := false }
def RingLivesSaid : Prop := ringLivesRow.holds Try.pinned (OpenSpec.ofChange ringLivesSpec)

/-- ITS FALSE NEIGHBOUR: 'it returns false'. Refute it at one input. -/
def ringLivesWrong : ChangeSpec := { name := "ringLives", fn := fun _ => fun
  | [d1, d2] => { results := [.lit (.bool false)], args := [d1, d2] }
  | _ => none }
def RingLivesWrongFalsely : Prop := ringLivesRow.holds Try.pinned (OpenSpec.ofChange ringLivesWrong)

/-- 'remudalaw36.RingOrder': WHATEVER THE INPUT: true; the input reads as it did. -/
def ringOrderSpec : ChangeSpec := { name := "ringOrder", fn := fun _ => fun
  | [d1, d2] => { results := [.lit (.bool true)], args := [d1, d2] }
  | _ => none }
def ringOrderRow : OpenClaim := { program := "ythdafefhcdlkbaa", sum := "40260ecaba701248dbde8177070425ee593aa1b1fd3ba49f1cc490263431f911", func := "remuda/remudalaw36.RingOrder", spec := "ringOrder", apart := false }
def RingOrderSaid : Prop := ringOrderRow.holds Try.pinned (OpenSpec.ofChange ringOrderSpec)

/-- ITS FALSE NEIGHBOUR: 'it returns false'. Refute it at one input. -/
def ringOrderWrong : ChangeSpec := { name := "ringOrder", fn := fun _ => fun
  | [d1, d2] => { results := [.lit (.bool false)], args := [d1, d2] }
  | _ => none }
def RingOrderWrongFalsely : Prop := ringOrderRow.holds Try.pinned (OpenSpec.ofChange ringOrderWrong)

/-- 'remudalaw20.EntryTells': WHATEVER THE INPUT: true; the input reads as it did. -/
def entryTellsSpec : ChangeSpec := { name := "entryTells", fn := fun _ => fun
  | [d1, d2, d3] => { results := [.lit (.bool true)], args := [d1, d2, d3] }
  | _ => none }
def entryTellsRow : OpenClaim := { program := "ythdafefhcdlkbaa", sum := "40260ecaba701248dbde8177070425ee593aa1b1fd3ba49f1cc490263431f911", func := "remuda/remudalaw20.EntryTells", spec := "entryTells", inPlace := ["internal/bytealg.IndexByteString"], apart := false }
def EntryTellsSaid : Prop := entryTellsRow.holds Try.pinned (OpenSpec.ofChange entryTellsSpec)

/-- ITS FALSE NEIGHBOUR: 'it returns false'. Refute it at one input. -/
def entryTellsWrong : ChangeSpec := { name := "entryTells", fn := fun _ => fun
  | [d1, d2, d3] => { results := [.lit (.bool false)], args := [d1, d2, d3] }
  | _ => none }
def EntryTellsWrongFalsely : Prop := entryTellsRow.holds Try.pinned (OpenSpec.ofChange entryTellsWrong)

/-- 'remudalaw20.EntryOnce': WHATEVER THE INPUT: true; the input reads as it did. -/
def entryOnceSpec : ChangeSpec := { name := "entryOnce", fn := fun _ => fun
  | [d1, d2] => { results := [.lit (.bool true)], args := [d1, d2] }
  | _ => none }
def entryOnceRow : OpenClaim := { program := "ythdafefhcdlkbaa", sum := "40260ecaba701248dbde8177070425ee593aa1b1fd3ba49f1cc490263431f911", func := "remuda/remudalaw20.EntryOnce", spec := "entryOnce", inPlace := ["internal/bytealg.IndexByteString"], apart := false }
def EntryOnceSaid : Prop := entryOnceRow.holds Try.pinned (OpenSpec.ofChange entryOnceSpec)

/-- ITS FALSE NEIGHBOUR: 'it returns false'. Refute it at one input. -/
def entryOnceWrong : ChangeSpec := { name := "entryOnce", fn := fun _ => fun
  | [d1, d2] => { results := [.lit (.bool false)], args := [d1, d2] }
  | _ => none }
def EntryOnceWrongFalsely : Prop := entryOnceRow.holds Try.pinned (OpenSpec.ofChange entryOnceWrong)

/-- 'remudalaw03.ScanNobody': WHATEVER THE INPUT: true; the input reads as it did. -/
def scanNobodySpec : ChangeSpec := { name := "scanNobody", fn := fun _ => fun
  | [d] => { results := [.lit (.bool true)], args := [d] }
  | _ => none }
def scanNobodyRow : OpenClaim := { program := "ythdafefhcdlkbaa", sum := "40260ecaba701248dbde8177070425ee593aa1b1fd3ba49f1cc490263431f911", func := "remuda/remudalaw03.ScanNobody", spec := "scanNobody", inPlace := ["internal/bytealg.IndexByte"], apart := false }
def ScanNobodySaid : Prop := scanNobodyRow.holds Try.pinned (OpenSpec.ofChange scanNobodySpec)

/-- ITS FALSE NEIGHBOUR: 'it returns false'. Refute it at one input. -/
def scanNobodyWrong : ChangeSpec := { name := "scanNobody", fn := fun _ => fun
  | [d] => { results := [.lit (.bool false)], args := [d] }
  | _ => none }
def ScanNobodyWrongFalsely : Prop := scanNobodyRow.holds Try.pinned (OpenSpec.ofChange scanNobodyWrong)

/-- 'remudalaw03.ScanAll': WHATEVER THE INPUT: true; the input reads as it did. -/
def scanAllSpec : ChangeSpec := { name := "scanAll", fn := fun _ => fun
  | [d1, d2] => { results := [.lit (.bool true)], args := [d1, d2] }
  | _ => none }
def scanAllRow : OpenClaim := { program := "ythdafefhcdlkbaa", sum := "40260ecaba701248dbde8177070425ee593aa1b1fd3ba49f1cc490263431f911", func := "remuda/remudalaw03.ScanAll", spec := "scanAll", inPlace := ["internal/bytealg.IndexByte"], apart := false }
def ScanAllSaid : Prop := scanAllRow.holds Try.pinned (OpenSpec.ofChange scanAllSpec)

/-- ITS FALSE NEIGHBOUR: 'it returns false'. Refute it at one input. -/
def scanAllWrong : ChangeSpec := { name := "scanAll", fn := fun _ => fun
  | [d1, d2] => { results := [.lit (.bool false)], args := [d1, d2] }
  | _ => none }
def ScanAllWrongFalsely : Prop := scanAllRow.holds Try.pinned (OpenSpec.ofChange scanAllWrong)

/-- 'remudalaw03.ScanLives': WHATEVER THE INPUT: true; the input reads as it did. -/
def scanLivesSpec : ChangeSpec := { name := "scanLives", fn := fun _ => fun
  | [d1, d2] => { results := [.lit (.bool true)], args := [d1, d2] }
  | _ => none }
def scanLivesRow : OpenClaim := { program := "ythdafefhcdlkbaa", sum := "40260ecaba701248dbde8177070425ee593aa1b1fd3ba49f1cc490263431f911", func := "remuda/remudalaw03.ScanLives", spec := "scanLives", inPlace := ["internal/bytealg.IndexByte"], apart := false }
def ScanLivesSaid : Prop := scanLivesRow.holds Try.pinned (OpenSpec.ofChange scanLivesSpec)

/-- ITS FALSE NEIGHBOUR: 'it returns false'. Refute it at one input. -/
def scanLivesWrong : ChangeSpec := { name := "scanLives", fn := fun _ => fun
  | [d1, d2] => { results := [.lit (.bool false)], args := [d1, d2] }
  | _ => none }
def ScanLivesWrongFalsely : Prop := scanLivesRow.holds Try.pinned (OpenSpec.ofChange scanLivesWrong)

/- THE SECOND FORM. 'bulk': how many values and letters a reading holds, each counted each time it is reached (what is shared counts as often as it is met; a slice's spare places count too). A statement '..UptoSaid' is the law's where the arguments, and the package variables that the reading takes, are together of bulk at most 1048576: NARROWER than '..Said'. Prove '..Said' where nothing that the law and all that it calls make is longer than what came in: it says more and counts as full. Else prove '..UptoSaid'. A law counts once. -/
mutual
def uptoBulk {H : Type} : DataW H → Nat
  | .lit (.string bytes) => bytes.length + 1
  | .lit _ => 1
  | .nil => 1
  | .ptr d => uptoBulk d + 1
  | .slice elems spare => uptoBulkAll elems + uptoBulkAll spare + 1
  | .agg parts => uptoBulkAll parts + 1
  | .iface _ d => uptoBulk d + 1
  | .map entries => uptoBulkEntries entries + 1
  | .held _ => 1
def uptoBulkAll {H : Type} : List (DataW H) → Nat
  | [] => 0
  | d :: r => uptoBulk d + uptoBulkAll r
def uptoBulkEntries {H : Type} : List (Lit × DataW H) → Nat
  | [] => 0
  | x :: r => uptoBulkEntry x + uptoBulkEntries r
def uptoBulkEntry {H : Type} : Lit × DataW H → Nat
  | (.string bytes, d) => bytes.length + uptoBulk d + 1
  | (_, d) => uptoBulk d + 1
 end
def uptoSmall : (H : Type) → List (DataW H) → Bool := fun _ ds => decide (uptoBulkAll ds ≤ 1048576)
def OpenSpec.upto (s : _root_.Go.ChangeSpec) : _root_.Go.OpenSpec := { _root_.Go.OpenSpec.ofChange s with cond := some uptoSmall }

/-- 'remudalaw36.RingNobody', WHERE WHAT IT READS IS OF BULK AT MOST 1048576: true; the input reads as it did. -/
def ringNobodyUptoRow : OpenClaim := { program := "ythdafefhcdlkbaa", sum := "40260ecaba701248dbde8177070425ee593aa1b1fd3ba49f1cc490263431f911", func := "remuda/remudalaw36.RingNobody", spec := "ringNobody", apart := false, narrowed := true }
def RingNobodyUptoSaid : Prop := ringNobodyUptoRow.holds Try.pinned (OpenSpec.upto ringNobodySpec)

/-- 'remudalaw36.RingLives', WHERE WHAT IT READS IS OF BULK AT MOST 1048576: true; the input reads as it did. -/
def ringLivesUptoRow : OpenClaim := { program := "ythdafefhcdlkbaa", sum := "40260ecaba701248dbde8177070425ee593aa1b1fd3ba49f1cc490263431f911", func := "remuda/remudalaw36.RingLives", spec := "ringLives", apart := false, narrowed := true }
def RingLivesUptoSaid : Prop := ringLivesUptoRow.holds Try.pinned (OpenSpec.upto ringLivesSpec)

/-- 'remudalaw36.RingOrder', WHERE WHAT IT READS IS OF BULK AT MOST 1048576: true; the input reads as it did. -/
def ringOrderUptoRow : OpenClaim := { program := "ythdafefhcdlkbaa", sum := "40260ecaba701248dbde8177070425ee593aa1b1fd3ba49f1cc490263431f911", func := "remuda/remudalaw36.RingOrder", spec := "ringOrder", apart := false, narrowed := true }
def RingOrderUptoSaid : Prop := ringOrderUptoRow.holds Try.pinned (OpenSpec.upto ringOrderSpec)

/-- 'remudalaw20.EntryTells', WHERE WHAT IT READS IS OF BULK AT MOST 1048576: true; the input reads as it did. -/
def entryTellsUptoRow : OpenClaim := { program := "ythdafefhcdlkbaa", sum := "40260ecaba701248dbde8177070425ee593aa1b1fd3ba49f1cc490263431f911", func := "remuda/remudalaw20.EntryTells", spec := "entryTells", inPlace := ["internal/bytealg.IndexByteString"], apart := false, narrowed := true }
def EntryTellsUptoSaid : Prop := entryTellsUptoRow.holds Try.pinned (OpenSpec.upto entryTellsSpec)

/-- 'remudalaw20.EntryOnce', WHERE WHAT IT READS IS OF BULK AT MOST 1048576: true; the input reads as it did. -/
def entryOnceUptoRow : OpenClaim := { program := "ythdafefhcdlkbaa", sum := "40260ecaba701248dbde8177070425ee593aa1b1fd3ba49f1cc490263431f911", func := "remuda/remudalaw20.EntryOnce", spec := "entryOnce", inPlace := ["internal/bytealg.IndexByteString"], apart := false, narrowed := true }
def EntryOnceUptoSaid : Prop := entryOnceUptoRow.holds Try.pinned (OpenSpec.upto entryOnceSpec)

/-- 'remudalaw03.ScanNobody', WHERE WHAT IT READS IS OF BULK AT MOST 1048576: true; the input reads as it did. -/
def scanNobodyUptoRow : OpenClaim := { program := "ythdafefhcdlkbaa", sum := "40260ecaba701248dbde8177070425ee593aa1b1fd3ba49f1cc490263431f911", func := "remuda/remudalaw03.ScanNobody", spec := "scanNobody", inPlace := ["internal/bytealg.IndexByte"], apart := false, narrowed := true }
def ScanNobodyUptoSaid : Prop := scanNobodyUptoRow.holds Try.pinned (OpenSpec.upto scanNobodySpec)

/-- 'remudalaw03.ScanAll', WHERE WHAT IT READS IS OF BULK AT MOST 1048576: true; the input reads as it did. -/
def scanAllUptoRow : OpenClaim := { program := "ythdafefhcdlkbaa", sum := "40260ecaba701248dbde8177070425ee593aa1b1fd3ba49f1cc490263431f911", func := "remuda/remudalaw03.ScanAll", spec := "scanAll", inPlace := ["internal/bytealg.IndexByte"], apart := false, narrowed := true }
def ScanAllUptoSaid : Prop := scanAllUptoRow.holds Try.pinned (OpenSpec.upto scanAllSpec)

/-- 'remudalaw03.ScanLives', WHERE WHAT IT READS IS OF BULK AT MOST 1048576: true; the input reads as it did. -/
def scanLivesUptoRow : OpenClaim := { program := "ythdafefhcdlkbaa", sum := "40260ecaba701248dbde8177070425ee593aa1b1fd3ba49f1cc490263431f911", func := "remuda/remudalaw03.ScanLives", spec := "scanLives", inPlace := ["internal/bytealg.IndexByte"], apart := false, narrowed := true }
def ScanLivesUptoSaid : Prop := scanLivesUptoRow.holds Try.pinned (OpenSpec.upto scanLivesSpec)

end Rows
end Go.Proofs.Ythdafefhcdlkbaa
