/-
  No cell of these rows narrows 'for every input' (looked for: loops, veiled, ifaces, maps, wideKeys, modest, calm, conditions, laid).
  DERIVED. THE GIVEN ROWS OF THIS SEAT. 11 by the template 'for every input the law returns true; each argument reads behind the call as it read before'; 0 by the template 'total and deterministic' (their statements: YtjfhpafaopeogaaTotals.lean).
  GIVEN WITH THE SEED: the statements are not yours to turn. If you find one false, say at which input.
  Laid BY PROGRAM, IN A SANDBOX (cutbox-rows.mjs): the forced cells as the released guide's own fill.sh prints them over the translation bc60681617903e88… (all of the seat's roots in one cut). By AI agents, Wed Nov 11 2026. No macro, syntax, notation, axiom, sorry.
-/
import Derived.Test.YtjfhpafaopeogaaChecked
import GoSem.Claim
import GoSem.ClaimJoined
import GoSem.ClaimMapViews
import Derived.JoinedTies
import Derived.KernelRfl
namespace Go.Proofs.Ytjfhpafaopeogaa
/- THE CELL 'sum', in the pinned program and in every row, IS THE sha256 OF THE DUMP (.gsa) THAT YtjfhpafaopeogaaProg.lean LOADS. Nothing in Lean hashes anything: it is a label: what it is worth is what the hold of that sum in a sandbox is worth. -/
noncomputable def Try.pinned : Pinned := { name := "ytjfhpafaopeogaa", sum := "bc60681617903e882a6c5c568e82304e14f3e152aefb40fa93e3d43e72a28941", checked := Try.checked }
namespace Rows
def none {H : Type} : Left H := { results := [], args := [] }

/-- 'remudalaw16.OverTells': WHATEVER THE INPUT: true; the input reads as it did. -/
def overTellsSpec : ChangeSpec := { name := "overTells", fn := fun _ => fun
  | [d1, d2, d3, d4] => { results := [.lit (.bool true)], args := [d1, d2, d3, d4] }
  | _ => none }
def overTellsRow : OpenClaim := { program := "ytjfhpafaopeogaa", sum := "bc60681617903e882a6c5c568e82304e14f3e152aefb40fa93e3d43e72a28941", func := "remuda/remudalaw16.OverTells", spec := "overTells", unfollowed := true, recurses := true, apart := false }
def OverTellsSaid : Prop := overTellsRow.holds Try.pinned (OpenSpec.ofChange overTellsSpec)

/-- ITS FALSE NEIGHBOUR: 'it returns false'. Refute it at one input. -/
def overTellsWrong : ChangeSpec := { name := "overTells", fn := fun _ => fun
  | [d1, d2, d3, d4] => { results := [.lit (.bool false)], args := [d1, d2, d3, d4] }
  | _ => none }
def OverTellsWrongFalsely : Prop := overTellsRow.holds Try.pinned (OpenSpec.ofChange overTellsWrong)

/-- 'remudalaw16.OverApplies': WHATEVER THE INPUT: true; the input reads as it did. -/
def overAppliesSpec : ChangeSpec := { name := "overApplies", fn := fun _ => fun
  | [d1, d2, d3, d4] => { results := [.lit (.bool true)], args := [d1, d2, d3, d4] }
  | _ => none }
def overAppliesRow : OpenClaim := { program := "ytjfhpafaopeogaa", sum := "bc60681617903e882a6c5c568e82304e14f3e152aefb40fa93e3d43e72a28941", func := "remuda/remudalaw16.OverApplies", spec := "overApplies", unfollowed := true, recurses := true, apart := false }
def OverAppliesSaid : Prop := overAppliesRow.holds Try.pinned (OpenSpec.ofChange overAppliesSpec)

/-- ITS FALSE NEIGHBOUR: 'it returns false'. Refute it at one input. -/
def overAppliesWrong : ChangeSpec := { name := "overApplies", fn := fun _ => fun
  | [d1, d2, d3, d4] => { results := [.lit (.bool false)], args := [d1, d2, d3, d4] }
  | _ => none }
def OverAppliesWrongFalsely : Prop := overAppliesRow.holds Try.pinned (OpenSpec.ofChange overAppliesWrong)

/-- 'remudalaw16.OverLater': WHATEVER THE INPUT: true; the input reads as it did. -/
def overLaterSpec : ChangeSpec := { name := "overLater", fn := fun _ => fun
  | [d1, d2, d3] => { results := [.lit (.bool true)], args := [d1, d2, d3] }
  | _ => none }
def overLaterRow : OpenClaim := { program := "ytjfhpafaopeogaa", sum := "bc60681617903e882a6c5c568e82304e14f3e152aefb40fa93e3d43e72a28941", func := "remuda/remudalaw16.OverLater", spec := "overLater", unfollowed := true, recurses := true, apart := false }
def OverLaterSaid : Prop := overLaterRow.holds Try.pinned (OpenSpec.ofChange overLaterSpec)

/-- ITS FALSE NEIGHBOUR: 'it returns false'. Refute it at one input. -/
def overLaterWrong : ChangeSpec := { name := "overLater", fn := fun _ => fun
  | [d1, d2, d3] => { results := [.lit (.bool false)], args := [d1, d2, d3] }
  | _ => none }
def OverLaterWrongFalsely : Prop := overLaterRow.holds Try.pinned (OpenSpec.ofChange overLaterWrong)

/-- 'remudalaw16.OverNobody': WHATEVER THE INPUT: true; the input reads as it did. -/
def overNobodySpec : ChangeSpec := { name := "overNobody", fn := fun _ => fun
  | [d1, d2, d3] => { results := [.lit (.bool true)], args := [d1, d2, d3] }
  | _ => none }
def overNobodyRow : OpenClaim := { program := "ytjfhpafaopeogaa", sum := "bc60681617903e882a6c5c568e82304e14f3e152aefb40fa93e3d43e72a28941", func := "remuda/remudalaw16.OverNobody", spec := "overNobody", unfollowed := true, recurses := true, apart := false }
def OverNobodySaid : Prop := overNobodyRow.holds Try.pinned (OpenSpec.ofChange overNobodySpec)

/-- ITS FALSE NEIGHBOUR: 'it returns false'. Refute it at one input. -/
def overNobodyWrong : ChangeSpec := { name := "overNobody", fn := fun _ => fun
  | [d1, d2, d3] => { results := [.lit (.bool false)], args := [d1, d2, d3] }
  | _ => none }
def OverNobodyWrongFalsely : Prop := overNobodyRow.holds Try.pinned (OpenSpec.ofChange overNobodyWrong)

/-- 'remudalaw22.MatchInstead': WHATEVER THE INPUT: true; the input reads as it did. -/
def matchInsteadSpec : ChangeSpec := { name := "matchInstead", fn := fun _ => fun
  | [d] => { results := [.lit (.bool true)], args := [d] }
  | _ => none }
def matchInsteadRow : OpenClaim := { program := "ytjfhpafaopeogaa", sum := "bc60681617903e882a6c5c568e82304e14f3e152aefb40fa93e3d43e72a28941", func := "remuda/remudalaw22.MatchInstead", spec := "matchInstead", inPlace := ["internal/bytealg.IndexByteString"], unfollowed := true, recurses := true, apart := false }
def MatchInsteadSaid : Prop := matchInsteadRow.holds Try.pinned (OpenSpec.ofChange matchInsteadSpec)

/-- ITS FALSE NEIGHBOUR: 'it returns false'. Refute it at one input. -/
def matchInsteadWrong : ChangeSpec := { name := "matchInstead", fn := fun _ => fun
  | [d] => { results := [.lit (.bool false)], args := [d] }
  | _ => none }
def MatchInsteadWrongFalsely : Prop := matchInsteadRow.holds Try.pinned (OpenSpec.ofChange matchInsteadWrong)

/-- 'remudalaw22.MatchGets': WHATEVER THE INPUT: true; the input reads as it did. -/
def matchGetsSpec : ChangeSpec := { name := "matchGets", fn := fun _ => fun
  | [d1, d2] => { results := [.lit (.bool true)], args := [d1, d2] }
  | _ => none }
def matchGetsRow : OpenClaim := { program := "ytjfhpafaopeogaa", sum := "bc60681617903e882a6c5c568e82304e14f3e152aefb40fa93e3d43e72a28941", func := "remuda/remudalaw22.MatchGets", spec := "matchGets", inPlace := ["internal/bytealg.IndexByteString"], unfollowed := true, recurses := true, apart := false }
def MatchGetsSaid : Prop := matchGetsRow.holds Try.pinned (OpenSpec.ofChange matchGetsSpec)

/-- ITS FALSE NEIGHBOUR: 'it returns false'. Refute it at one input. -/
def matchGetsWrong : ChangeSpec := { name := "matchGets", fn := fun _ => fun
  | [d1, d2] => { results := [.lit (.bool false)], args := [d1, d2] }
  | _ => none }
def MatchGetsWrongFalsely : Prop := matchGetsRow.holds Try.pinned (OpenSpec.ofChange matchGetsWrong)

/-- 'remudalaw22.MatchOnce': WHATEVER THE INPUT: true; the input reads as it did. -/
def matchOnceSpec : ChangeSpec := { name := "matchOnce", fn := fun _ => fun
  | [d1, d2] => { results := [.lit (.bool true)], args := [d1, d2] }
  | _ => none }
def matchOnceRow : OpenClaim := { program := "ytjfhpafaopeogaa", sum := "bc60681617903e882a6c5c568e82304e14f3e152aefb40fa93e3d43e72a28941", func := "remuda/remudalaw22.MatchOnce", spec := "matchOnce", inPlace := ["internal/bytealg.IndexByteString"], unfollowed := true, recurses := true, apart := false }
def MatchOnceSaid : Prop := matchOnceRow.holds Try.pinned (OpenSpec.ofChange matchOnceSpec)

/-- ITS FALSE NEIGHBOUR: 'it returns false'. Refute it at one input. -/
def matchOnceWrong : ChangeSpec := { name := "matchOnce", fn := fun _ => fun
  | [d1, d2] => { results := [.lit (.bool false)], args := [d1, d2] }
  | _ => none }
def MatchOnceWrongFalsely : Prop := matchOnceRow.holds Try.pinned (OpenSpec.ofChange matchOnceWrong)

/-- 'remudalaw22.MatchStrange': WHATEVER THE INPUT: true; the input reads as it did. -/
def matchStrangeSpec : ChangeSpec := { name := "matchStrange", fn := fun _ => fun
  | [d1, d2] => { results := [.lit (.bool true)], args := [d1, d2] }
  | _ => none }
def matchStrangeRow : OpenClaim := { program := "ytjfhpafaopeogaa", sum := "bc60681617903e882a6c5c568e82304e14f3e152aefb40fa93e3d43e72a28941", func := "remuda/remudalaw22.MatchStrange", spec := "matchStrange", inPlace := ["internal/bytealg.IndexByteString"], unfollowed := true, recurses := true, apart := false }
def MatchStrangeSaid : Prop := matchStrangeRow.holds Try.pinned (OpenSpec.ofChange matchStrangeSpec)

/-- ITS FALSE NEIGHBOUR: 'it returns false'. Refute it at one input. -/
def matchStrangeWrong : ChangeSpec := { name := "matchStrange", fn := fun _ => fun
  | [d1, d2] => { results := [.lit (.bool false)], args := [d1, d2] }
  | _ => none }
def MatchStrangeWrongFalsely : Prop := matchStrangeRow.holds Try.pinned (OpenSpec.ofChange matchStrangeWrong)

/-- 'remudalaw05.HelloParses': WHATEVER THE INPUT: true; the input reads as it did. -/
def helloParsesSpec : ChangeSpec := { name := "helloParses", fn := fun _ => fun
  | [d] => { results := [.lit (.bool true)], args := [d] }
  | _ => none }
def helloParsesRow : OpenClaim := { program := "ytjfhpafaopeogaa", sum := "bc60681617903e882a6c5c568e82304e14f3e152aefb40fa93e3d43e72a28941", func := "remuda/remudalaw05.HelloParses", spec := "helloParses", inPlace := ["internal/bytealg.IndexByteString", "internal/bytealg.IndexByte"], unfollowed := true, recurses := true, apart := false }
def HelloParsesSaid : Prop := helloParsesRow.holds Try.pinned (OpenSpec.ofChange helloParsesSpec)

/-- ITS FALSE NEIGHBOUR: 'it returns false'. Refute it at one input. -/
def helloParsesWrong : ChangeSpec := { name := "helloParses", fn := fun _ => fun
  | [d] => { results := [.lit (.bool false)], args := [d] }
  | _ => none }
def HelloParsesWrongFalsely : Prop := helloParsesRow.holds Try.pinned (OpenSpec.ofChange helloParsesWrong)

/-- 'remudalaw05.HelloBuilds': WHATEVER THE INPUT: true; the input reads as it did. -/
def helloBuildsSpec : ChangeSpec := { name := "helloBuilds", fn := fun _ => fun
  | [d] => { results := [.lit (.bool true)], args := [d] }
  | _ => none }
def helloBuildsRow : OpenClaim := { program := "ytjfhpafaopeogaa", sum := "bc60681617903e882a6c5c568e82304e14f3e152aefb40fa93e3d43e72a28941", func := "remuda/remudalaw05.HelloBuilds", spec := "helloBuilds", inPlace := ["internal/bytealg.IndexByteString", "internal/bytealg.IndexByte"], unfollowed := true, recurses := true, apart := false }
def HelloBuildsSaid : Prop := helloBuildsRow.holds Try.pinned (OpenSpec.ofChange helloBuildsSpec)

/-- ITS FALSE NEIGHBOUR: 'it returns false'. Refute it at one input. -/
def helloBuildsWrong : ChangeSpec := { name := "helloBuilds", fn := fun _ => fun
  | [d] => { results := [.lit (.bool false)], args := [d] }
  | _ => none }
def HelloBuildsWrongFalsely : Prop := helloBuildsRow.holds Try.pinned (OpenSpec.ofChange helloBuildsWrong)

/-- 'remudalaw05.HelloBack': WHATEVER THE INPUT: true; the input reads as it did. -/
def helloBackSpec : ChangeSpec := { name := "helloBack", fn := fun _ => fun
  | [d1, d2] => { results := [.lit (.bool true)], args := [d1, d2] }
  | _ => none }
def helloBackRow : OpenClaim := { program := "ytjfhpafaopeogaa", sum := "bc60681617903e882a6c5c568e82304e14f3e152aefb40fa93e3d43e72a28941", func := "remuda/remudalaw05.HelloBack", spec := "helloBack", inPlace := ["internal/bytealg.IndexByteString", "internal/bytealg.IndexByte"], unfollowed := true, recurses := true, apart := false }
def HelloBackSaid : Prop := helloBackRow.holds Try.pinned (OpenSpec.ofChange helloBackSpec)

/-- ITS FALSE NEIGHBOUR: 'it returns false'. Refute it at one input. -/
def helloBackWrong : ChangeSpec := { name := "helloBack", fn := fun _ => fun
  | [d1, d2] => { results := [.lit (.bool false)], args := [d1, d2] }
  | _ => none }
def HelloBackWrongFalsely : Prop := helloBackRow.holds Try.pinned (OpenSpec.ofChange helloBackWrong)

/- THE SECOND FORM. 'bulk': how many values and letters a reading holds, each counted each time it is reached (what is shared counts as often as it is met; a slice's spare places count too). A statement '..UptoSaid' is the law's where the arguments, and the package variables that the reading takes, are together of bulk at most 1048576: NARROWER than '..Said'. Prove '..Said' where nothing that the law and all that it calls make is longer than what came in: it says more and counts as full. Else prove '..UptoSaid'. A law counts once. -/
mutual
def uptoBulk {H : Type} : DataW H → Nat
  | .lit (.string bytes) => bytes.length + 1
  | .lit _ => 1
  | .nil => 1
  | .ptr d => uptoBulk d + 1
  | .slice elems spare => uptoBulkAll elems + uptoBulkAll spare + 1
  | .agg parts => uptoBulkAll parts + 1
  | .iface _ d => uptoBulk d + 1
  | .map entries => uptoBulkEntries entries + 1
  | .held _ => 1
def uptoBulkAll {H : Type} : List (DataW H) → Nat
  | [] => 0
  | d :: r => uptoBulk d + uptoBulkAll r
def uptoBulkEntries {H : Type} : List (Lit × DataW H) → Nat
  | [] => 0
  | x :: r => uptoBulkEntry x + uptoBulkEntries r
def uptoBulkEntry {H : Type} : Lit × DataW H → Nat
  | (.string bytes, d) => bytes.length + uptoBulk d + 1
  | (_, d) => uptoBulk d + 1
 end
def uptoSmall : (H : Type) → List (DataW H) → Bool := fun _ ds => decide (uptoBulkAll ds ≤ 1048576)
def OpenSpec.upto (s : _root_.Go.ChangeSpec) : _root_.Go.OpenSpec := { _root_.Go.OpenSpec.ofChange s with cond := some uptoSmall }

/-- 'remudalaw16.OverTells', WHERE WHAT IT READS IS OF BULK AT MOST 1048576: true; the input reads as it did. -/
def overTellsUptoRow : OpenClaim := { program := "ytjfhpafaopeogaa", sum := "bc60681617903e882a6c5c568e82304e14f3e152aefb40fa93e3d43e72a28941", func := "remuda/remudalaw16.OverTells", spec := "overTells", unfollowed := true, recurses := true, apart := false, narrowed := true }
def OverTellsUptoSaid : Prop := overTellsUptoRow.holds Try.pinned (OpenSpec.upto overTellsSpec)

/-- 'remudalaw16.OverApplies', WHERE WHAT IT READS IS OF BULK AT MOST 1048576: true; the input reads as it did. -/
def overAppliesUptoRow : OpenClaim := { program := "ytjfhpafaopeogaa", sum := "bc60681617903e882a6c5c568e82304e14f3e152aefb40fa93e3d43e72a28941", func := "remuda/remudalaw16.OverApplies", spec := "overApplies", unfollowed := true, recurses := true, apart := false, narrowed := true }
def OverAppliesUptoSaid : Prop := overAppliesUptoRow.holds Try.pinned (OpenSpec.upto overAppliesSpec)

/-- 'remudalaw16.OverLater', WHERE WHAT IT READS IS OF BULK AT MOST 1048576: true; the input reads as it did. -/
def overLaterUptoRow : OpenClaim := { program := "ytjfhpafaopeogaa", sum := "bc60681617903e882a6c5c568e82304e14f3e152aefb40fa93e3d43e72a28941", func := "remuda/remudalaw16.OverLater", spec := "overLater", unfollowed := true, recurses := true, apart := false, narrowed := true }
def OverLaterUptoSaid : Prop := overLaterUptoRow.holds Try.pinned (OpenSpec.upto overLaterSpec)

/-- 'remudalaw16.OverNobody', WHERE WHAT IT READS IS OF BULK AT MOST 1048576: true; the input reads as it did. -/
def overNobodyUptoRow : OpenClaim := { program := "ytjfhpafaopeogaa", sum := "bc60681617903e882a6c5c568e82304e14f3e152aefb40fa93e3d43e72a28941", func := "remuda/remudalaw16.OverNobody", spec := "overNobody", unfollowed := true, recurses := true, apart := false, narrowed := true }
def OverNobodyUptoSaid : Prop := overNobodyUptoRow.holds Try.pinned (OpenSpec.upto overNobodySpec)

/-- 'remudalaw22.MatchInstead', WHERE WHAT IT READS IS OF BULK AT MOST 1048576: true; the input reads as it did. -/
def matchInsteadUptoRow : OpenClaim := { program := "ytjfhpafaopeogaa", sum := "bc60681617903e882a6c5c568e82304e14f3e152aefb40fa93e3d43e72a28941", func := "remuda/remudalaw22.MatchInstead", spec := "matchInstead", inPlace := ["internal/bytealg.IndexByteString"], unfollowed := true, recurses := true, apart := false, narrowed := true }
def MatchInsteadUptoSaid : Prop := matchInsteadUptoRow.holds Try.pinned (OpenSpec.upto matchInsteadSpec)

/-- 'remudalaw22.MatchGets', WHERE WHAT IT READS IS OF BULK AT MOST 1048576: true; the input reads as it did. -/
def matchGetsUptoRow : OpenClaim := { program := "ytjfhpafaopeogaa", sum := "bc60681617903e882a6c5c568e82304e14f3e152aefb40fa93e3d43e72a28941", func := "remuda/remudalaw22.MatchGets", spec := "matchGets", inPlace := ["internal/bytealg.IndexByteString"], unfollowed := true, recurses := true, apart := false, narrowed := true }
def MatchGetsUptoSaid : Prop := matchGetsUptoRow.holds Try.pinned (OpenSpec.upto matchGetsSpec)

/-- 'remudalaw22.MatchOnce', WHERE WHAT IT READS IS OF BULK AT MOST 1048576: true; the input reads as it did. -/
def matchOnceUptoRow : OpenClaim := { program := "ytjfhpafaopeogaa", sum := "bc60681617903e882a6c5c568e82304e14f3e152aefb40fa93e3d43e72a28941", func := "remuda/remudalaw22.MatchOnce", spec := "matchOnce", inPlace := ["internal/bytealg.IndexByteString"], unfollowed := true, recurses := true, apart := false, narrowed := true }
def MatchOnceUptoSaid : Prop := matchOnceUptoRow.holds Try.pinned (OpenSpec.upto matchOnceSpec)

/-- 'remudalaw22.MatchStrange', WHERE WHAT IT READS IS OF BULK AT MOST 1048576: true; the input reads as it did. -/
def matchStrangeUptoRow : OpenClaim := { program := "ytjfhpafaopeogaa", sum := "bc60681617903e882a6c5c568e82304e14f3e152aefb40fa93e3d43e72a28941", func := "remuda/remudalaw22.MatchStrange", spec := "matchStrange", inPlace := ["internal/bytealg.IndexByteString"], unfollowed := true, recurses := true, apart := false, narrowed := true }
def MatchStrangeUptoSaid : Prop := matchStrangeUptoRow.holds Try.pinned (OpenSpec.upto matchStrangeSpec)

/-- 'remudalaw05.HelloParses', WHERE WHAT IT READS IS OF BULK AT MOST 1048576: true; the input reads as it did. -/
def helloParsesUptoRow : OpenClaim := { program := "ytjfhpafaopeogaa", sum := "bc60681617903e882a6c5c568e82304e14f3e152aefb40fa93e3d43e72a28941", func := "remuda/remudalaw05.HelloParses", spec := "helloParses", inPlace := ["internal/bytealg.IndexByteString", "internal/bytealg.IndexByte"], unfollowed := true, recurses := true, apart := false, narrowed := true }
def HelloParsesUptoSaid : Prop := helloParsesUptoRow.holds Try.pinned (OpenSpec.upto helloParsesSpec)

/-- 'remudalaw05.HelloBuilds', WHERE WHAT IT READS IS OF BULK AT MOST 1048576: true; the input reads as it did. -/
def helloBuildsUptoRow : OpenClaim := { program := "ytjfhpafaopeogaa", sum := "bc60681617903e882a6c5c568e82304e14f3e152aefb40fa93e3d43e72a28941", func := "remuda/remudalaw05.HelloBuilds", spec := "helloBuilds", inPlace := ["internal/bytealg.IndexByteString", "internal/bytealg.IndexByte"], unfollowed := true, recurses := true, apart := false, narrowed := true }
def HelloBuildsUptoSaid : Prop := helloBuildsUptoRow.holds Try.pinned (OpenSpec.upto helloBuildsSpec)

/-- 'remudalaw05.HelloBack', WHERE WHAT IT READS IS OF BULK AT MOST 1048576: true; the input reads as it did. -/
def helloBackUptoRow : OpenClaim := { program := "ytjfhpafaopeogaa", sum := "bc60681617903e882a6c5c568e82304e14f3e152aefb40fa93e3d43e72a28941", func := "remuda/remudalaw05.HelloBack", spec := "helloBack", inPlace := ["internal/bytealg.IndexByteString", "internal/bytealg.IndexByte"], unfollowed := true, recurses := true, apart := false, narrowed := true }
def HelloBackUptoSaid : Prop := helloBackUptoRow.holds Try.pinned (OpenSpec.upto helloBackSpec)

end Rows
end Go.Proofs.Ytjfhpafaopeogaa
