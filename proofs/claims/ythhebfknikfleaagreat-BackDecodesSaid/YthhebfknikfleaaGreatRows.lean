/-
  No cell of these rows narrows 'for every input' (looked for: loops, veiled, ifaces, maps, wideKeys, modest, calm, conditions, laid).
  DERIVED. THE GIVEN ROWS OF THIS SEAT. 4 by the template 'for every input the law returns true; each argument reads behind the call as it read before'; 0 by the template 'total and deterministic' (their statements: YthhebfknikfleaaGreatTotals.lean).
  GIVEN WITH THE SEED: the statements are not yours to turn. If you find one false, say at which input.
  Laid BY PROGRAM, IN A SANDBOX (cutbox-rows.mjs): the forced cells as the released guide's own fill.sh prints them over the translation 7466327c1a3cf119… (all of the seat's roots in one cut). By AI agents, Wed Nov 11 2026. No macro, syntax, notation, axiom, sorry.
-/
import Derived.Test.YthhebfknikfleaaGreatChecked
import GoSem.Claim
import GoSem.ClaimJoined
import GoSem.ClaimMapViews
import Derived.JoinedTies
import Derived.KernelRfl
namespace Go.Proofs.YthhebfknikfleaaGreat
/- THE CELL 'sum', in the pinned program and in every row, IS THE sha256 OF THE DUMP (.gsa) THAT YthhebfknikfleaaGreatProg.lean LOADS. Nothing in Lean hashes anything: it is a label: what it is worth is what the hold of that sum in a sandbox is worth. -/
noncomputable def Tryz.pinned : Pinned := { name := "ythhebfknikfleaagreat", sum := "7466327c1a3cf119ac721027fdd6c769a05544e9c997334a2b3aa8f15db051d9", checked := Tryz.checked }
namespace Rows
def none {H : Type} : Left H := { results := [], args := [] }

/-- 'remudalaw38.LazyOwn': WHATEVER THE INPUT: true; the input reads as it did. -/
def lazyOwnSpec : ChangeSpec := { name := "lazyOwn", fn := fun _ => fun
  | [d1, d2] => { results := [.lit (.bool true)], args := [d1, d2] }
  | _ => none }
def lazyOwnRow : OpenClaim := { program := "ythhebfknikfleaagreat", sum := "7466327c1a3cf119ac721027fdd6c769a05544e9c997334a2b3aa8f15db051d9", func := "remuda/remudalaw38.LazyOwn", spec := "lazyOwn", inPlace := ["sync/atomic.LoadInt32", "internal/bytealg.IndexByte", "internal/bytealg.IndexByteString", "sync/atomic.AddInt32", "sync/atomic.LoadUint32", "(*internal/sync.Mutex).Lock", "internal/race.Disable", "sync/atomic.CompareAndSwapInt32", "internal/race.Enable", "internal/race.Acquire", "(*internal/sync.Mutex).lockSlow", "internal/sync.runtime_canSpin", "internal/sync.runtime_doSpin", "internal/sync.throw", "internal/sync.runtime_nanotime", "internal/sync.runtime_SemacquireMutex", "(*internal/sync.Mutex).Unlock", "internal/race.ReleaseMerge", "(*internal/sync.Mutex).unlockSlow", "internal/sync.fatal", "internal/sync.runtime_Semrelease", "sync/atomic.StoreUint32"], unfollowed := true, recurses := true, apart := false }
def LazyOwnSaid : Prop := lazyOwnRow.holds Tryz.pinned (OpenSpec.ofChange lazyOwnSpec)

/-- ITS FALSE NEIGHBOUR: 'it returns false'. Refute it at one input. -/
def lazyOwnWrong : ChangeSpec := { name := "lazyOwn", fn := fun _ => fun
  | [d1, d2] => { results := [.lit (.bool false)], args := [d1, d2] }
  | _ => none }
def LazyOwnWrongFalsely : Prop := lazyOwnRow.holds Tryz.pinned (OpenSpec.ofChange lazyOwnWrong)

/-- 'remudalaw38.LazyTells': WHATEVER THE INPUT: true; the input reads as it did. -/
def lazyTellsSpec : ChangeSpec := { name := "lazyTells", fn := fun _ => fun
  | [d1, d2] => { results := [.lit (.bool true)], args := [d1, d2] }
  | _ => none }
def lazyTellsRow : OpenClaim := { program := "ythhebfknikfleaagreat", sum := "7466327c1a3cf119ac721027fdd6c769a05544e9c997334a2b3aa8f15db051d9", func := "remuda/remudalaw38.LazyTells", spec := "lazyTells", inPlace := ["sync/atomic.LoadInt32", "internal/bytealg.IndexByte", "internal/bytealg.IndexByteString", "sync/atomic.AddInt32", "sync/atomic.LoadUint32", "(*internal/sync.Mutex).Lock", "internal/race.Disable", "sync/atomic.CompareAndSwapInt32", "internal/race.Enable", "internal/race.Acquire", "(*internal/sync.Mutex).lockSlow", "internal/sync.runtime_canSpin", "internal/sync.runtime_doSpin", "internal/sync.throw", "internal/sync.runtime_nanotime", "internal/sync.runtime_SemacquireMutex", "(*internal/sync.Mutex).Unlock", "internal/race.ReleaseMerge", "(*internal/sync.Mutex).unlockSlow", "internal/sync.fatal", "internal/sync.runtime_Semrelease", "sync/atomic.StoreUint32"], unfollowed := true, recurses := true, apart := false }
def LazyTellsSaid : Prop := lazyTellsRow.holds Tryz.pinned (OpenSpec.ofChange lazyTellsSpec)

/-- ITS FALSE NEIGHBOUR: 'it returns false'. Refute it at one input. -/
def lazyTellsWrong : ChangeSpec := { name := "lazyTells", fn := fun _ => fun
  | [d1, d2] => { results := [.lit (.bool false)], args := [d1, d2] }
  | _ => none }
def LazyTellsWrongFalsely : Prop := lazyTellsRow.holds Tryz.pinned (OpenSpec.ofChange lazyTellsWrong)

/-- 'remudalaw07.BackEncodes': WHATEVER THE INPUT: true; the input reads as it did. -/
def backEncodesSpec : ChangeSpec := { name := "backEncodes", fn := fun _ => fun
  | [d1, d2] => { results := [.lit (.bool true)], args := [d1, d2] }
  | _ => none }
def backEncodesRow : OpenClaim := { program := "ythhebfknikfleaagreat", sum := "7466327c1a3cf119ac721027fdd6c769a05544e9c997334a2b3aa8f15db051d9", func := "remuda/remudalaw07.BackEncodes", spec := "backEncodes", inPlace := ["internal/bytealg.IndexByte", "internal/bytealg.IndexByteString"], unfollowed := true, recurses := true, apart := false }
def BackEncodesSaid : Prop := backEncodesRow.holds Tryz.pinned (OpenSpec.ofChange backEncodesSpec)

/-- ITS FALSE NEIGHBOUR: 'it returns false'. Refute it at one input. -/
def backEncodesWrong : ChangeSpec := { name := "backEncodes", fn := fun _ => fun
  | [d1, d2] => { results := [.lit (.bool false)], args := [d1, d2] }
  | _ => none }
def BackEncodesWrongFalsely : Prop := backEncodesRow.holds Tryz.pinned (OpenSpec.ofChange backEncodesWrong)

/-- 'remudalaw07.BackDecodes': WHATEVER THE INPUT: true; the input reads as it did. -/
def backDecodesSpec : ChangeSpec := { name := "backDecodes", fn := fun _ => fun
  | [d] => { results := [.lit (.bool true)], args := [d] }
  | _ => none }
def backDecodesRow : OpenClaim := { program := "ythhebfknikfleaagreat", sum := "7466327c1a3cf119ac721027fdd6c769a05544e9c997334a2b3aa8f15db051d9", func := "remuda/remudalaw07.BackDecodes", spec := "backDecodes", inPlace := ["internal/bytealg.IndexByte", "internal/bytealg.IndexByteString"], unfollowed := true, recurses := true, apart := false }
def BackDecodesSaid : Prop := backDecodesRow.holds Tryz.pinned (OpenSpec.ofChange backDecodesSpec)

/-- ITS FALSE NEIGHBOUR: 'it returns false'. Refute it at one input. -/
def backDecodesWrong : ChangeSpec := { name := "backDecodes", fn := fun _ => fun
  | [d] => { results := [.lit (.bool false)], args := [d] }
  | _ => none }
def BackDecodesWrongFalsely : Prop := backDecodesRow.holds Tryz.pinned (OpenSpec.ofChange backDecodesWrong)

/- THE SECOND FORM. 'bulk': how many values and letters a reading holds, each counted each time it is reached (what is shared counts as often as it is met; a slice's spare places count too). A statement '..UptoSaid' is the law's where the arguments, and the package variables that the reading takes, are together of bulk at most 1048576: NARROWER than '..Said'. Prove '..Said' where nothing that the law and all that it calls make is longer than what came in: it says more and counts as full. Else prove '..UptoSaid'. A law counts once. -/
mutual
def uptoBulk {H : Type} : DataW H → Nat
  | .lit (.string bytes) => bytes.length + 1
  | .lit _ => 1
  | .nil => 1
  | .ptr d => uptoBulk d + 1
  | .slice elems spare => uptoBulkAll elems + uptoBulkAll spare + 1
  | .agg parts => uptoBulkAll parts + 1
  | .iface _ d => uptoBulk d + 1
  | .map entries => uptoBulkEntries entries + 1
  | .held _ => 1
def uptoBulkAll {H : Type} : List (DataW H) → Nat
  | [] => 0
  | d :: r => uptoBulk d + uptoBulkAll r
def uptoBulkEntries {H : Type} : List (Lit × DataW H) → Nat
  | [] => 0
  | x :: r => uptoBulkEntry x + uptoBulkEntries r
def uptoBulkEntry {H : Type} : Lit × DataW H → Nat
  | (.string bytes, d) => bytes.length + uptoBulk d + 1
  | (_, d) => uptoBulk d + 1
 end
def uptoSmall : (H : Type) → List (DataW H) → Bool := fun _ ds => decide (uptoBulkAll ds ≤ 1048576)
def OpenSpec.upto (s : _root_.Go.ChangeSpec) : _root_.Go.OpenSpec := { _root_.Go.OpenSpec.ofChange s with cond := some uptoSmall }

/-- 'remudalaw38.LazyOwn', WHERE WHAT IT READS IS OF BULK AT MOST 1048576: true; the input reads as it did. -/
def lazyOwnUptoRow : OpenClaim := { program := "ythhebfknikfleaagreat", sum := "7466327c1a3cf119ac721027fdd6c769a05544e9c997334a2b3aa8f15db051d9", func := "remuda/remudalaw38.LazyOwn", spec := "lazyOwn", inPlace := ["sync/atomic.LoadInt32", "internal/bytealg.IndexByte", "internal/bytealg.IndexByteString", "sync/atomic.AddInt32", "sync/atomic.LoadUint32", "(*internal/sync.Mutex).Lock", "internal/race.Disable", "sync/atomic.CompareAndSwapInt32", "internal/race.Enable", "internal/race.Acquire", "(*internal/sync.Mutex).lockSlow", "internal/sync.runtime_canSpin", "internal/sync.runtime_doSpin", "internal/sync.throw", "internal/sync.runtime_nanotime", "internal/sync.runtime_SemacquireMutex", "(*internal/sync.Mutex).Unlock", "internal/race.ReleaseMerge", "(*internal/sync.Mutex).unlockSlow", "internal/sync.fatal", "internal/sync.runtime_Semrelease", "sync/atomic.StoreUint32"], unfollowed := true, recurses := true, apart := false, narrowed := true }
def LazyOwnUptoSaid : Prop := lazyOwnUptoRow.holds Tryz.pinned (OpenSpec.upto lazyOwnSpec)

/-- 'remudalaw38.LazyTells', WHERE WHAT IT READS IS OF BULK AT MOST 1048576: true; the input reads as it did. -/
def lazyTellsUptoRow : OpenClaim := { program := "ythhebfknikfleaagreat", sum := "7466327c1a3cf119ac721027fdd6c769a05544e9c997334a2b3aa8f15db051d9", func := "remuda/remudalaw38.LazyTells", spec := "lazyTells", inPlace := ["sync/atomic.LoadInt32", "internal/bytealg.IndexByte", "internal/bytealg.IndexByteString", "sync/atomic.AddInt32", "sync/atomic.LoadUint32", "(*internal/sync.Mutex).Lock", "internal/race.Disable", "sync/atomic.CompareAndSwapInt32", "internal/race.Enable", "internal/race.Acquire", "(*internal/sync.Mutex).lockSlow", "internal/sync.runtime_canSpin", "internal/sync.runtime_doSpin", "internal/sync.throw", "internal/sync.runtime_nanotime", "internal/sync.runtime_SemacquireMutex", "(*internal/sync.Mutex).Unlock", "internal/race.ReleaseMerge", "(*internal/sync.Mutex).unlockSlow", "internal/sync.fatal", "internal/sync.runtime_Semrelease", "sync/atomic.StoreUint32"], unfollowed := true, recurses := true, apart := false, narrowed := true }
def LazyTellsUptoSaid : Prop := lazyTellsUptoRow.holds Tryz.pinned (OpenSpec.upto lazyTellsSpec)

/-- 'remudalaw07.BackEncodes', WHERE WHAT IT READS IS OF BULK AT MOST 1048576: true; the input reads as it did. -/
def backEncodesUptoRow : OpenClaim := { program := "ythhebfknikfleaagreat", sum := "7466327c1a3cf119ac721027fdd6c769a05544e9c997334a2b3aa8f15db051d9", func := "remuda/remudalaw07.BackEncodes", spec := "backEncodes", inPlace := ["internal/bytealg.IndexByte", "internal/bytealg.IndexByteString"], unfollowed := true, recurses := true, apart := false, narrowed := true }
def BackEncodesUptoSaid : Prop := backEncodesUptoRow.holds Tryz.pinned (OpenSpec.upto backEncodesSpec)

/-- 'remudalaw07.BackDecodes', WHERE WHAT IT READS IS OF BULK AT MOST 1048576: true; the input reads as it did. -/
def backDecodesUptoRow : OpenClaim := { program := "ythhebfknikfleaagreat", sum := "7466327c1a3cf119ac721027fdd6c769a05544e9c997334a2b3aa8f15db051d9", func := "remuda/remudalaw07.BackDecodes", spec := "backDecodes", inPlace := ["internal/bytealg.IndexByte", "internal/bytealg.IndexByteString"], unfollowed := true, recurses := true, apart := false, narrowed := true }
def BackDecodesUptoSaid : Prop := backDecodesUptoRow.holds Tryz.pinned (OpenSpec.upto backDecodesSpec)

end Rows
end Go.Proofs.YthhebfknikfleaaGreat
