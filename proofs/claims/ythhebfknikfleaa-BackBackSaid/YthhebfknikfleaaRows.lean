/-
  No cell of these rows narrows 'for every input' (looked for: loops, veiled, ifaces, maps, wideKeys, modest, calm, conditions, laid).
  DERIVED. THE GIVEN ROWS OF THIS SEAT. 6 by the template 'for every input the law returns true; each argument reads behind the call as it read before'; 0 by the template 'total and deterministic' (their statements: YthhebfknikfleaaTotals.lean).
  GIVEN WITH THE SEED: the statements are not yours to turn. If you find one false, say at which input.
  Laid BY PROGRAM, IN A SANDBOX (cutbox-rows.mjs): the forced cells as the released guide's own fill.sh prints them over the translation 640359040aa388b2… (all of the seat's roots in one cut). By AI agents, Wed Nov 11 2026. No macro, syntax, notation, axiom, sorry.
-/
import Derived.Test.YthhebfknikfleaaChecked
import GoSem.Claim
import GoSem.ClaimJoined
import GoSem.ClaimMapViews
import Derived.JoinedTies
import Derived.KernelRfl
namespace Go.Proofs.Ythhebfknikfleaa
/- THE CELL 'sum', in the pinned program and in every row, IS THE sha256 OF THE DUMP (.gsa) THAT YthhebfknikfleaaProg.lean LOADS. Nothing in Lean hashes anything: it is a label: what it is worth is what the hold of that sum in a sandbox is worth. -/
noncomputable def Try.pinned : Pinned := { name := "ythhebfknikfleaa", sum := "640359040aa388b2ec4a612a2d3dba30147ff11f3268df3553a0e0a08f68dd1d", checked := Try.checked }
namespace Rows
def none {H : Type} : Left H := { results := [], args := [] }

/-- 'remudalaw11.GreetTells': WHATEVER THE INPUT: true; the input reads as it did. -/
def greetTellsSpec : ChangeSpec := { name := "greetTells", fn := fun _ => fun
  | [d1, d2] => { results := [.lit (.bool true)], args := [d1, d2] }
  | _ => none }
def greetTellsRow : OpenClaim := { program := "ythhebfknikfleaa", sum := "640359040aa388b2ec4a612a2d3dba30147ff11f3268df3553a0e0a08f68dd1d", func := "remuda/remudalaw11.GreetTells", spec := "greetTells", inPlace := ["internal/bytealg.IndexByte", "internal/bytealg.IndexByteString"], unfollowed := true, recurses := true, apart := false }
def GreetTellsSaid : Prop := greetTellsRow.holds Try.pinned (OpenSpec.ofChange greetTellsSpec)

/-- ITS FALSE NEIGHBOUR: 'it returns false'. Refute it at one input. -/
def greetTellsWrong : ChangeSpec := { name := "greetTells", fn := fun _ => fun
  | [d1, d2] => { results := [.lit (.bool false)], args := [d1, d2] }
  | _ => none }
def GreetTellsWrongFalsely : Prop := greetTellsRow.holds Try.pinned (OpenSpec.ofChange greetTellsWrong)

/-- 'remudalaw11.GreetEnds': WHATEVER THE INPUT: true; the input reads as it did. -/
def greetEndsSpec : ChangeSpec := { name := "greetEnds", fn := fun _ => fun
  | [d1, d2] => { results := [.lit (.bool true)], args := [d1, d2] }
  | _ => none }
def greetEndsRow : OpenClaim := { program := "ythhebfknikfleaa", sum := "640359040aa388b2ec4a612a2d3dba30147ff11f3268df3553a0e0a08f68dd1d", func := "remuda/remudalaw11.GreetEnds", spec := "greetEnds", inPlace := ["internal/bytealg.IndexByte", "internal/bytealg.IndexByteString"], unfollowed := true, recurses := true, apart := false }
def GreetEndsSaid : Prop := greetEndsRow.holds Try.pinned (OpenSpec.ofChange greetEndsSpec)

/-- ITS FALSE NEIGHBOUR: 'it returns false'. Refute it at one input. -/
def greetEndsWrong : ChangeSpec := { name := "greetEnds", fn := fun _ => fun
  | [d1, d2] => { results := [.lit (.bool false)], args := [d1, d2] }
  | _ => none }
def GreetEndsWrongFalsely : Prop := greetEndsRow.holds Try.pinned (OpenSpec.ofChange greetEndsWrong)

/-- 'remudalaw08.FaultWith': WHATEVER THE INPUT: true; the input reads as it did. -/
def faultWithSpec : ChangeSpec := { name := "faultWith", fn := fun _ => fun
  | [d1, d2, d3, d4] => { results := [.lit (.bool true)], args := [d1, d2, d3, d4] }
  | _ => none }
def faultWithRow : OpenClaim := { program := "ythhebfknikfleaa", sum := "640359040aa388b2ec4a612a2d3dba30147ff11f3268df3553a0e0a08f68dd1d", func := "remuda/remudalaw08.FaultWith", spec := "faultWith", inPlace := ["internal/bytealg.IndexByte", "internal/bytealg.IndexByteString"], unfollowed := true, recurses := true, apart := false }
def FaultWithSaid : Prop := faultWithRow.holds Try.pinned (OpenSpec.ofChange faultWithSpec)

/-- ITS FALSE NEIGHBOUR: 'it returns false'. Refute it at one input. -/
def faultWithWrong : ChangeSpec := { name := "faultWith", fn := fun _ => fun
  | [d1, d2, d3, d4] => { results := [.lit (.bool false)], args := [d1, d2, d3, d4] }
  | _ => none }
def FaultWithWrongFalsely : Prop := faultWithRow.holds Try.pinned (OpenSpec.ofChange faultWithWrong)

/-- 'remudalaw08.FaultTells': WHATEVER THE INPUT: true; the input reads as it did. -/
def faultTellsSpec : ChangeSpec := { name := "faultTells", fn := fun _ => fun
  | [d1, d2, d3, d4, d5] => { results := [.lit (.bool true)], args := [d1, d2, d3, d4, d5] }
  | _ => none }
def faultTellsRow : OpenClaim := { program := "ythhebfknikfleaa", sum := "640359040aa388b2ec4a612a2d3dba30147ff11f3268df3553a0e0a08f68dd1d", func := "remuda/remudalaw08.FaultTells", spec := "faultTells", inPlace := ["internal/bytealg.IndexByte", "internal/bytealg.IndexByteString"], unfollowed := true, recurses := true, apart := false }
def FaultTellsSaid : Prop := faultTellsRow.holds Try.pinned (OpenSpec.ofChange faultTellsSpec)

/-- ITS FALSE NEIGHBOUR: 'it returns false'. Refute it at one input. -/
def faultTellsWrong : ChangeSpec := { name := "faultTells", fn := fun _ => fun
  | [d1, d2, d3, d4, d5] => { results := [.lit (.bool false)], args := [d1, d2, d3, d4, d5] }
  | _ => none }
def FaultTellsWrongFalsely : Prop := faultTellsRow.holds Try.pinned (OpenSpec.ofChange faultTellsWrong)

/-- 'remudalaw38.LazyNobody': WHATEVER THE INPUT: true; the input reads as it did. -/
def lazyNobodySpec : ChangeSpec := { name := "lazyNobody", fn := fun _ => fun
  | [d] => { results := [.lit (.bool true)], args := [d] }
  | _ => none }
def lazyNobodyRow : OpenClaim := { program := "ythhebfknikfleaa", sum := "640359040aa388b2ec4a612a2d3dba30147ff11f3268df3553a0e0a08f68dd1d", func := "remuda/remudalaw38.LazyNobody", spec := "lazyNobody", inPlace := ["internal/bytealg.IndexByte", "internal/bytealg.IndexByteString", "sync/atomic.AddInt32", "sync/atomic.LoadUint32", "(*internal/sync.Mutex).Lock", "internal/race.Disable", "sync/atomic.CompareAndSwapInt32", "internal/race.Enable", "internal/race.Acquire", "(*internal/sync.Mutex).lockSlow", "internal/sync.runtime_canSpin", "internal/sync.runtime_doSpin", "internal/sync.throw", "internal/sync.runtime_nanotime", "internal/sync.runtime_SemacquireMutex", "(*internal/sync.Mutex).Unlock", "internal/race.ReleaseMerge", "(*internal/sync.Mutex).unlockSlow", "internal/sync.fatal", "internal/sync.runtime_Semrelease", "sync/atomic.StoreUint32", "sync/atomic.LoadInt32"], unfollowed := true, recurses := true, apart := false }
def LazyNobodySaid : Prop := lazyNobodyRow.holds Try.pinned (OpenSpec.ofChange lazyNobodySpec)

/-- ITS FALSE NEIGHBOUR: 'it returns false'. Refute it at one input. -/
def lazyNobodyWrong : ChangeSpec := { name := "lazyNobody", fn := fun _ => fun
  | [d] => { results := [.lit (.bool false)], args := [d] }
  | _ => none }
def LazyNobodyWrongFalsely : Prop := lazyNobodyRow.holds Try.pinned (OpenSpec.ofChange lazyNobodyWrong)

/-- 'remudalaw07.BackBack': WHATEVER THE INPUT: true; the input reads as it did. -/
def backBackSpec : ChangeSpec := { name := "backBack", fn := fun _ => fun
  | [d1, d2] => { results := [.lit (.bool true)], args := [d1, d2] }
  | _ => none }
def backBackRow : OpenClaim := { program := "ythhebfknikfleaa", sum := "640359040aa388b2ec4a612a2d3dba30147ff11f3268df3553a0e0a08f68dd1d", func := "remuda/remudalaw07.BackBack", spec := "backBack", inPlace := ["internal/bytealg.IndexByte", "internal/bytealg.IndexByteString"], unfollowed := true, recurses := true, apart := false }
def BackBackSaid : Prop := backBackRow.holds Try.pinned (OpenSpec.ofChange backBackSpec)

/-- ITS FALSE NEIGHBOUR: 'it returns false'. Refute it at one input. -/
def backBackWrong : ChangeSpec := { name := "backBack", fn := fun _ => fun
  | [d1, d2] => { results := [.lit (.bool false)], args := [d1, d2] }
  | _ => none }
def BackBackWrongFalsely : Prop := backBackRow.holds Try.pinned (OpenSpec.ofChange backBackWrong)

/- THE SECOND FORM. 'bulk': how many values and letters a reading holds, each counted each time it is reached (what is shared counts as often as it is met; a slice's spare places count too). A statement '..UptoSaid' is the law's where the arguments, and the package variables that the reading takes, are together of bulk at most 1048576: NARROWER than '..Said'. Prove '..Said' where nothing that the law and all that it calls make is longer than what came in: it says more and counts as full. Else prove '..UptoSaid'. A law counts once. -/
mutual
def uptoBulk {H : Type} : DataW H → Nat
  | .lit (.string bytes) => bytes.length + 1
  | .lit _ => 1
  | .nil => 1
  | .ptr d => uptoBulk d + 1
  | .slice elems spare => uptoBulkAll elems + uptoBulkAll spare + 1
  | .agg parts => uptoBulkAll parts + 1
  | .iface _ d => uptoBulk d + 1
  | .map entries => uptoBulkEntries entries + 1
  | .held _ => 1
def uptoBulkAll {H : Type} : List (DataW H) → Nat
  | [] => 0
  | d :: r => uptoBulk d + uptoBulkAll r
def uptoBulkEntries {H : Type} : List (Lit × DataW H) → Nat
  | [] => 0
  | x :: r => uptoBulkEntry x + uptoBulkEntries r
def uptoBulkEntry {H : Type} : Lit × DataW H → Nat
  | (.string bytes, d) => bytes.length + uptoBulk d + 1
  | (_, d) => uptoBulk d + 1
 end
def uptoSmall : (H : Type) → List (DataW H) → Bool := fun _ ds => decide (uptoBulkAll ds ≤ 1048576)
def OpenSpec.upto (s : _root_.Go.ChangeSpec) : _root_.Go.OpenSpec := { _root_.Go.OpenSpec.ofChange s with cond := some uptoSmall }

/-- 'remudalaw11.GreetTells', WHERE WHAT IT READS IS OF BULK AT MOST 1048576: true; the input reads as it did. -/
def greetTellsUptoRow : OpenClaim := { program := "ythhebfknikfleaa", sum := "640359040aa388b2ec4a612a2d3dba30147ff11f3268df3553a0e0a08f68dd1d", func := "remuda/remudalaw11.GreetTells", spec := "greetTells", inPlace := ["internal/bytealg.IndexByte", "internal/bytealg.IndexByteString"], unfollowed := true, recurses := true, apart := false, narrowed := true }
def GreetTellsUptoSaid : Prop := greetTellsUptoRow.holds Try.pinned (OpenSpec.upto greetTellsSpec)

/-- 'remudalaw11.GreetEnds', WHERE WHAT IT READS IS OF BULK AT MOST 1048576: true; the input reads as it did. -/
def greetEndsUptoRow : OpenClaim := { program := "ythhebfknikfleaa", sum := "640359040aa388b2ec4a612a2d3dba30147ff11f3268df3553a0e0a08f68dd1d", func := "remuda/remudalaw11.GreetEnds", spec := "greetEnds", inPlace := ["internal/bytealg.IndexByte", "internal/bytealg.IndexByteString"], unfollowed := true, recurses := true, apart := false, narrowed := true }
def GreetEndsUptoSaid : Prop := greetEndsUptoRow.holds Try.pinned (OpenSpec.upto greetEndsSpec)

/-- 'remudalaw08.FaultWith', WHERE WHAT IT READS IS OF BULK AT MOST 1048576: true; the input reads as it did. -/
def faultWithUptoRow : OpenClaim := { program := "ythhebfknikfleaa", sum := "640359040aa388b2ec4a612a2d3dba30147ff11f3268df3553a0e0a08f68dd1d", func := "remuda/remudalaw08.FaultWith", spec := "faultWith", inPlace := ["internal/bytealg.IndexByte", "internal/bytealg.IndexByteString"], unfollowed := true, recurses := true, apart := false, narrowed := true }
def FaultWithUptoSaid : Prop := faultWithUptoRow.holds Try.pinned (OpenSpec.upto faultWithSpec)

/-- 'remudalaw08.FaultTells', WHERE WHAT IT READS IS OF BULK AT MOST 1048576: true; the input reads as it did. -/
def faultTellsUptoRow : OpenClaim := { program := "ythhebfknikfleaa", sum := "640359040aa388b2ec4a612a2d3dba30147ff11f3268df3553a0e0a08f68dd1d", func := "remuda/remudalaw08.FaultTells", spec := "faultTells", inPlace := ["internal/bytealg.IndexByte", "internal/bytealg.IndexByteString"], unfollowed := true, recurses := true, apart := false, narrowed := true }
def FaultTellsUptoSaid : Prop := faultTellsUptoRow.holds Try.pinned (OpenSpec.upto faultTellsSpec)

/-- 'remudalaw38.LazyNobody', WHERE WHAT IT READS IS OF BULK AT MOST 1048576: true; the input reads as it did. -/
def lazyNobodyUptoRow : OpenClaim := { program := "ythhebfknikfleaa", sum := "640359040aa388b2ec4a612a2d3dba30147ff11f3268df3553a0e0a08f68dd1d", func := "remuda/remudalaw38.LazyNobody", spec := "lazyNobody", inPlace := ["internal/bytealg.IndexByte", "internal/bytealg.IndexByteString", "sync/atomic.AddInt32", "sync/atomic.LoadUint32", "(*internal/sync.Mutex).Lock", "internal/race.Disable", "sync/atomic.CompareAndSwapInt32", "internal/race.Enable", "internal/race.Acquire", "(*internal/sync.Mutex).lockSlow", "internal/sync.runtime_canSpin", "internal/sync.runtime_doSpin", "internal/sync.throw", "internal/sync.runtime_nanotime", "internal/sync.runtime_SemacquireMutex", "(*internal/sync.Mutex).Unlock", "internal/race.ReleaseMerge", "(*internal/sync.Mutex).unlockSlow", "internal/sync.fatal", "internal/sync.runtime_Semrelease", "sync/atomic.StoreUint32", "sync/atomic.LoadInt32"], unfollowed := true, recurses := true, apart := false, narrowed := true }
def LazyNobodyUptoSaid : Prop := lazyNobodyUptoRow.holds Try.pinned (OpenSpec.upto lazyNobodySpec)

/-- 'remudalaw07.BackBack', WHERE WHAT IT READS IS OF BULK AT MOST 1048576: true; the input reads as it did. -/
def backBackUptoRow : OpenClaim := { program := "ythhebfknikfleaa", sum := "640359040aa388b2ec4a612a2d3dba30147ff11f3268df3553a0e0a08f68dd1d", func := "remuda/remudalaw07.BackBack", spec := "backBack", inPlace := ["internal/bytealg.IndexByte", "internal/bytealg.IndexByteString"], unfollowed := true, recurses := true, apart := false, narrowed := true }
def BackBackUptoSaid : Prop := backBackUptoRow.holds Try.pinned (OpenSpec.upto backBackSpec)

end Rows
end Go.Proofs.Ythhebfknikfleaa
