/-
  What a comparison of two entries holds (layer 21).
-/
import Derived.Test.YtjfhpafaopeogaaQuEqR
import Derived.Test.YtjfhpafaopeogaaBytesEqual
namespace Go.Proofs.Ytjfhpafaopeogaa
open Go.RowKit
set_option linter.unusedVariables false
set_option linter.unusedSimpArgs false


def namesEq (x y : EnV) : Bool := (x.frm.toList == y.frm.toList) && (x.dst.toList == y.dst.toList)
def listsEq (x y : EnV) : Bool := listEq opEq x.good y.good && (listEq opEq x.bad y.bad && listEq caEq x.cache y.cache)
/-- Two entries are the same. -/
def enEq (x y : EnV) : Bool := (x.kind == y.kind) && ((x.hide == y.hide) && (namesEq x y && (listsEq x y && (x.reply == y.reply))))

theorem enEq_self (x : EnV) : enEq x x = true := by
  simp [enEq, namesEq, listsEq, listEq_self opEq_self, listEq_self caEq_self]

structure SameI (w0 w : World) (x y : EnV) (a b : EnP) : Prop where
  b1 : Blk w w0.heap.size 52 (enArg x a).cells
  b2 : Blk w (w0.heap.size + 1) 52 (enArg y b).cells
  l1 : EnL (fun k => k < w0.heap.size) w x a
  l2 : EnL (fun k => k < w0.heap.size) w y b
  bel : Below w0.heap.size w0 w

theorem sameI_drewN (w : World) (r : Nat) (B : Nat) (hB : B ≤ w.heap.size) : Below B w (w.drewN r) := ((Touch.refl (fun _ => False) w).drewN r).below hB (fun _ e => e.elim)

theorem SameI.drewN {w0 w : World} {x y : EnV} {a b : EnP} (h : SameI w0 w x y a b) (r : Nat) : SameI w0 (w.drewN r) x y a b :=
  ⟨h.b1, h.b2, h.l1.keep (Kept.all (sameI_drewN _ _ _ (Nat.le_refl _))), h.l2.keep (Kept.all (sameI_drewN _ _ _ (Nat.le_refl _))), h.bel.trans (sameI_drewN _ _ _ h.bel.size)⟩

theorem SameI.start {S S' : Nat → Prop} {w : World} {x y : EnV} {a b : EnP} (h1 : EnL S w x a) (h2 : EnL S' w y b) :
    SameI w ((w.alloc (.cells (enArg x a).cells 52)).alloc (.cells (enArg y b).cells 52)) x y a b := by
  have hb : Below w.heap.size w ((w.alloc (.cells (enArg x a).cells 52)).alloc (.cells (enArg y b).cells 52)) := ((Below.refl _ _).alloc (Nat.le_refl _) _).alloc (by simp) _
  refine ⟨(Blk.new _ _ _).alloc _, ?_, ?_, ?_, hb⟩
  · have := Blk.new (w.alloc (.cells (enArg x a).cells 52)) 52 (enArg y b).cells
    simpa using this
  · exact (h1.keep (Kept.mono (S' := fun k => k < w.heap.size) w (fun k hk _ => hk))).keep (Kept.all hb)
  · exact (h2.keep (Kept.mono (S' := fun k => k < w.heap.size) w (fun k hk _ => hk))).keep (Kept.all hb)

end Go.Proofs.Ytjfhpafaopeogaa
