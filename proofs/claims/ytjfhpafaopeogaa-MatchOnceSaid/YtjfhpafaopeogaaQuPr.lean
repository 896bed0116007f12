/-
  Both queues side by side (layer 21).
-/
import Derived.Test.YtjfhpafaopeogaaQuR
import Derived.Test.YtjfhpafaopeogaaQuHl
namespace Go.Proofs.Ytjfhpafaopeogaa
open Go.RowKit
set_option linter.unusedVariables false
set_option linter.unusedSimpArgs false

/-- The program's queue and the document's, beside each other. -/
structure Pair (B : Nat) (w : World) (qb xb : Nat) (Eq Ex : Nat → Prop) (Lq Lx : List EnV) (most : Nat) (vq vx : Value) : Prop where
  q : QO 126 B w qb Eq Lq most vq
  x : QO 88 B w xb Ex Lx most vx
  bq : ∀ k, Eq k → k < w.heap.size
  bx : ∀ k, Ex k → k < w.heap.size
  d1 : ∀ k, (Eq k ∨ k = qb ∨ rowOf vq = some k) → k ≠ xb ∧ rowOf vx ≠ some k
  d2 : ∀ k, (Ex k ∨ k = xb ∨ rowOf vx = some k) → k ≠ qb ∧ rowOf vq ≠ some k
  args : ∀ k, k < B → Ex k
  base : B ≤ w.heap.size

section
variable {B : Nat} {w w' : World} {qb xb : Nat} {Eq Ex : Nat → Prop} {Lq Lx L' : List EnV} {most : Nat} {vq vx v' : Value}
theorem Pair.still (h : Pair B w qb xb Eq Ex Lq Lx most vq vx) (hb : Below w.heap.size w w') : Pair B w' qb xb Eq Ex Lq Lx most vq vx := by
  have hz := hb.size
  exact ⟨h.q.still hb, h.x.still hb, fun k hk => by have := h.bq k hk; omega, fun k hk => by have := h.bx k hk; omega, h.d1, h.d2, h.args, by have := h.base; omega⟩

theorem Pair.stepq (h : Pair B w qb xb Eq Ex Lq Lx most vq vx) (hq : QO 126 B w' qb (gE Eq vq w w') L' most v') (hr : ∀ k, rowOf v' = some k → rowOf vq = some k ∨ w.heap.size ≤ k) (hT : QT qb vq w w') :
    Pair B w' qb xb (gE Eq vq w w') Ex L' Lx most v' vx := by
  have hz := hT.size
  have hxb := h.x.blk.lt
  have hqb := h.q.blk.lt
  refine ⟨hq, h.x.touch hT ?_ ?_ ?_, ?_, fun k hk => by have := h.bx k hk; omega, ?_, ?_, h.args, by have := h.base; omega⟩
  · rintro (e | e)
    · exact (h.d2 xb (.inr (.inl rfl))).1 e
    · exact (h.d2 xb (.inr (.inl rfl))).2 e
  · intro k hk e
    have := h.d2 k (.inr (.inr hk))
    rcases e with e | e
    · exact this.1 e
    · exact this.2 e
  · intro k _ hk _ e
    have := h.d2 k (.inl hk)
    rcases e with e | e
    · exact this.1 e
    · exact this.2 e
  · rintro k (e | e | e)
    · have := h.bq k e; omega
    · have := (h.q.own.row k e).2; omega
    · exact e.2
  · have hnew : ∀ k, w.heap.size ≤ k → k ≠ xb ∧ rowOf vx ≠ some k := fun k hk => ⟨by omega, fun e => by have := (h.x.own.row k e).2; omega⟩
    rintro k ((e | e | e) | e | e)
    · exact h.d1 k (.inl e)
    · exact h.d1 k (.inr (.inr e))
    · exact hnew k e.1
    · exact h.d1 k (.inr (.inl e))
    · rcases hr k e with e' | e'
      · exact h.d1 k (.inr (.inr e'))
      · exact hnew k e'
  · intro k hk
    have hlt : k < w.heap.size := by
      rcases hk with e | e | e
      · exact h.bx k e
      · omega
      · exact (h.x.own.row k e).2
    have := h.d2 k hk
    refine ⟨this.1, fun e => ?_⟩
    rcases hr k e with e' | e'
    · exact this.2 e'
    · omega

theorem Pair.stepx (h : Pair B w qb xb Eq Ex Lq Lx most vq vx) (hx : QO 88 B w' xb (gE Ex vx w w') L' most v') (hr : ∀ k, rowOf v' = some k → rowOf vx = some k ∨ w.heap.size ≤ k) (hT : QT xb vx w w') :
    Pair B w' qb xb Eq (gE Ex vx w w') Lq L' most vq v' := by
  have hz := hT.size
  have hxb := h.x.blk.lt
  have hqb := h.q.blk.lt
  refine ⟨h.q.touch hT ?_ ?_ ?_, hx, fun k hk => by have := h.bq k hk; omega, ?_, ?_, ?_, fun k hk => .inl (h.args k hk), by have := h.base; omega⟩
  · rintro (e | e)
    · exact (h.d1 qb (.inr (.inl rfl))).1 e
    · exact (h.d1 qb (.inr (.inl rfl))).2 e
  · intro k hk e
    have := h.d1 k (.inr (.inr hk))
    rcases e with e | e
    · exact this.1 e
    · exact this.2 e
  · intro k _ hk _ e
    have := h.d1 k (.inl hk)
    rcases e with e | e
    · exact this.1 e
    · exact this.2 e
  · rintro k (e | e | e)
    · have := h.bx k e; omega
    · have := (h.x.own.row k e).2; omega
    · exact e.2
  · intro k hk
    have hlt : k < w.heap.size := by
      rcases hk with e | e | e
      · exact h.bq k e
      · omega
      · exact (h.q.own.row k e).2
    have := h.d1 k hk
    refine ⟨this.1, fun e => ?_⟩
    rcases hr k e with e' | e'
    · exact this.2 e'
    · omega
  · have hnew : ∀ k, w.heap.size ≤ k → k ≠ qb ∧ rowOf vq ≠ some k := fun k hk => ⟨by omega, fun e => by have := (h.q.own.row k e).2; omega⟩
    rintro k ((e | e | e) | e | e)
    · exact h.d2 k (.inl e)
    · exact h.d2 k (.inr (.inr e))
    · exact hnew k e.1
    · exact h.d2 k (.inr (.inl e))
    · rcases hr k e with e' | e'
      · exact h.d2 k (.inr (.inr e'))
      · exact hnew k e'

theorem Pair.belowq (h : Pair B w qb xb Eq Ex Lq Lx most vq vx) (hT : QT qb vq w w') : Below B w w' := h.q.below hT h.base
theorem Pair.belowx (h : Pair B w qb xb Eq Ex Lq Lx most vq vx) (hT : QT xb vx w w') : Below B w w' := h.x.below hT h.base
end

end Go.Proofs.Ytjfhpafaopeogaa
