/-
  Rows of the call's own under frames.
-/
import Derived.Test.YtldjfmddjbdciaaTouch
import Derived.Test.YtldjfmddjbdciaaBytes
namespace Go.Proofs.Ytldjfmddjbdciaa
open Go.RowKit

theorem OwnB.base {B B' : Nat} {w : World} {v : Value} {l : List UInt8} (h : OwnB B w v l) (hb : B' ≤ B) : OwnB B' w v l := by
  refine ⟨h.1, ?_⟩
  rcases h.2 with hn | ⟨g, cap, cur, rfl, h1, h2⟩
  · exact .inl hn
  · exact .inr ⟨g, cap, cur, rfl, Nat.le_trans hb h1, h2⟩

theorem OwnB.touch {B : Nat} {w w' : World} {v : Value} {l : List UInt8} {p : Nat → Prop} (h : OwnB B w v l) (ht : Touch p w w') (hp : ∀ k, v.ownBlock = some k → ¬ p k) : OwnB B w' v l := by
  have hlt := h.lt
  refine ⟨h.1, ?_⟩
  rcases h.2 with hn | ⟨g, cap, cur, rfl, h1, h2, h3⟩
  · exact .inl hn
  · exact .inr ⟨g, cap, cur, rfl, h1, (ht.block g (hlt g rfl).2 (hp g rfl)).trans h2, h3⟩

theorem Touch.of_grown {w w' : World} {row : Option Nat} (h : w.grownBy w' row) : Touch (fun i => some i = row) w w' :=
  ⟨h.os, h.tape, h.output, h.size, fun k hk hne => h.block k hk hne⟩

end Go.Proofs.Ytldjfmddjbdciaa
