/-
  Small laws of queues and entries (layer 21).
-/
import Derived.Test.YtjfhpafaopeogaaQuG
namespace Go.Proofs.Ytjfhpafaopeogaa
open Go.RowKit
set_option linter.unusedVariables false
set_option linter.unusedSimpArgs false

theorem QO.below {t : TypeId} {B sb : Nat} {E : Nat → Prop} {L : List EnV} {most : Nat} {v : Value} {w w' : World} (h : QO t B w sb E L most v) (hT : QT sb v w w') (hB : B ≤ w.heap.size) : Below B w w' :=
  hT.below hB (fun k hk => by
    rcases hk with e | e
    · rw [e]; exact h.sB
    · exact (h.own.row k e).1)
theorem QO.belowS {t : TypeId} {B sb : Nat} {E : Nat → Prop} {L : List EnV} {most : Nat} {v : Value} {w w' : World} (h : QO t B w sb E L most v) (hT : Touch (fun i => i = sb) w w') (hB : B ≤ w.heap.size) : Below B w w' :=
  hT.below hB (fun k hk => by rw [hk]; exact h.sB)

/-- A new block reads as a slice. -/
theorem SliceS.newList {α : Type} {n : Nat} {R : Rd α} {S S' : Nat → Prop} (hR : Still R) (w : World) (e : TypeId) (cs : Array Value) (css : List (List Value)) (xs : List α) (h : ElemsS n R S w css xs) (hcs : cs.toList = css.flatten) (hl : xs.length ≤ maxLen) (hS : ∀ k, k < w.heap.size → S k → S' k) (hn : S' w.heap.size) :
    SliceS n R S' (w.alloc (.cells cs e)) [.slice (some ⟨w.heap.size, 0, none⟩) xs.length xs.length] xs := by
  refine ⟨_, _, css, rfl, Nat.le_refl _, hl, fun j u hu => ⟨_, _, rfl, hn, ?_⟩, h.keep hR (fun k hk hs => ⟨hS k hk hs, Below.heap_alloc w _ k hk⟩)⟩
  rw [Nat.zero_add, World.cell?_alloc_new]
  rw [← hcs, Array.getElem?_toList] at hu
  exact hu

def enK (k : Int) : EnV := ⟨k, false, ⟨#[]⟩, ⟨#[]⟩, [], [], [], []⟩
theorem enK_small (k : Int) : EnSmall (enK k) := by simp [EnSmall, enK]
theorem enZero_l (S : Nat → Prop) (w : World) (k : Int) : EnL S w (enK k) enZeroP :=
  ⟨SliceS.empty _ _ (by simp [maxLen, enZeroP]), SliceS.empty _ _ (by simp [maxLen, enZeroP]), SliceS.empty _ _ (by simp [maxLen, enZeroP]), ⟨none, 0, rfl, Nat.le_refl _, by simp [maxLen], BytesIn.nil _ _, fun h => absurd rfl h⟩⟩

end Go.Proofs.Ytjfhpafaopeogaa
