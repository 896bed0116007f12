/-
  Messages of servers (layer 7): BackEncodes' walk, of what a statement's arguments hold.
-/
import Derived.Test.YthhebfknikfleaaGreatBaV
namespace Go.Proofs.YthhebfknikfleaaGreat
open Go.RowKit
set_option linter.unusedVariables false
set_option linter.unusedSimpArgs false

theorem backEncodes_read (s t : Array Value) (x y : BaV) (w : World) (h : BaS (fun k => k < w.heap.size) w s.toList x) (k : BaS (fun k => k < w.heap.size) w t.toList y) :
    Calls Tryz.prog 5 #[.agg s, .agg t] w fun e w' => e = .returned (.bool true) ∧ Below w.heap.size w w' := by
  obtain ⟨a, hs, hl, hb⟩ := h
  obtain ⟨b, ks, kl, kb⟩ := k
  obtain rfl : s = baCells x a := Array.toList_inj.1 hs
  obtain rfl : t = baCells y b := Array.toList_inj.1 ks
  exact backEncodes_walk x y a b w hl kl hb kb

end Go.Proofs.YthhebfknikfleaaGreat
