/-
  The contract of bytes.Clone.
-/
import Derived.Test.YtjfhpafaopeogaaBytes
namespace Go.Proofs.Ytjfhpafaopeogaa
open Go.RowKit

/-- bytes.Clone: nil stays nil; else a row of its own. -/
theorem clone_any (p : Option Addr) (l : List UInt8) (cap : Nat) (w : World) (hl : l.length ≤ 1000000000) (hb : BytesIn w p l) :
    Calls Try.prog 113 #[.slice p l.length cap] w fun e w' =>
      ∃ v, e = .returned v ∧ OwnB w.heap.size w' v l ∧ Below w.heap.size w w' := by
  have q22 : ∀ (w : World) (a : Option Addr) (n c n' c' : Nat), (binOp .eql 50 (.slice a n c) (.slice none n' c')).run Try.prog w = .ok (.bool a.isNone) w :=
    fun w a n c n' c' => Lib.run_eql_slice_nil w _ _ a n c n' c' Try.underlying50
  have Hb := Lib.hid hb
  cases p with
  | none =>
    have hl0 : l = [] := by
      by_cases h0 : l = []
      · exact h0
      · obtain ⟨b, o, e⟩ := hb.addr (List.length_pos_iff.2 h0)
        cases e
    subst hl0
    clear hb
    go_enter Try.func113, Try.ntmps113
    go_wp2
    go_ret
    exact ⟨_, rfl, OwnB.none _ _, Below.refl _ _⟩
  | some a =>
    clear hb
    go_enter Try.func113, Try.ntmps113
    go_wp2_with (first | (at_builtin; refine step_appendB _ rfl _ _ rfl w.heap.size _ [] rfl (OwnB.empty (Nat.le_refl _)) _ l _ rfl (Hb.out.alloc _) (by simp; omega) (by simp) ?_; intro v1 w1 hown1 hb1 _))
    go_ret
    exact ⟨_, rfl, by simpa using hown1, ((Below.refl _ _).alloc (Nat.le_refl _) _).trans hb1⟩

end Go.Proofs.Ytjfhpafaopeogaa
