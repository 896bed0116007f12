/-
  The contract of bytes.Equal.
-/
import Derived.Test.YthdafefhcdlkbaaBytes
namespace Go.Proofs.Ythdafefhcdlkbaa
open Go.RowKit

theorem equal_any (p q : Option Addr) (l m : List UInt8) (c d : Nat) (w : World) (h1 : BytesIn w p l) (h2 : BytesIn w q m) :
    Calls Try.prog 18 #[.slice p l.length c, .slice q m.length d] w fun e w' => e = .returned (.bool (l == m)) ∧ w = w' := by
  have k1 := h1.convert c 22 5 9 Try.underlying22 Try.underlying5 Try.underlying9
  have k2 := h2.convert d 22 5 9 Try.underlying22 Try.underlying5 Try.underlying9
  have e : ((strOf l).toList == (strOf m).toList) = (l == m) := by rw [strOf_toList, strOf_toList]
  have E := Lib.hid e
  clear e h1 h2
  go_enter Try.func18, Try.ntmps18
  go_wp2
  go_ret
  rw [E.out]
  exact ⟨rfl, rfl⟩

end Go.Proofs.Ythdafefhcdlkbaa
