/-
  The contract of bytes.Equal.
-/
import Derived.Test.YtldjfmddjbdciaaBytes
namespace Go.Proofs.Ytldjfmddjbdciaa
open Go.RowKit

theorem equal_any (p q : Option Addr) (l m : List UInt8) (c d : Nat) (w : World) (h1 : BytesIn w p l) (h2 : BytesIn w q m) :
    Calls Try.prog 20 #[.slice p l.length c, .slice q m.length d] w fun e w' => e = .returned (.bool (l == m)) ∧ w = w' := by
  have k1 := h1.convert c 38 5 9 Try.underlying38 Try.underlying5 Try.underlying9
  have k2 := h2.convert d 38 5 9 Try.underlying38 Try.underlying5 Try.underlying9
  have e : ((strOf l).toList == (strOf m).toList) = (l == m) := by rw [strOf_toList, strOf_toList]
  have E := Lib.hid e
  clear e h1 h2
  go_enter Try.func20, Try.ntmps20
  go_wp2
  go_ret
  rw [E.out]
  exact ⟨rfl, rfl⟩

end Go.Proofs.Ytldjfmddjbdciaa
