/-
  First messages (layer 5): hello.Parse of any bytes.
-/
import Derived.Test.YtjfhpafaopeogaaHeD
namespace Go.Proofs.Ytjfhpafaopeogaa
open Go.RowKit
set_option linter.unusedVariables false
set_option linter.unusedSimpArgs false

theorem parse_any (p : Option Addr) (l : List UInt8) (cap : Nat) (w : World) (hl : l.length ≤ 100000) (hb : BytesIn w p l) :
    Calls Try.prog 47 #[.slice p l.length cap] w (ParseR l w) := by
  by_cases h4 : l.length < 4
  · exact parse_short p l cap w h4
  · have h4' : 4 ≤ l.length := by omega
    by_cases h1 : numV l false 4 = 196608
    · exact parse_version p l cap w h4' hl hb h1
    · by_cases h2 : numV l false 4 = 80877102
      · exact parse_cancel p l cap w h4' hl hb h2
      · by_cases h3 : numV l false 4 = 80877103
        · exact parse_ssl p l cap w h4' hl hb h3
        · exact parse_kind p l cap w h4' hl hb h1 h2 h3

end Go.Proofs.Ytjfhpafaopeogaa
