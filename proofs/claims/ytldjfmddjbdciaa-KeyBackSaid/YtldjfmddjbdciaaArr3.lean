/-
  '==' of two arrays of three texts.
-/
import Derived.Test.YtldjfmddjbdciaaFoF
namespace Go.Proofs.Ytldjfmddjbdciaa
open Go.RowKit
set_option linter.unusedVariables false
set_option linter.unusedSimpArgs false

set_option maxRecDepth 10000 in
theorem eql_str3 (a0 a1 a2 b0 b1 b2 : ByteArray) (w : World) :
    (binOp .eql 86 (.agg #[.string a0, .string a1, .string a2]) (.agg #[.string b0, .string b1, .string b2])).run Try.prog w = .ok (.bool ((a0.toList == b0.toList) && ((a1.toList == b1.toList) && (a2.toList == b2.toList)))) w := by
  have hu : Try.prog.underlying 86 = some (.array 3 9) := Try.underlying86
  have u2 := Try.underlying9
  have a2' := Try.isAgg9
  have z2 := Try.sizeOf9
  obtain ⟨d, hd⟩ : ∃ d : Nat, 10000 = d + 1 + 1 := ⟨9998, rfl⟩
  rw [run_eql_struct, hd, Op.equalIn]
  clear hd
  simp only [Sem.run_bind, run_underlying hu, Result.andThen_ok]
  rw [z2]
  simp only [Result.andThen_ok, Std.Legacy.Range.forIn_eq_forIn_range', Std.Legacy.Range.size, List.range', List.forIn_cons, List.forIn_nil, Sem.run_bind]
  go_simp
  by_cases h1 : a0.toList = b0.toList <;> by_cases h2 : a1.toList = b1.toList <;> by_cases h3 : a2.toList = b2.toList <;> simp [h1, h2, h3]

end Go.Proofs.Ytldjfmddjbdciaa
