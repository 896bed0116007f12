/-
  The contract of strings.IndexByte: the place of the first such byte, or -1.
-/
import Derived.Test.YtldjfmddjbdciaaBase
import Derived.Lib.Bytealg
namespace Go.Proofs.Ytldjfmddjbdciaa
open Go.RowKit

set_option maxRecDepth 100000 in
theorem stringsliteIndexByte (s : ByteArray) (c : Int) (w : World) :
    Calls Try.prog 110 #[.string s, .int .u8 c] w fun e w' => e = .returned (.int .i64 (Lib.indexByte s.data.toList c.toNat.toUInt8)) ∧ w = w' := by
  go_enter Try.func110, Try.ntmps110
  go_wp2
  rw [run_callFunc_extern Try.func111 (by kernel_rfl) (by kernel_rfl) (by kernel_rfl) (e := Extern.BytealgIndexByte.indexByte) (by kernel_rfl), Lib.run_indexByteString]
  simp only [Result.andThen]
  rw [Oper.upon_value]
  go_wp2
  go_ret
  exact ⟨rfl, rfl⟩

theorem stringsIndexByte (s : ByteArray) (c : Int) (w : World) :
    Calls Try.prog 104 #[.string s, .int .u8 c] w fun e w' => e = .returned (.int .i64 (Lib.indexByte s.data.toList c.toNat.toUInt8)) ∧ w = w' := by
  go_enter Try.func104, Try.ntmps104
  go_wp2_with (first | (go_at_call 110; refine (stringsliteIndexByte _ _ _).mono ?_; rintro e w' ⟨rfl, rfl⟩))
  go_ret
  exact ⟨rfl, rfl⟩

/-- There is none just if the byte is not among them. -/
theorem indexByte_neg (l : List UInt8) (c : UInt8) : (Lib.indexByte l c < 0) ↔ c ∉ l := by
  induction l with
  | nil => simp [Lib.indexByte]
  | cons b l ih =>
    have hge := Lib.indexByte_ge l c
    unfold Lib.indexByte
    by_cases hb : b = c
    · subst hb; simp
    · have hb' : (b == c) = false := by simpa using hb
      have hcb : ¬ c = b := fun e => hb e.symm
      rw [hb']
      simp only [Bool.false_eq_true, if_false, List.mem_cons, hcb, false_or, ← ih]
      split
      · rename_i h; simp at h; omega
      · rename_i h; simp at h; omega

end Go.Proofs.Ytldjfmddjbdciaa
