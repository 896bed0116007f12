/-
  The contract of bytes.IndexByte: the place of the first such byte, or -1.
-/
import Derived.Test.YtldjfmddjbdciaaBase
import Derived.Lib.BytesEntry
namespace Go.Proofs.Ytldjfmddjbdciaa
open Go.RowKit

set_option maxRecDepth 100000 in
theorem run_indexBytes (w : World) (p : Option Addr) (l : List UInt8) (c : Nat) (cv : Int) (hin : BytesIn w p l) :
    (Extern.BytealgIndexByte.indexByte #[.slice p l.length c, .int .u8 cv]).run Try.prog w = .ok (.int .i64 (Lib.indexByte l cv.toNat.toUInt8)) w := by
  by_cases h0 : l = []
  · subst h0
    cases p with
    | none => exact Lib.run_indexByteNil w 0 c cv
    | some a =>
      have hs := Lib.run_indexByteString (P := Try.prog) .empty cv w
      exact hs
  · obtain ⟨b, o, rfl⟩ := hin.addr (List.length_pos_iff.2 h0)
    have := Lib.run_indexByteSlice (P := Try.prog) w b o l.length c (l.map fun x => (x.toNat : Int)) (by simp) (fun i hi => by
      rw [hin.cellAt i hi]; simp [List.getD, hi]) cv
    rw [this]
    have e : Lib.bytesOf (l.map fun x => (x.toNat : Int)) = l := by simp [Lib.bytesOf, Function.comp_def]
    rw [e]

set_option maxRecDepth 100000 in
theorem bytesIndexByte (p : Option Addr) (l : List UInt8) (c : Nat) (cv : Int) (w : World) (hin : BytesIn w p l) :
    Calls Try.prog 67 #[.slice p l.length c, .int .u8 cv] w fun e w' => e = .returned (.int .i64 (Lib.indexByte l cv.toNat.toUInt8)) ∧ w = w' := by
  have hrun := run_indexBytes w p l c cv hin
  generalize Lib.indexByte l cv.toNat.toUInt8 = r at hrun
  have Hrun := Lib.hid hrun
  clear hrun
  go_enter Try.func67, Try.ntmps67
  go_wp2
  rw [run_callFunc_extern Try.func88 (by kernel_rfl) (by kernel_rfl) (by kernel_rfl) (e := Extern.BytealgIndexByte.indexByte) (by kernel_rfl), Hrun.out]
  simp only [Result.andThen]
  rw [Oper.upon_value]
  go_wp2
  go_ret
  exact ⟨rfl, rfl⟩

/-- Where the first such byte stands: those ahead of it are others. -/
theorem indexByte_spec (l : List UInt8) (c : UInt8) : Lib.indexByte l c = -1 ∨ ∃ k : Nat, Lib.indexByte l c = k ∧ k < l.length := by
  induction l with
  | nil => exact .inl rfl
  | cons b l ih =>
    unfold Lib.indexByte
    by_cases hb : (b == c) = true
    · rw [if_pos hb]; exact .inr ⟨0, rfl, by simp⟩
    · rw [if_neg hb]
      rcases ih with h | ⟨k, h, hk⟩
      · rw [h]; exact .inl rfl
      · rw [h, if_neg (by simp)]
        exact .inr ⟨k + 1, by omega, by simpa using hk⟩

end Go.Proofs.Ytldjfmddjbdciaa
