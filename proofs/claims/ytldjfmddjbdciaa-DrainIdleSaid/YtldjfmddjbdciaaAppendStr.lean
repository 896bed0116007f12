/-
  'append' of a text onto a byte slice of the call's own.
-/
import Derived.Test.YtldjfmddjbdciaaBytesR
namespace Go.Proofs.Ytldjfmddjbdciaa
open Go.RowKit Go.ChangeShapes Go.WideShapes Go.Deep
set_option linter.unusedVariables false
set_option linter.unusedSimpArgs false

theorem byteCells_V (s : ByteArray) : byteCells s = bytesV s.data.toList := rfl
theorem size_data (s : ByteArray) : s.size = s.data.toList.length := by simp

theorem step_appendStr {ops : Array Oper} {rest : List Oper} {o : Oper} {a : Act} {Q : Exit → Act → World → Prop} (w : World) (hgd : o.guard = none) (s y : Operand)
    (ho : o.op = .call { callee := .builtin .append, args := #[s, y], argTypes := #[38, 9] })
    (B : Nat) (v : Value) (l : List UInt8) (hsv : a.eval s = v) (hown : OwnBR B w v l) (t : ByteArray) (hx : a.eval y = .string t)
    (hroom : l.length + t.data.toList.length ≤ 140737488355328) (hbase : B ≤ w.heap.size)
    (h : ∀ v' w', OwnBR B w' v' (l ++ t.data.toList) → w.grownBy w' (rowOf v) → (∀ k, rowOf v' = some k → rowOf v = some k ∨ w.heap.size ≤ k) → wpList Try.prog ops Q rest (a.put o.dst v') w') : wpList Try.prog ops Q (o :: rest) a w := by
  obtain ⟨i0, hi, hz0, hz1, hz2⟩ := info_parts Try.info5
  refine wpList_append_R w hgd s y 38 9 ho B 5 i0 (.int .u8 0) 1 1 Try.underlying38 hi hz0 hz1 hz2 rfl v _ _ hsv hown _ t.size (byteCells t) hx (Src.ofString w Try.underlying9 t)
    (by rw [size_data]; simp only [maxLen]; omega) (by rw [size_data]; omega) hbase ?_
  intro v' w' h1 h2 h3
  refine h v' w' ?_ h2 h3
  unfold OwnBR
  rw [List.length_append, ← bytesV_append, ← byteCells_V, ← size_data]
  exact h1

/-- The same as a step of a region that draws its order. -/
theorem rgn_appendStr {ops : Array Oper} {o : Oper} {a : Act} {w : World} {K : Act → World → Prop} {Q : Exit → Act → World → Prop} {E : Prop} (hgd : o.guard = none) (s y : Operand)
    (ho : o.op = .call { callee := .builtin .append, args := #[s, y], argTypes := #[38, 9] })
    (B : Nat) (v : Value) (l : List UInt8) (hsv : a.eval s = v) (hown : OwnBR B w v l) (t : ByteArray) (hx : a.eval y = .string t)
    (hroom : l.length + t.data.toList.length ≤ 140737488355328) (hbase : B ≤ w.heap.size)
    (h : ∀ v' w', OwnBR B w' v' (l ++ t.data.toList) → w.grownBy w' (rowOf v) → (∀ k, rowOf v' = some k → rowOf v = some k ∨ w.heap.size ≤ k) → K (a.put o.dst v') w') :
    if Region.wanted o (yielded ops a.tmps) = true then Oper.wp Try.prog o a w K Q else E := by
  have hw : Region.wanted o (yielded ops a.tmps) = true := by simp [Region.wanted, hgd]
  rw [if_pos hw]
  obtain ⟨i0, hi, hz0, hz1, hz2⟩ := info_parts Try.info5
  obtain ⟨v', w', hrun, h1, h2, h3⟩ := run_append_R (P := Try.prog) 38 9 o.type i0 (.int .u8 0) 1 Try.underlying38 hi hz0 hz1 hz2 rfl hown _ t.size (byteCells t) (Src.ofString w Try.underlying9 t)
    (by rw [size_data]; simp only [maxLen]; omega) (by rw [size_data]; omega) hbase
  unfold Oper.wp
  simp [execOp, ho, resolve, invoke, builtin, hsv, hx, hrun, Result.andThen]
  refine h v' w' ?_ h2 h3
  unfold OwnBR
  rw [List.length_append, ← bytesV_append, ← byteCells_V, ← size_data]
  exact h1

end Go.Proofs.Ytldjfmddjbdciaa
