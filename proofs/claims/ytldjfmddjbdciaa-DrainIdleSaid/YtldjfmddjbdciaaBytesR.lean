/-
  Byte slices of the call's own, whatever their room, and what reads as bytes.
-/
import Derived.Test.YtldjfmddjbdciaaShape
import Derived.Test.YtldjfmddjbdciaaBytes
import Derived.Test.YtldjfmddjbdciaaOwnTouch
import Derived.Test.YtldjfmddjbdciaaBytesEqual
namespace Go.Proofs.Ytldjfmddjbdciaa
open Go.RowKit

/-- A byte slice of the call's own. -/
def OwnBR (B : Nat) (w : World) (v : Value) (l : List UInt8) : Prop := OwnR B 5 1 w v l.length (bytesV l)

theorem OwnBR.slice {B : Nat} {w : World} {v : Value} {l : List UInt8} (h : OwnBR B w v l) :
    ∃ p c, v = .slice p l.length c ∧ l.length ≤ c ∧ c ≤ maxLen ∧ BytesIn w p l ∧ (l ≠ [] → ∀ a, p = some a → rowOf v = some a.block ∧ B ≤ a.block) := by
  obtain ⟨p, c, rfl, h1, h2, h3⟩ := OwnR.slice h
  have h4 : ∀ i, i < l.length → (bytesV l)[i]? = some (byteV (l.getD i 0)) := fun i hi => by simp [bytesV, List.getD, hi]
  refine ⟨p, c, rfl, h1, h2, fun i hi => ?_, fun hne a ha => ?_⟩
  · obtain ⟨g, rfl, _, _, hc⟩ := h3 i _ (h4 i hi)
    exact ⟨g, 0, rfl, by rw [Nat.zero_add]; exact hc⟩
  · obtain ⟨g, rfl, hg, hB, _⟩ := h3 0 _ (h4 0 (List.length_pos_iff.2 hne))
    cases ha
    exact ⟨hg, hB⟩

theorem OwnBR.bytesS {B : Nat} {w : World} {v : Value} {l : List UInt8} {S : Nat → Prop} (h : OwnBR B w v l) (hS : ∀ k, B ≤ k → S k) : ∃ p c, v = .slice p l.length c ∧ BytesS S w [.slice p l.length c] l := by
  obtain ⟨p, c, rfl, h1, h2, h3, h4⟩ := h.slice
  exact ⟨p, c, rfl, p, c, rfl, h1, h2, h3, fun hne a ha => hS _ (h4 hne a ha).2⟩

theorem OwnB.bytesS {B : Nat} {w : World} {v : Value} {l : List UInt8} {S : Nat → Prop} (h : OwnB B w v l) (hS : ∀ k, B ≤ k → S k) : ∃ p c, v = .slice p l.length c ∧ BytesS S w [.slice p l.length c] l := by
  obtain ⟨p, c, rfl, h1, h2, h3⟩ := h.slice
  refine ⟨p, c, rfl, p, c, rfl, h1, h2, h3, fun _ a ha => hS _ ?_⟩
  subst ha
  exact (h.lt a.block rfl).1

theorem BytesS.parts {S : Nat → Prop} {w : World} {p : Option Addr} {n c : Nat} {l : List UInt8} (h : BytesS S w [.slice p n c] l) : n = l.length ∧ l.length ≤ c ∧ c ≤ maxLen ∧ BytesIn w p l := by
  obtain ⟨p', c', h1, h2, h3, h4, _⟩ := h
  simp only [List.cons.injEq, Value.slice.injEq, and_true] at h1
  obtain ⟨rfl, rfl, rfl⟩ := h1
  exact ⟨rfl, h2, h3, h4⟩

theorem BytesS.below {S : Nat → Prop} {w w' : World} {cs : List Value} {l : List UInt8} (h : BytesS S w cs l) (hb : Below w.heap.size w w') : BytesS S w' cs l := BytesS.still _ _ _ _ _ _ h (Kept.all hb)

theorem BytesS.weak {S S' : Nat → Prop} {w : World} {cs : List Value} {l : List UInt8} (h : BytesS S w cs l) (hS : ∀ k, k < w.heap.size → S k → S' k) : BytesS S' w cs l := BytesS.still _ _ _ _ _ _ h (Kept.mono w hS)

theorem BytesS.of {S : Nat → Prop} {w : World} {p : Option Addr} {l : List UInt8} {c : Nat} (h1 : l.length ≤ c) (h2 : c ≤ maxLen) (h3 : BytesIn w p l) (h4 : l ≠ [] → ∀ a, p = some a → S a.block) : BytesS S w [.slice p l.length c] l := ⟨p, c, rfl, h1, h2, h3, h4⟩

theorem BytesS.any {S : Nat → Prop} {w : World} {cs : List Value} {l : List UInt8} (h : BytesS S w cs l) : BytesS (fun _ => True) w cs l := h.weak (fun _ _ _ => trivial)

theorem OwnBR.empty (B : Nat) (w : World) (p : Option Addr) : OwnBR B w (.slice p 0 0) [] := OwnR.empty _ _ _ _ p
theorem OwnBR.row {B : Nat} {w : World} {v : Value} {l : List UInt8} (h : OwnBR B w v l) : ∀ k, rowOf v = some k → B ≤ k ∧ k < w.heap.size := OwnR.row h
theorem OwnBR.touch {B : Nat} {w w' : World} {v : Value} {l : List UInt8} {p : Nat → Prop} (h : OwnBR B w v l) (ht : Touch p w w') (hp : ∀ k, rowOf v = some k → ¬ p k) : OwnBR B w' v l := OwnR.touch h ht hp
theorem OwnBR.below {B : Nat} {w w' : World} {v : Value} {l : List UInt8} (h : OwnBR B w v l) (hb : Below w.heap.size w w') : OwnBR B w' v l := OwnR.keep h (fun k hk => hb.block k (OwnR.row h k hk).2)
theorem OwnBR.alloc {B : Nat} {w : World} {v : Value} {l : List UInt8} (h : OwnBR B w v l) (o : Obj) : OwnBR B (w.alloc o) v l := OwnR.keep h (fun k hk => Below.heap_alloc w o k (OwnR.row h k hk).2)

/-- 'append' of bytes onto a byte slice of the call's own. -/
theorem step_appendBR {ops : Array Oper} {rest : List Oper} {o : Oper} {a : Act} {Q : Exit → Act → World → Prop} (w : World) (hgd : o.guard = none) (s y : Operand)
    (ho : o.op = .call { callee := .builtin .append, args := #[s, y], argTypes := #[38, 38] })
    (B : Nat) (v : Value) (l : List UInt8) (hsv : a.eval s = v) (hown : OwnBR B w v l) (p : Option Addr) (m : List UInt8) (k c : Nat) (hkm : m.length = k) (hx : a.eval y = .slice p k c) (hin : BytesIn w p m)
    (hroom : l.length + m.length ≤ 140737488355328) (hbase : B ≤ w.heap.size)
    (h : ∀ v' w', OwnBR B w' v' (l ++ m) → w.grownBy w' (rowOf v) → (∀ k, rowOf v' = some k → rowOf v = some k ∨ w.heap.size ≤ k) → wpList Try.prog ops Q rest (a.put o.dst v') w') : wpList Try.prog ops Q (o :: rest) a w := by
  subst hkm
  obtain ⟨i0, hi, hz0, hz1, hz2⟩ := info_parts Try.info5
  refine wpList_append_R w hgd s y 38 38 ho B 5 i0 (.int .u8 0) 1 1 Try.underlying38 hi hz0 hz1 hz2 rfl v _ _ hsv hown _ m.length _ hx (hin.src Try.underlying38 c)
    (by simp only [maxLen]; omega) (by omega) hbase ?_
  intro v' w' h1 h2 h3
  refine h v' w' ?_ h2 h3
  unfold OwnBR
  rw [List.length_append, ← bytesV_append]
  exact h1

/-- The same as a step of a region that draws its order. -/
theorem rgn_appendBR {ops : Array Oper} {o : Oper} {a : Act} {w : World} {K : Act → World → Prop} {Q : Exit → Act → World → Prop} {E : Prop} (hgd : o.guard = none) (s y : Operand)
    (ho : o.op = .call { callee := .builtin .append, args := #[s, y], argTypes := #[38, 38] })
    (B : Nat) (v : Value) (l : List UInt8) (hsv : a.eval s = v) (hown : OwnBR B w v l) (p : Option Addr) (m : List UInt8) (k c : Nat) (hkm : m.length = k) (hx : a.eval y = .slice p k c) (hin : BytesIn w p m)
    (hroom : l.length + m.length ≤ 140737488355328) (hbase : B ≤ w.heap.size)
    (h : ∀ v' w', OwnBR B w' v' (l ++ m) → w.grownBy w' (rowOf v) → (∀ k, rowOf v' = some k → rowOf v = some k ∨ w.heap.size ≤ k) → K (a.put o.dst v') w') :
    if Region.wanted o (yielded ops a.tmps) = true then Oper.wp Try.prog o a w K Q else E := by
  have hw : Region.wanted o (yielded ops a.tmps) = true := by simp [Region.wanted, hgd]
  rw [if_pos hw]
  subst hkm
  obtain ⟨i0, hi, hz0, hz1, hz2⟩ := info_parts Try.info5
  obtain ⟨v', w', hrun, h1, h2, h3⟩ := run_append_R (P := Try.prog) 38 38 o.type i0 (.int .u8 0) 1 Try.underlying38 hi hz0 hz1 hz2 rfl hown _ m.length _ (hin.src Try.underlying38 c)
    (by simp only [maxLen]; omega) (by omega) hbase
  unfold Oper.wp
  simp [execOp, ho, resolve, invoke, builtin, hsv, hx, hrun, Result.andThen]
  refine h v' w' ?_ h2 h3
  unfold OwnBR
  rw [List.length_append, ← bytesV_append]
  exact h1

theorem OwnBR.of {B : Nat} {w : World} {v : Value} {l : List UInt8} (h : OwnB B w v l) : OwnBR B w v l := by
  refine ⟨h.1, ?_⟩
  rcases h.2 with ⟨rfl, h0⟩ | ⟨g, cap, cur, rfl, h1, h2, h3, h4, h5, h6⟩
  · exact .inl ⟨none, rfl, h0⟩
  · by_cases hc : cap = 0
    · subst hc
      have h0 : l.length = 0 := by omega
      rw [h0]
      exact .inl ⟨_, rfl, rfl⟩
    · exact .inr ⟨g, cap, cur, rfl, by omega, h1, h2, h3, h4, h5, h6⟩

theorem Below.of_row {B : Nat} {w w' : World} {row : Option Nat} (h : w.grownBy w' row) (hB : B ≤ w.heap.size) (hr : ∀ k, row = some k → B ≤ k) : Below B w w' :=
  (Touch.of_row h).below hB (fun k hk => hr k hk.symm)

end Go.Proofs.Ytldjfmddjbdciaa
