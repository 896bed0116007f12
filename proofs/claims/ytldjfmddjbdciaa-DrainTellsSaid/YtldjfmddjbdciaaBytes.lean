/-
  Byte slices of the call's own, and appends onto them.
-/
import Derived.Test.YtldjfmddjbdciaaAppend
namespace Go.Proofs.Ytldjfmddjbdciaa
open Go.RowKit

theorem Try.info5 : (Try.prog.info? 5).map (fun i => (i.zero, i.size, i.bytes)) = some (some (.int .u8 0), 1, 1) := by kernel_rfl

/-- A byte slice of the call's own. -/
def OwnB (B : Nat) (w : World) (v : Value) (l : List UInt8) : Prop := w.ownsRow B 5 1 v l.length (bytesV l)

theorem OwnB.slice {B : Nat} {w : World} {v : Value} {l : List UInt8} (h : OwnB B w v l) :
    ∃ p c, v = .slice p l.length c ∧ l.length ≤ c ∧ c ≤ maxLen ∧ BytesIn w p l := ownsRow_bytesIn h

/-- 'append' of bytes onto a byte slice of the call's own. -/
theorem step_appendB {ops : Array Oper} {rest : List Oper} {o : Oper} {a : Act} {Q : Exit → Act → World → Prop} (w : World) (hgd : o.guard = none) (s y : Operand)
    (ho : o.op = .call { callee := .builtin .append, args := #[s, y], argTypes := #[38, 38] })
    (B : Nat) (v : Value) (l : List UInt8) (hsv : a.eval s = v) (hown : OwnB B w v l) (p : Option Addr) (m : List UInt8) (c : Nat) (hx : a.eval y = .slice p m.length c) (hin : BytesIn w p m)
    (hroom : l.length + m.length ≤ 140737488355328) (hbase : B ≤ w.heap.size)
    (h : ∀ v' w', OwnB B w' v' (l ++ m) → Below B w w' → w.grownBy w' v.ownBlock → wpList Try.prog ops Q rest (a.put o.dst v') w') : wpList Try.prog ops Q (o :: rest) a w := by
  obtain ⟨i0, hi, hz0, hz1, hz2⟩ := info_parts Try.info5
  refine wpList_append_src w hgd s y 38 38 ho B 5 i0 (.int .u8 0) 1 1 Try.underlying38 hi hz0 hz1 hz2 rfl (by decide) v _ _ hsv hown _ m.length _ hx (hin.src Try.underlying38 c)
    (by simp only [maxLen]; omega) (by omega) hbase ?_
  intro v' w' h1 h2 _ _
  refine h v' w' ?_ ((Below.refl _ _).grown h2 hbase (fun k hk => (hown.lt k hk).1)) h2
  unfold OwnB
  rw [List.length_append, ← bytesV_append]
  exact h1

/-- The same, and where the new row lies. -/
theorem step_appendB' {ops : Array Oper} {rest : List Oper} {o : Oper} {a : Act} {Q : Exit → Act → World → Prop} (w : World) (hgd : o.guard = none) (s y : Operand)
    (ho : o.op = .call { callee := .builtin .append, args := #[s, y], argTypes := #[38, 38] })
    (B : Nat) (v : Value) (l : List UInt8) (hsv : a.eval s = v) (hown : OwnB B w v l) (p : Option Addr) (m : List UInt8) (k c : Nat) (hkm : m.length = k) (hx : a.eval y = .slice p k c) (hin : BytesIn w p m)
    (hroom : l.length + m.length ≤ 140737488355328) (hbase : B ≤ w.heap.size)
    (h : ∀ v' w', OwnB B w' v' (l ++ m) → w.grownBy w' v.ownBlock → (∀ k, v'.ownBlock = some k → v.ownBlock = some k ∨ w.heap.size ≤ k) → wpList Try.prog ops Q rest (a.put o.dst v') w') : wpList Try.prog ops Q (o :: rest) a w := by
  subst hkm
  obtain ⟨i0, hi, hz0, hz1, hz2⟩ := info_parts Try.info5
  refine wpList_append_src w hgd s y 38 38 ho B 5 i0 (.int .u8 0) 1 1 Try.underlying38 hi hz0 hz1 hz2 rfl (by decide) v _ _ hsv hown _ m.length _ hx (hin.src Try.underlying38 c)
    (by simp only [maxLen]; omega) (by omega) hbase ?_
  intro v' w' h1 h2 _ h3
  refine h v' w' ?_ h2 h3
  unfold OwnB
  rw [List.length_append, ← bytesV_append]
  exact h1

theorem OwnB.empty {B : Nat} {w : World} (hb : B ≤ w.heap.size) : OwnB B (w.alloc (.cells #[] 5)) (.slice (some ⟨w.heap.size, 0, none⟩) 0 0) [] :=
  World.ownsRow_made w #[] 0 hb (by simp [maxLen]) rfl

theorem OwnB.none (B : Nat) (w : World) : OwnB B w (.slice none 0 0) [] := World.ownsRow_nil w B _ 1

theorem BytesIn.alloc {w : World} {p : Option Addr} {l : List UInt8} (h : BytesIn w p l) (o : Obj) : BytesIn (w.alloc o) p l := by
  intro i hi
  obtain ⟨b, o', e, hc⟩ := h i hi
  refine ⟨b, o', e, ?_⟩
  have hlt := World.block_lt_of_cell? w _ hc
  rw [← hc]
  exact World.cell?_of_block (Below.heap_alloc w o _ hlt)

theorem OwnB.alloc {B : Nat} {w : World} {v : Value} {l : List UInt8} (h : OwnB B w v l) (o : Obj) : OwnB B (w.alloc o) v l := World.ownsRow.alloc h o

theorem BytesIn.new1 (w : World) (c : UInt8) (X : Int) (e : TypeId) (h : (c.toNat : Int) = X) : BytesIn (w.alloc (.cells #[.int .u8 X] e)) (some ⟨w.heap.size, 0, none⟩) [c] := by
  intro i hi
  obtain rfl : i = 0 := by simpa using hi
  subst h
  exact ⟨_, _, rfl, by simp⟩

theorem BytesIn.newB (w : World) (l : List UInt8) (cs : Array Value) (e : TypeId) (h : cs.toList = bytesV l) : BytesIn (w.alloc (.cells cs e)) (some ⟨w.heap.size, 0, none⟩) l := by
  intro i hi
  refine ⟨_, _, rfl, ?_⟩
  rw [Nat.zero_add]
  have : cs[i]? = some (byteV (l.getD i 0)) := by
    rw [← Array.getElem?_toList, h]
    simp [bytesV, List.getD, hi]
  simpa [byteV] using this

theorem BytesIn.below {w w' : World} {p : Option Addr} {l : List UInt8} (h : BytesIn w p l) (hb : Below w.heap.size w w') : BytesIn w' p l := by
  intro i hi
  obtain ⟨b, o, e, hc⟩ := h i hi
  refine ⟨b, o, e, ?_⟩
  rw [hb.cell (p := ⟨b, o + i, none⟩) (World.block_lt_of_cell? w _ hc)]
  exact hc

end Go.Proofs.Ytldjfmddjbdciaa
