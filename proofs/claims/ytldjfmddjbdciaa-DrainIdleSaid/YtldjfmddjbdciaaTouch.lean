/-
  Frames: which blocks of the old memory may have turned.
-/
import Derived.Test.YtldjfmddjbdciaaBase
import Derived.Deep.Draws
namespace Go.Proofs.Ytldjfmddjbdciaa
open Go.RowKit

/-- But for the blocks of p, and what is new, memory is as it was. -/
structure Touch (p : Nat → Prop) (w w' : World) : Prop where
  os : w'.os = w.os
  tape : w'.tape = w.tape
  output : w'.output = w.output
  size : w.heap.size ≤ w'.heap.size
  block : ∀ k, k < w.heap.size → ¬ p k → w'.heap[k]? = w.heap[k]?

theorem Touch.refl (p : Nat → Prop) (w : World) : Touch p w w := ⟨rfl, rfl, rfl, Nat.le_refl _, fun _ _ _ => rfl⟩
theorem Touch.trans {p : Nat → Prop} {a b c : World} (h : Touch p a b) (k : Touch p b c) : Touch p a c :=
  ⟨k.os.trans h.os, k.tape.trans h.tape, k.output.trans h.output, Nat.le_trans h.size k.size, fun i hi hp => (k.block i (Nat.lt_of_lt_of_le hi h.size) hp).trans (h.block i hi hp)⟩
theorem Touch.mono {p q : Nat → Prop} {a b : World} (h : Touch p a b) (hpq : ∀ k, k < a.heap.size → p k → q k) : Touch q a b :=
  ⟨h.os, h.tape, h.output, h.size, fun i hi hq => h.block i hi (fun hp => hq (hpq i hi hp))⟩
/-- A second step, whatever it does to what the first one made. -/
theorem Touch.then {p q : Nat → Prop} {a b c : World} (h : Touch p a b) (k : Touch q b c) (hq : ∀ i, i < a.heap.size → q i → p i) : Touch p a c :=
  ⟨k.os.trans h.os, k.tape.trans h.tape, k.output.trans h.output, Nat.le_trans h.size k.size, fun i hi hp => (k.block i (Nat.lt_of_lt_of_le hi h.size) (fun hqi => hp (hq i hi hqi))).trans (h.block i hi hp)⟩
theorem Touch.drew {p : Nat → Prop} {a w : World} (h : Touch p a w) : Touch p a w.drew := ⟨h.os, h.tape, h.output, h.size, h.block⟩
theorem Touch.drewN {p : Nat → Prop} {a w : World} (h : Touch p a w) (n : Nat) : Touch p a (w.drewN n) := ⟨h.os, h.tape, h.output, h.size, h.block⟩
theorem Touch.alloc {p : Nat → Prop} {a w : World} (h : Touch p a w) (o : Obj) : Touch p a (w.alloc o) :=
  ⟨h.os, h.tape, h.output, Nat.le_trans h.size (by simp), fun i hi hp => (Below.heap_alloc w o i (Nat.lt_of_lt_of_le hi h.size)).trans (h.block i hi hp)⟩
theorem Touch.setCell {p : Nat → Prop} {a w : World} (h : Touch p a w) {x : Addr} (hx : x.block < a.heap.size → p x.block) (u : Value) : Touch p a (w.setCell x u) :=
  ⟨h.os, h.tape, h.output, by simpa [World.setCell] using h.size, fun i hi hp => (Below.heap_setCell w x u i (fun e => by subst e; exact hp (hx hi))).trans (h.block i hi hp)⟩
theorem Touch.of_below {p : Nat → Prop} {a w : World} (h : Below a.heap.size a w) : Touch p a w := ⟨h.os, h.tape, h.output, h.size, fun i hi _ => h.block i hi⟩
theorem Touch.below {p : Nat → Prop} {a w : World} (h : Touch p a w) {B : Nat} (hB : B ≤ a.heap.size) (hp : ∀ k, p k → B ≤ k) : Below B a w :=
  ⟨h.os, h.tape, h.output, h.size, fun i hi => h.block i (by omega) (fun hpi => by have := hp i hpi; omega)⟩
theorem Touch.blk {p : Nat → Prop} {a w : World} (h : Touch p a w) {g : Nat} {t : TypeId} {cs : Array Value} (hb : Blk a g t cs) (hp : ¬ p g) : Blk w g t cs := (h.block g hb.lt hp).trans hb
theorem Touch.cell {p : Nat → Prop} {a w : World} (h : Touch p a w) {x : Addr} (hx : x.block < a.heap.size) (hp : ¬ p x.block) : w.cell? x = a.cell? x := World.cell?_of_block (h.block x.block hx hp)
theorem Touch.bytesIn {p : Nat → Prop} {a w : World} (h : Touch p a w) {q : Option Addr} {l : List UInt8} (hb : BytesIn a q l) (hp : l ≠ [] → ∀ x, q = some x → ¬ p x.block) : BytesIn w q l := by
  intro i hi
  obtain ⟨b, o, e, hc⟩ := hb i hi
  refine ⟨b, o, e, ?_⟩
  have hlt := World.block_lt_of_cell? a _ hc
  rw [h.cell (x := ⟨b, o + i, none⟩) hlt (hp (by rintro rfl; simp at hi) ⟨b, o, none⟩ e)]
  exact hc
theorem Blk.drew {w : World} {g : Nat} {t : TypeId} {cs : Array Value} (h : Blk w g t cs) : Blk w.drew g t cs := h
theorem Blk.drewN {w : World} {g : Nat} {t : TypeId} {cs : Array Value} (h : Blk w g t cs) (n : Nat) : Blk (w.drewN n) g t cs := h
theorem BytesIn.drewN {w : World} {q : Option Addr} {l : List UInt8} (h : BytesIn w q l) (n : Nat) : BytesIn (w.drewN n) q l := h

theorem BytesIn.drop {w : World} {b o : Nat} {l : List UInt8} (h : BytesIn w (some ⟨b, o, none⟩) l) (k : Nat) : BytesIn w (some ⟨b, o + k, none⟩) (l.drop k) := by
  intro i hi
  rw [List.length_drop] at hi
  refine ⟨b, o + k, rfl, ?_⟩
  have := h.cellAt (k + i) (by omega)
  rw [← Nat.add_assoc] at this
  rw [this]
  simp only [List.getD, List.getElem?_drop]
theorem BytesIn.take {w : World} {p : Option Addr} {l : List UInt8} (h : BytesIn w p l) (k : Nat) : BytesIn w p (l.take k) := by
  intro i hi
  rw [List.length_take] at hi
  obtain ⟨b, o, e, hc⟩ := h i (by omega)
  refine ⟨b, o, e, ?_⟩
  rw [hc]
  simp only [List.getD, List.getElem?_take, if_pos (show i < k by omega)]

end Go.Proofs.Ytldjfmddjbdciaa
