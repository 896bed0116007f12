/-
  The walk of FramePieces (layer 4).
-/
import Derived.Test.YtpdkoijgemgaiaaFrP
namespace Go.Proofs.Ytpdkoijgemgaiaa
open Go.RowKit

/-- The second framer at the loop's head. -/
structure FpL (w4 w : World) (l : List UInt8) (g2 : Nat) (v2 vg : Value) (a : Nat) (got : List UInt8) : Prop where
  fr2 : FrO g2 w g2 true (takeF 600 (l.take a) 0).1 2000 4000 (takeF 600 (l.take a) 0).2 v2
  own : OwnBR w4.heap.size w vg got
  gl : got ++ (takeF 600 (l.take a) 0).1 = l.take a
  old : Touch (fun i => i = g2) w4 w
  row : ∀ k, rowOf v2 = some k → w4.heap.size ≤ k
  ne : ∀ k, rowOf v2 = some k → rowOf vg ≠ some k
  g2l : g2 < w4.heap.size
  al : a ≤ l.length
/-- The second framer when a piece is fed. -/
structure FpM (w4 w : World) (l : List UInt8) (g2 : Nat) (v2 vg : Value) (a k : Nat) (got : List UInt8) : Prop where
  fr2 : FrO g2 w g2 true ((takeF 600 (l.take a) 0).1 ++ (l.drop a).take k) 2000 4000 (takeF 600 (l.take a) 0).2 v2
  own : OwnBR w4.heap.size w vg got
  gl : got ++ (takeF 600 (l.take a) 0).1 = l.take a
  old : Touch (fun i => i = g2) w4 w
  row : ∀ k, rowOf v2 = some k → w4.heap.size ≤ k
  ne : ∀ k, rowOf v2 = some k → rowOf vg ≠ some k
  g2l : g2 < w4.heap.size
  al : a + k ≤ l.length
/-- The second framer when its messages are taken. -/
structure FpG (w4 w : World) (l : List UInt8) (g2 : Nat) (v2 vg : Value) (a : Nat) (got : List UInt8) (po : Option Addr) (out : List UInt8) : Prop where
  fr2 : FrO g2 w g2 true (takeF 600 (l.take a) 0).1 2000 4000 (takeF 600 (l.take a) 0).2 v2
  own : OwnBR w4.heap.size w vg got
  gl : got ++ out ++ (takeF 600 (l.take a) 0).1 = l.take a
  inn : BytesIn w po out
  old : Touch (fun i => i = g2) w4 w
  row : ∀ k, rowOf v2 = some k → w4.heap.size ≤ k
  ne : ∀ k, rowOf v2 = some k → rowOf vg ≠ some k
  g2l : g2 < w4.heap.size
  al : a ≤ l.length
section
variable {w4 w w' : World} {l got out : List UInt8} {g2 a k : Nat} {v2 v2' vg vo vg' : Value} {po : Option Addr}
theorem FpL.step (h : FpL w4 w l g2 v2 vg a got) (hb : Below w.heap.size w w') : FpL w4 w' l g2 v2 vg a got :=
  ⟨h.fr2.still hb, h.own.below hb, h.gl, h.old.trans (Touch.mono (Touch.of_below (p := fun _ => False) hb) (fun _ _ e => e.elim)), h.row, h.ne, h.g2l, h.al⟩
theorem FpM.step (h : FpM w4 w l g2 v2 vg a k got) (hb : Below w.heap.size w w') : FpM w4 w' l g2 v2 vg a k got :=
  ⟨h.fr2.still hb, h.own.below hb, h.gl, h.old.trans (Touch.mono (Touch.of_below (p := fun _ => False) hb) (fun _ _ e => e.elim)), h.row, h.ne, h.g2l, h.al⟩
theorem FpG.step (h : FpG w4 w l g2 v2 vg a got po out) (hb : Below w.heap.size w w') : FpG w4 w' l g2 v2 vg a got po out :=
  ⟨h.fr2.still hb, h.own.below hb, h.gl, h.inn.below hb, h.old.trans (Touch.mono (Touch.of_below (p := fun _ => False) hb) (fun _ _ e => e.elim)), h.row, h.ne, h.g2l, h.al⟩

theorem FpL.fed (h : FpL w4 w l g2 v2 vg a got) (hk : a + k ≤ l.length)
    (hf : FrO g2 w' g2 true ((takeF 600 (l.take a) 0).1 ++ (l.drop a).take k) 2000 4000 (takeF 600 (l.take a) 0).2 v2')
    (hr : ∀ k, rowOf v2' = some k → rowOf v2 = some k ∨ w.heap.size ≤ k) (hT : FrT g2 v2 w w') : FpM w4 w' l g2 v2' vg a k got := by
  have hz := h.old.size
  refine ⟨hf, h.own.touch hT (fun j hj e => ?_), h.gl, h.old.then hT (fun i hi e => ?_), fun j hj => ?_, fun j hj e => ?_, h.g2l, hk⟩
  · have h1 := (h.own.row j hj).1
    rcases e with e | e
    · have := h.g2l; omega
    · exact h.ne j e hj
  · rcases e with e | e
    · exact e
    · have := h.row i e; omega
  · rcases hr j hj with e | e
    · exact h.row j e
    · omega
  · have h1 := (h.own.row j e).2
    rcases hr j hj with e' | e'
    · exact h.ne j e' e
    · omega

theorem takeF_piece (l : List UInt8) (a k : Nat) (hk : a + k ≤ l.length) (hl : l.length ≤ 3000) : takeF 600 ((takeF 600 (l.take a) 0).1 ++ (l.drop a).take k) (takeF 600 (l.take a) 0).2 = takeF 600 (l.take (a + k)) 0 := by
  rw [← takeF_more 600 600 (l.take a) ((l.drop a).take k) (by simp; omega) (by simp; omega), List.take_add]

theorem FpM.took (h : FpM w4 w l g2 v2 vg a k got) (hl : l.length ≤ 3000) {e : Ending}
    (hR : TakeR g2 g2 ((takeF 600 (l.take a) 0).1 ++ (l.drop a).take k) (takeF 600 (l.take a) 0).2 v2 w e w') :
    ∃ po co out v2', e = .returned (.slice po out.length co) ∧ out.length ≤ 3000 ∧ FpG w4 w' l g2 v2' vg (a + k) got po out := by
  obtain ⟨vo, out, v2', rfl, ho, hall, hf, hr, hT⟩ := hR
  rw [takeF_piece l a k h.al hl] at hall hf
  obtain ⟨po, co, rfl, hB⟩ := ho.bytesS (S := fun _ => True) (fun _ _ => trivial)
  have hz := h.old.size
  have hlen : out.length ≤ 3000 := by
    have h1 := congrArg List.length hall
    have h2 := congrArg List.length h.gl
    simp at h1 h2
    omega
  refine ⟨po, co, out, v2', rfl, hlen, hf, h.own.touch hT (fun j hj e => ?_), ?_, hB.parts.2.2.2, h.old.then hT (fun i hi e => ?_), fun j hj => h.row j (hr j hj), fun j hj e => h.ne j (hr j hj) e, h.g2l, h.al⟩
  · have h1 := (h.own.row j hj).1
    rcases e with e | e
    · have := h.g2l; omega
    · exact h.ne j e hj
  · rw [List.append_assoc, hall, ← List.append_assoc, h.gl, List.take_add]
  · rcases e with e | e
    · exact e
    · have := h.row i e; omega

theorem FpG.put (h : FpG w4 w l g2 v2 vg a got po out) (ho : OwnBR w4.heap.size w' vg' (got ++ out)) (hg : w.grownBy w' (rowOf vg)) (hv : ∀ k, rowOf vg' = some k → rowOf vg = some k ∨ w.heap.size ≤ k) : FpL w4 w' l g2 v2 vg' a (got ++ out) := by
  have hT := Touch.of_row hg
  have hz := h.old.size
  refine ⟨h.fr2.touch hT (fun e => ?_) (fun k hk e => h.ne k hk e.symm), ho, h.gl, h.old.then hT (fun i hi e => ?_), h.row, fun k hk e => ?_, h.g2l, h.al⟩
  · have := (h.own.row _ e.symm).1; have := h.g2l; omega
  · have := (h.own.row _ e.symm).1; omega
  · rcases hv k e with e' | e'
    · exact h.ne k hk e'
    · have := (h.fr2.own.row k hk).2; omega
end

end Go.Proofs.Ytpdkoijgemgaiaa
