/-
  Messages of clients (layer 6): what a body says, by its code: a plain law, and steps put together.
-/
import Derived.Test.YtldjfmddjbdciaaFoT
import Derived.Test.YtldjfmddjbdciaaPackB
namespace Go.Proofs.Ytldjfmddjbdciaa
open Go.RowKit
set_option linter.unusedVariables false
set_option linter.unusedSimpArgs false

def foZero (k : Int) : FoV := ⟨k, 0, ⟨#[]⟩, ⟨#[]⟩, ⟨#[]⟩, [], [], [], [], 0⟩
/-- What a body says, by its code, and what is left behind it. -/
def readP (k : Int) (L : List UInt8) : Option (FoV × List UInt8) :=
  if k = 80 then (textQ L).bind fun a => (textQ a.2).bind fun b => (listQ 4 b.2).bind fun c => some ({ foZero k with name := a.1, text := b.1, oids := c.1 }, c.2)
  else if k = 66 then (textQ L).bind fun a => (textQ a.2).bind fun b => (listQ 2 b.2).bind fun c => (rowQ c.2).bind fun d => (listQ 2 d.2).bind fun e =>
    some ({ foZero k with portal := a.1, name := b.1, formats := c.1, params := d.1, results := e.1 }, e.2)
  else if k = 67 ∨ k = 68 then (numP 1 L).bind fun a => (textQ a.2).bind fun b => some ((if a.1 = 83 then { foZero k with what := a.1, name := b.1 } else { foZero k with what := a.1, portal := b.1 }), b.2)
  else if k = 69 then (textQ L).bind fun a => (numP 4 a.2).bind fun b => some ({ foZero k with portal := a.1, max := signedV b.1 4 }, b.2)
  else if k = 81 then (textQ L).bind fun a => some ({ foZero k with text := a.1 }, a.2)
  else some (foZero k, L)

section
variable {α β : Type} {L L1 L2 : List UInt8} {bad b1 b2 : Bool}
theorem StepO.bind {P : List UInt8 → Option (α × List UInt8)} {Q : α → List UInt8 → Option (β × List UInt8)} {x : α} {y : β}
    (h : StepO L bad P x L1 b1) (k : StepO L1 b1 (Q x) y L2 b2) : StepO L bad (fun L => (P L).bind fun a => Q a.1 a.2) y L2 b2 := by
  obtain ⟨h1, h2, h3⟩ := h
  obtain ⟨k1, k2, k3⟩ := k
  refine ⟨fun e => ?_, fun e => ?_, Nat.le_trans k3 h3⟩
  · obtain ⟨e1, q⟩ := k1 e
    obtain ⟨e0, p⟩ := h1 e1
    exact ⟨e0, by show (P L).bind _ = _; rw [p]; exact q⟩
  · cases hb : b1 with
    | true =>
      rcases h2 hb with e0 | p
      · exact .inl e0
      · exact .inr (by show (P L).bind _ = _; rw [p]; rfl)
    | false =>
      obtain ⟨e0, p⟩ := h1 hb
      rcases k2 e with e1 | q
      · rw [hb] at e1; cases e1
      · exact .inr (by show (P L).bind _ = _; rw [p]; exact q)
theorem StepO.ret (x : α) : StepO L bad (fun L => some (x, L)) x L bad := ⟨fun e => ⟨e, rfl⟩, fun e => .inl e, Nat.le_refl _⟩
theorem StepO.of_eq {P Q : List UInt8 → Option (α × List UInt8)} {x : α} (h : StepO L bad P x L1 b1) (e : ∀ l, Q l = P l) : StepO L bad Q x L1 b1 :=
  ⟨fun a => ⟨(h.1 a).1, (e L).trans (h.1 a).2⟩, fun a => (h.2.1 a).imp id fun q => (e L).trans q, h.2.2⟩
theorem StepO.num {E : List UInt8} (hE : E = [] ∨ E = L) (z : Nat) : StepO L bad (numP z) (numV L bad z) (nx (numOk L bad z) (L.drop (z : Int).toNat) E) (!numOk L bad z) := by
  have hn := nx_drop (numOk L bad z) L E (z : Int).toNat hE
  refine ⟨fun e => ?_, fun e => ?_, hn.2.1⟩
  · have e1 : numOk L bad z = true := by simpa using e
    have e0 : bad = false := by unfold numOk at e1; simp only [Bool.and_eq_true, Bool.not_eq_true'] at e1; exact e1.1.1
    subst e0
    exact ⟨rfl, by rw [hn.1 e1]; unfold numP; rw [if_pos e1]; rfl⟩
  · have e1 : numOk L bad z = false := by simpa using e
    cases bad with
    | true => exact .inl rfl
    | false => exact .inr (by unfold numP; rw [if_neg (by rw [e1]; exact Bool.false_ne_true)])
theorem StepO.text {E : List UInt8} (hE : E = [] ∨ E = L) : StepO L bad textQ (textV L bad) (nx (textOk L bad) (L.drop ((Lib.indexByte L 0).toNat + 1)) E) (!textOk L bad) := by
  have hn := nx_drop (textOk L bad) L E ((Lib.indexByte L 0).toNat + 1) hE
  refine ⟨fun e => ?_, fun e => ?_, hn.2.1⟩
  · have e1 : textOk L bad = true := by simpa using e
    have e0 : bad = false := by unfold textOk at e1; simp only [Bool.and_eq_true, Bool.not_eq_true'] at e1; exact e1.1
    subst e0
    exact ⟨rfl, by rw [hn.1 e1]; unfold textQ; rw [if_pos e1]⟩
  · have e1 : textOk L bad = false := by simpa using e
    cases bad with
    | true => exact .inl rfl
    | false => exact .inr (by unfold textQ; rw [if_neg (by rw [e1]; exact Bool.false_ne_true)])
end

section
variable {L L1 L2 L3 L4 L5 : List UInt8} {bad b1 b2 b3 b4 b5 : Bool}
theorem readP_P {n t : ByteArray} {o : List Int} (h1 : StepO L bad textQ n L1 b1) (h2 : StepO L1 b1 textQ t L2 b2) (h3 : StepO L2 b2 (listQ 4) o L3 b3) :
    StepO L bad (readP 80) { foZero 80 with name := n, text := t, oids := o } L3 b3 :=
  (h1.bind (Q := fun n l => (textQ l).bind fun b => (listQ 4 b.2).bind fun c => some ({ foZero 80 with name := n, text := b.1, oids := c.1 }, c.2))
    (h2.bind (Q := fun t l => (listQ 4 l).bind fun c => some ({ foZero 80 with name := n, text := t, oids := c.1 }, c.2))
      (h3.bind (Q := fun o l => some ({ foZero 80 with name := n, text := t, oids := o }, l)) (StepO.ret _)))).of_eq fun l => by unfold readP; rw [if_pos rfl]
theorem readP_B {p n : ByteArray} {fs rs : List Int} {cs : List CeV} (h1 : StepO L bad textQ p L1 b1) (h2 : StepO L1 b1 textQ n L2 b2) (h3 : StepO L2 b2 (listQ 2) fs L3 b3)
    (h4 : StepO L3 b3 rowQ cs L4 b4) (h5 : StepO L4 b4 (listQ 2) rs L5 b5) :
    StepO L bad (readP 66) { foZero 66 with portal := p, name := n, formats := fs, params := cs, results := rs } L5 b5 :=
  (h1.bind (Q := fun p l => (textQ l).bind fun b => (listQ 2 b.2).bind fun c => (rowQ c.2).bind fun d => (listQ 2 d.2).bind fun e => some ({ foZero 66 with portal := p, name := b.1, formats := c.1, params := d.1, results := e.1 }, e.2))
    (h2.bind (Q := fun n l => (listQ 2 l).bind fun c => (rowQ c.2).bind fun d => (listQ 2 d.2).bind fun e => some ({ foZero 66 with portal := p, name := n, formats := c.1, params := d.1, results := e.1 }, e.2))
      (h3.bind (Q := fun fs l => (rowQ l).bind fun d => (listQ 2 d.2).bind fun e => some ({ foZero 66 with portal := p, name := n, formats := fs, params := d.1, results := e.1 }, e.2))
        (h4.bind (Q := fun cs l => (listQ 2 l).bind fun e => some ({ foZero 66 with portal := p, name := n, formats := fs, params := cs, results := e.1 }, e.2))
          (h5.bind (Q := fun rs l => some ({ foZero 66 with portal := p, name := n, formats := fs, params := cs, results := rs }, l)) (StepO.ret _)))))).of_eq
    fun l => by unfold readP; rw [if_neg (by decide), if_pos rfl]
theorem readP_C {k x : Int} (hk : k = 67 ∨ k = 68) {n : ByteArray} (h1 : StepO L bad (numP 1) x L1 b1) (h2 : StepO L1 b1 textQ n L2 b2) :
    StepO L bad (readP k) (if x = 83 then { foZero k with what := x, name := n } else { foZero k with what := x, portal := n }) L2 b2 :=
  (h1.bind (Q := fun x l => (textQ l).bind fun b => some ((if x = 83 then { foZero k with what := x, name := b.1 } else { foZero k with what := x, portal := b.1 }), b.2))
    (h2.bind (Q := fun n l => some ((if x = 83 then { foZero k with what := x, name := n } else { foZero k with what := x, portal := n }), l)) (StepO.ret _))).of_eq
    fun l => by unfold readP; rw [if_neg (by omega), if_neg (by omega), if_pos hk]
theorem readP_E {x : Int} {n : ByteArray} (h1 : StepO L bad textQ n L1 b1) (h2 : StepO L1 b1 (numP 4) x L2 b2) :
    StepO L bad (readP 69) { foZero 69 with portal := n, max := signedV x 4 } L2 b2 :=
  (h1.bind (Q := fun n l => (numP 4 l).bind fun b => some ({ foZero 69 with portal := n, max := signedV b.1 4 }, b.2))
    (h2.bind (Q := fun x l => some ({ foZero 69 with portal := n, max := signedV x 4 }, l)) (StepO.ret _))).of_eq
    fun l => by unfold readP; rw [if_neg (by decide), if_neg (by decide), if_neg (by decide), if_pos rfl]
theorem readP_Q {n : ByteArray} (h1 : StepO L bad textQ n L1 b1) : StepO L bad (readP 81) { foZero 81 with text := n } L1 b1 :=
  (h1.bind (Q := fun n l => some ({ foZero 81 with text := n }, l)) (StepO.ret _)).of_eq
    fun l => by unfold readP; rw [if_neg (by decide), if_neg (by decide), if_neg (by decide), if_neg (by decide), if_pos rfl]
theorem readP_other {k : Int} (h1 : k ≠ 80) (h2 : k ≠ 66) (h3 : ¬ (k = 67 ∨ k = 68)) (h4 : k ≠ 69) (h5 : k ≠ 81) : StepO L bad (readP k) (foZero k) L bad :=
  (StepO.ret (foZero k)).of_eq fun l => by unfold readP; rw [if_neg h1, if_neg h2, if_neg h3, if_neg h4, if_neg h5]
end

end Go.Proofs.Ytldjfmddjbdciaa
