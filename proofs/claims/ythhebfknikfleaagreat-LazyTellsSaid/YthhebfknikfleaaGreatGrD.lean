/-
  What is said first (layer 11): far, awake, HasSuffix.
-/
import Derived.Test.YthhebfknikfleaaGreatGrC
import Derived.Test.YthhebfknikfleaaGreatPackA
namespace Go.Proofs.YthhebfknikfleaaGreat
open Go.RowKit
set_option linter.unusedVariables false
set_option linter.unusedSimpArgs false

def NearP (l : List PaV) : Prop := l.length ≤ 40 ∧ ∀ (j : Nat) (hj : j < l.length), l[j].name.size ≤ 200 ∧ l[j].value.size ≤ 200
def FarR (l : List PaV) (w : World) (e : Ending) (w' : World) : Prop := ∃ b, e = .returned (.bool b) ∧ (b = false → NearP l) ∧ Below w.heap.size w w'
theorem FarR.far {l : List PaV} {w w' : World} (h : Below w.heap.size w w') : FarR l w (.returned (.bool true)) w' := ⟨true, rfl, (fun e => by cases e), h⟩
theorem FarR.near {l : List PaV} {w w' : World} (hn : NearP l) (h : Below w.heap.size w w') : FarR l w (.returned (.bool false)) w' := ⟨false, rfl, (fun _ => hn), h⟩
theorem greet_short {l : List PaV} (id : Int) (h : NearP l) : ∀ x ∈ greetV l id, ShortB x := by
  have nil : ∀ (m : Nat), ∀ c ∈ ([] : List CoV), c.name.size ≤ m := fun m c hc => by cases hc
  intro x hx
  simp only [greetV, List.mem_append, List.mem_cons, List.mem_map, List.not_mem_nil, or_false] at hx
  rcases hx with (rfl | ⟨q, hq, rfl⟩) | rfl | rfl
  · refine ⟨⟨Nat.zero_le _, Nat.zero_le _, Nat.zero_le _, Nat.zero_le _, Nat.zero_le _, fun c hc => (by cases hc), Nat.zero_le _, fun c hc => (by cases hc), Nat.zero_le _, fun c hc => (by cases hc)⟩, ?_⟩
    have := putV_len4 [] 0 4
    show (putV [] 0 4).length ≤ 100000
    simp only [List.length_nil] at this
    omega
  · obtain ⟨j, hj, rfl⟩ := List.getElem_of_mem hq
    have hs := h.2 j hj
    refine ⟨⟨Nat.zero_le _, show l[j].name.size ≤ 100000 by omega, show l[j].value.size ≤ 100000 by omega, Nat.zero_le _, Nat.zero_le _, fun c hc => (by cases hc), Nat.zero_le _, fun c hc => (by cases hc), Nat.zero_le _, fun c hc => (by cases hc)⟩, ?_⟩
    have h1 := strB_len [] l[j].name
    have h2 := strB_len (strB [] l[j].name) l[j].value
    show (strB (strB [] l[j].name) l[j].value).length ≤ 100000
    simp only [List.length_nil] at h1
    omega
  · refine ⟨⟨Nat.zero_le _, Nat.zero_le _, Nat.zero_le _, Nat.zero_le _, Nat.zero_le _, fun c hc => (by cases hc), Nat.zero_le _, fun c hc => (by cases hc), Nat.zero_le _, fun c hc => (by cases hc)⟩, ?_⟩
    have h1 := putV_len4 [] (keyI id) 4
    have h2 := putV_len4 (putV [] (keyI id) 4) (keyM id) 4
    show (putV (putV [] (keyI id) 4) (keyM id) 4).length ≤ 100000
    simp only [List.length_nil] at h1
    omega
  · refine ⟨⟨Nat.zero_le _, Nat.zero_le _, Nat.zero_le _, Nat.zero_le _, Nat.zero_le _, fun c hc => (by cases hc), Nat.zero_le _, fun c hc => (by cases hc), Nat.zero_le _, fun c hc => (by cases hc)⟩, ?_⟩
    show ([UInt8.ofNat (73 : Int).toNat] : List UInt8).length ≤ 100000
    decide
theorem near_nil : NearP [] := ⟨Nat.zero_le _, fun j hj => by simp at hj⟩
theorem near_ab : NearP [⟨⟨#[97]⟩, ⟨#[98]⟩⟩] := ⟨by show 1 ≤ 40; omega, fun j hj => by
  have : j = 0 := by simpa using hj
  subst this
  exact ⟨by show (1 : Nat) ≤ 200; omega, by show (1 : Nat) ≤ 200; omega⟩⟩
theorem len28 : (bytesB (greetV [] 0)).length = 28 := by decide +kernel
theorem key0 : keyI 0 = 1 ∧ keyM 0 = 7919 := by decide

theorem BytesIn.dropB {w : World} {b o : Nat} {l m : List UInt8} (h : BytesIn w (some ⟨b, o, none⟩) (l ++ m)) : BytesIn w (some ⟨b, o + l.length, none⟩) m := by
  intro i hi
  obtain ⟨b', o', e, hc⟩ := h (l.length + i) (by rw [List.length_append]; omega)
  simp only [Option.some.injEq, Addr.mk.injEq, and_true] at e
  obtain ⟨rfl, rfl⟩ := e
  refine ⟨b, o + l.length, rfl, ?_⟩
  rw [Nat.add_assoc, hc]
  congr 1
  simp [byteV, List.getD_eq_getElem?_getD, List.getElem?_append_right]

end Go.Proofs.YthhebfknikfleaaGreat
