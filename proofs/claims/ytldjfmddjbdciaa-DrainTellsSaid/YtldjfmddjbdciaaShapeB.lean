/-
  More of slices that are read: parts of them; lists compared; the first element that a test takes.
-/
import Derived.Test.YtldjfmddjbdciaaShape
import Derived.Test.YtldjfmddjbdciaaBytesR
namespace Go.Proofs.Ytldjfmddjbdciaa
open Go.RowKit
set_option linter.unusedVariables false
set_option linter.unusedSimpArgs false

theorem SliceS.shape {α : Type} {n : Nat} {R : Rd α} {S : Nat → Prop} {w : World} {v : Value} {xs : List α} (h : SliceS n R S w [v] xs) : ∃ p c, v = .slice p xs.length c := by
  obtain ⟨p, c, _, h1, _⟩ := h
  simp only [List.cons.injEq, and_true] at h1
  exact ⟨p, c, h1⟩
theorem BytesS.shape {S : Nat → Prop} {w : World} {v : Value} {xs : List UInt8} (h : BytesS S w [v] xs) : ∃ p c, v = .slice p xs.length c := by
  obtain ⟨p, c, h1, _⟩ := h
  simp only [List.cons.injEq, and_true] at h1
  exact ⟨p, c, h1⟩
theorem OwnS.below' {α : Type} {B : Nat} {e : TypeId} {n : Nat} {R : Rd α} {S : Nat → Prop} {w w' : World} {v : Value} {xs : List α} (hR : Still R) (h : OwnS B e n R S w v xs) (hb : Below w.heap.size w w') : OwnS B e n R S w' v xs :=
  h.touch hR (Touch.of_below (p := fun _ => False) hb) (fun _ _ e => e) (fun _ _ hs _ => ⟨hs, fun e => e⟩)
theorem SliceS.nilLen {α : Type} {n : Nat} {R : Rd α} {S : Nat → Prop} {w : World} {m c : Nat} {xs : List α} (h0 : 0 < n) (h : SliceS n R S w [.slice none m c] xs) : xs = [] := by
  cases xs with
  | nil => rfl
  | cons x xs =>
    obtain ⟨b, o, cs, e, _⟩ := h.elem h0 0 x rfl
    cases e
theorem SliceS.len {α : Type} {n : Nat} {R : Rd α} {S : Nat → Prop} {w : World} {p : Option Addr} {m c : Nat} {xs : List α} (h : SliceS n R S w [.slice p m c] xs) : m = xs.length ∧ xs.length ≤ c ∧ c ≤ maxLen := by
  obtain ⟨p', c', css, h1, h2, h3, _, _⟩ := h
  simp only [List.cons.injEq, Value.slice.injEq, and_true] at h1
  obtain ⟨rfl, rfl, rfl⟩ := h1
  exact ⟨rfl, h2, h3⟩
theorem SliceS.below {α : Type} {n : Nat} {R : Rd α} (hR : Still R) {S : Nat → Prop} {w w' : World} {cs : List Value} {xs : List α} (h : SliceS n R S w cs xs) (hb : Below w.heap.size w w') : SliceS n R S w' cs xs := (SliceS.still hR) _ _ _ _ _ _ h (Kept.all hb)
theorem SliceS.weak {α : Type} {n : Nat} {R : Rd α} (hR : Still R) {S S' : Nat → Prop} {w : World} {cs : List Value} {xs : List α} (h : SliceS n R S w cs xs) (hS : ∀ k, k < w.heap.size → S k → S' k) : SliceS n R S' w cs xs := (SliceS.still hR) _ _ _ _ _ _ h (Kept.mono w hS)
theorem SliceS.take' {α : Type} {n : Nat} {R : Rd α} {S : Nat → Prop} {w : World} {p : Option Addr} {m c : Nat} {xs : List α} (h : SliceS n R S w [.slice p m c] xs) (k c' : Nat) (hk : k ≤ xs.length) (h1 : k ≤ c') (h2 : c' ≤ maxLen) : SliceS n R S w [.slice p k c'] (xs.take k) := by
  obtain ⟨p', c0, css, e, _, _, h4, h5⟩ := h
  simp only [List.cons.injEq, Value.slice.injEq, and_true] at e
  obtain ⟨rfl, rfl, rfl⟩ := e
  have hlen : (xs.take k).length = k := by rw [List.length_take]; omega
  refine ⟨p, c', css.take k, by rw [hlen], by rw [hlen]; exact h1, h2, ?_, All2.take h5 k⟩
  rw [ElemsS.take h5 k]
  exact h4.take _
theorem SliceS.drop' {α : Type} {n : Nat} {R : Rd α} {S : Nat → Prop} {w : World} {b o m c : Nat} {xs : List α} (h : SliceS n R S w [.slice (some ⟨b, o, none⟩) m c] xs) (k : Nat) (hk : k ≤ xs.length) : SliceS n R S w [.slice (some ⟨b, o + k * n, none⟩) (xs.length - k) (c - k)] (xs.drop k) := by
  obtain ⟨p', c0, css, e, h2, h3, h4, h5⟩ := h
  simp only [List.cons.injEq, Value.slice.injEq, and_true] at e
  obtain ⟨rfl, rfl, rfl⟩ := e
  have hlen : (xs.drop k).length = xs.length - k := List.length_drop
  refine ⟨_, c - k, css.drop k, by rw [hlen], by rw [hlen]; omega, by omega, ?_, All2.drop h5 k⟩
  rcases ElemsS.drop h5 k with e | e
  · rw [e]
    exact h4.drop _
  · omega
theorem SliceS.empty {α : Type} {n : Nat} {R : Rd α} {S : Nat → Prop} {w : World} (p : Option Addr) (c : Nat) (hc : c ≤ maxLen) : SliceS n R S w [.slice p 0 c] [] :=
  ⟨p, c, [], rfl, Nat.zero_le _, hc, CellsIn.nil, trivial⟩
theorem SliceS.dropAny {α : Type} {n : Nat} {R : Rd α} {S : Nat → Prop} {w : World} {p : Option Addr} {m c : Nat} {xs : List α} (h0 : 0 < n) (h : SliceS n R S w [.slice p m c] xs) (k : Nat) (hk : k ≤ xs.length) : SliceS n R S w [.slice (Option.map (fun x => x.add (k * n)) p) (xs.length - k) (c - k)] (xs.drop k) := by
  by_cases hx : k < xs.length
  · obtain ⟨b, o, cs, rfl, _⟩ := h.elem h0 k xs[k] (List.getElem?_eq_getElem hx)
    have := h.drop' k hk
    simpa [Addr.add_lit] using this
  · have hk' : k = xs.length := by omega
    have hd : xs.drop k = [] := by rw [hk']; exact List.drop_length
    rw [hd, show xs.length - k = 0 from by omega]
    exact SliceS.empty _ _ (by have := h.len.2.2; omega)
theorem size_set (w : World) (a : Addr) (u : Value) : (w.setCell a u).heap.size = w.heap.size := by simp [World.setCell]

/-- Two lists are the same. -/
def listEq {α : Type} (f : α → α → Bool) : List α → List α → Bool
  | [], [] => true
  | a :: l, b :: m => f a b && listEq f l m
  | [], _ :: _ => false
  | _ :: _, [] => false

section
variable {α : Type} {f : α → α → Bool}
theorem listEq_len : ∀ {l m : List α}, l.length ≠ m.length → listEq f l m = false
  | [], [], h => absurd rfl h
  | a :: l, b :: m, h => by
    have : l.length ≠ m.length := by simpa using h
    simp [listEq, listEq_len this]
  | [], _ :: _, _ => rfl
  | _ :: _, [], _ => rfl
theorem listEq_self (hf : ∀ a, f a a = true) : ∀ l : List α, listEq f l l = true
  | [] => rfl
  | a :: l => by simp [listEq, hf a, listEq_self hf l]
theorem listEq_end {l m : List α} (h : l.length = m.length) : listEq f (l.drop l.length) (m.drop l.length) = true := by
  rw [List.drop_length, h, List.drop_length]
  rfl
theorem listEq_step {l m : List α} {k : Nat} (hl : k < l.length) (hm : k < m.length) : listEq f (l.drop k) (m.drop k) = (f l[k] m[k] && listEq f (l.drop (k + 1)) (m.drop (k + 1))) := by
  rw [List.drop_eq_getElem_cons hl, List.drop_eq_getElem_cons hm]
  rfl
end

/-- A number, whatever its size. -/
def IntU : Rd Int := fun _ _ cs n => cs = [.int .i64 n]
theorem IntU.still : Still IntU := fun _ _ _ _ _ _ h _ => h
theorem IntU.flat : ∀ (S S' : Nat → Prop) (w w' : World) (cs : List Value) (x : Int), IntU S w cs x → IntU S' w' cs x := fun _ _ _ _ _ _ h => h
theorem IntU.one (S : Nat → Prop) (w : World) (cs : List Value) (x : Int) (h : IntU S w cs x) : ∀ u ∈ cs, u.oneCell' = true := by
  unfold IntU at h
  subst h
  intro u hu
  simp only [List.mem_cons, List.not_mem_nil, or_false] at hu
  subst hu
  rfl


section
variable {α : Type}
/-- How many stand ahead of the first one that P takes. -/
def aheadG (P : α → Bool) (L : List α) : Nat := (L.takeWhile (fun x => !P x)).length
theorem aheadG_le (P : α → Bool) : ∀ L : List α, aheadG P L ≤ L.length
  | [] => by simp [aheadG]
  | x :: L => by
    have := aheadG_le P L
    unfold aheadG at *
    rw [List.takeWhile_cons]
    split <;> simp <;> omega
theorem aheadG_go (P : α → Bool) : ∀ (L : List α) (k : Nat) (hk : k < L.length), k ≤ aheadG P L → P L[k] = false → k + 1 ≤ aheadG P L
  | [], k, hk, _, _ => by simp at hk
  | x :: L, 0, hk, _, h => by
    have h : P x = false := h
    unfold aheadG
    rw [List.takeWhile_cons, h]
    simp
  | x :: L, k + 1, hk, hle, h => by
    unfold aheadG at *
    rw [List.takeWhile_cons] at hle ⊢
    split at hle
    · rename_i hx
      rw [if_pos hx]
      have := aheadG_go P L k (by simpa using hk) (by simpa [aheadG] using hle) (by simpa using h)
      unfold aheadG at this
      simpa using this
    · simp at hle
theorem aheadG_at (P : α → Bool) : ∀ (L : List α) (k : Nat) (hk : k < L.length), k ≤ aheadG P L → P L[k] = true → aheadG P L = k
  | [], k, hk, _, _ => by simp at hk
  | x :: L, 0, hk, _, h => by
    have h : P x = true := h
    unfold aheadG
    rw [List.takeWhile_cons, h]
    simp
  | x :: L, k + 1, hk, hle, h => by
    unfold aheadG at *
    rw [List.takeWhile_cons] at hle ⊢
    split at hle
    · rename_i hx
      rw [if_pos hx]
      have := aheadG_at P L k (by simpa using hk) (by simpa [aheadG] using hle) (by simpa using h)
      unfold aheadG at this
      simpa using this
    · simp at hle
theorem aheadG_any (P : α → Bool) : ∀ L : List α, decide (aheadG P L < L.length) = L.any P
  | [] => by simp [aheadG]
  | x :: L => by
    have h := aheadG_any P L
    unfold aheadG at *
    rw [List.takeWhile_cons, List.any_cons, ← h]
    cases hx : P x <;> simp
/-- What IndexFunc answers. -/
def IdxG (P : α → Bool) (L : List α) (r : Int) : Prop := (r = (aheadG P L : Nat) ∧ aheadG P L < L.length) ∨ (r = -1 ∧ aheadG P L = L.length)
theorem IdxG.any {P : α → Bool} {L : List α} {r : Int} (h : IdxG P L r) : decide (0 ≤ r) = L.any P := by
  rw [← aheadG_any]
  rcases h with ⟨rfl, h⟩ | ⟨rfl, h⟩
  · rw [decide_eq_true h, decide_eq_true (by omega)]
  · rw [h, decide_eq_false (by omega), decide_eq_false (by omega)]
end

end Go.Proofs.Ytldjfmddjbdciaa
