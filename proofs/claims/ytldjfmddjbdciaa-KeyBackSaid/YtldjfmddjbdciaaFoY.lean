/-
  Messages of clients (layer 6): what is read is small: a plain law.
-/
import Derived.Test.YtldjfmddjbdciaaFoX
namespace Go.Proofs.Ytldjfmddjbdciaa
open Go.RowKit
set_option linter.unusedVariables false
set_option linter.unusedSimpArgs false

theorem textQ_size {L T : List UInt8} {t : ByteArray} (h : textQ L = some (t, T)) : t.size ≤ L.length ∧ T.length ≤ L.length := by
  unfold textQ at h
  split at h
  · rename_i hok
    injection h with h
    injection h with h1 h2
    subst h1 h2
    refine ⟨?_, by rw [List.length_drop]; omega⟩
    unfold textV
    rw [if_pos hok]
    simp only [strOf, ByteArray.size]
    simp
    omega
  · cases h
theorem numP_size {z : Nat} {L T : List UInt8} {n : Int} (h : numP z L = some (n, T)) : n = numV L false z ∧ T.length ≤ L.length := by
  unfold numP at h
  split at h
  · injection h with h
    injection h with h1 h2
    subst h1 h2
    exact ⟨rfl, by rw [List.length_drop]; omega⟩
  · cases h

/-- What was read is small. -/
structure ReadS (k : Int) (L : List UInt8) (f : FoV) : Prop where
  kind : f.kind = k
  what : 0 ≤ f.what ∧ f.what < 256
  name : f.name.size ≤ L.length
  portal : f.portal.size ≤ L.length
  text : f.text.size ≤ L.length
theorem ReadS.zero (k : Int) (L : List UInt8) : ReadS k L (foZero k) := ⟨rfl, ⟨Int.le_refl 0, show (0 : Int) < 256 by decide⟩, Nat.zero_le _, Nat.zero_le _, Nat.zero_le _⟩
theorem bind_some {α β : Type} {o : Option α} {f : α → Option β} {y : β} (h : o.bind f = some y) : ∃ a, o = some a ∧ f a = some y := by
  cases o with
  | none => cases h
  | some a => exact ⟨a, rfl, h⟩
theorem readP_small {k : Int} {L T : List UInt8} {f : FoV} (h : readP k L = some (f, T)) : ReadS k L f := by
  unfold readP at h
  split at h
  · obtain ⟨⟨n, L1⟩, e1, h⟩ := bind_some h
    obtain ⟨⟨t, L2⟩, e2, h⟩ := bind_some h
    obtain ⟨⟨o, L3⟩, e3, h⟩ := bind_some h
    injection h with h; injection h with h h'; subst h
    have q1 := textQ_size e1
    have q2 := textQ_size e2
    dsimp only at q2
    exact ⟨rfl, ⟨Int.le_refl 0, show (0 : Int) < 256 by decide⟩, q1.1, Nat.zero_le _, Nat.le_trans q2.1 q1.2⟩
  split at h
  · obtain ⟨⟨p, L1⟩, e1, h⟩ := bind_some h
    obtain ⟨⟨n, L2⟩, e2, h⟩ := bind_some h
    obtain ⟨⟨fs, L3⟩, e3, h⟩ := bind_some h
    obtain ⟨⟨cs, L4⟩, e4, h⟩ := bind_some h
    obtain ⟨⟨rs, L5⟩, e5, h⟩ := bind_some h
    injection h with h; injection h with h h'; subst h
    have q1 := textQ_size e1
    have q2 := textQ_size e2
    dsimp only at q2
    exact ⟨rfl, ⟨Int.le_refl 0, show (0 : Int) < 256 by decide⟩, Nat.le_trans q2.1 q1.2, q1.1, Nat.zero_le _⟩
  split at h
  · obtain ⟨⟨x, L1⟩, e1, h⟩ := bind_some h
    obtain ⟨⟨n, L2⟩, e2, h⟩ := bind_some h
    have q1 := numP_size e1
    have q2 := textQ_size e2
    have q8 := num8 L false
    have hx : 0 ≤ x ∧ x < 256 := by rw [q1.1]; exact q8
    injection h with h; injection h with h h'; subst h
    dsimp only at q2 ⊢
    split
    · exact ⟨rfl, hx, Nat.le_trans q2.1 q1.2, Nat.zero_le _, Nat.zero_le _⟩
    · exact ⟨rfl, hx, Nat.zero_le _, Nat.le_trans q2.1 q1.2, Nat.zero_le _⟩
  split at h
  · obtain ⟨⟨n, L1⟩, e1, h⟩ := bind_some h
    obtain ⟨⟨x, L2⟩, e2, h⟩ := bind_some h
    injection h with h; injection h with h h'; subst h
    have q1 := textQ_size e1
    exact ⟨rfl, ⟨Int.le_refl 0, show (0 : Int) < 256 by decide⟩, Nat.zero_le _, q1.1, Nat.zero_le _⟩
  split at h
  · obtain ⟨⟨n, L1⟩, e1, h⟩ := bind_some h
    injection h with h; injection h with h h'; subst h
    have q1 := textQ_size e1
    exact ⟨rfl, ⟨Int.le_refl 0, show (0 : Int) < 256 by decide⟩, Nat.zero_le _, Nat.zero_le _, q1.1⟩
  · injection h with h; injection h with h h'; subst h
    exact ReadS.zero k L

end Go.Proofs.Ytldjfmddjbdciaa
