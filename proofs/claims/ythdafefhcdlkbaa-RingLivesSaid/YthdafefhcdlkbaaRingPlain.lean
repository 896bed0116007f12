/-
  Bytes that go round in an array: what puts, takes and growth do to them. Plain lists; no program in sight.
-/
import Derived.Test.YthdafefhcdlkbaaBase
import Derived.Laws.CopyOwn
namespace Go.Proofs.Ythdafefhcdlkbaa

/-- The place of the i-th byte. -/
def rix (n a i : Nat) : Nat := if a + i < n then a + i else a + i - n

/-- From place a on the array holds just these bytes, round its end. -/
def RingIs (bs : List UInt8) (a : Nat) (L : List UInt8) : Prop :=
  L.length ≤ bs.length ∧ ((bs = [] ∧ a = 0) ∨ a < bs.length) ∧ ∀ i, i < L.length → bs.getD (rix bs.length a i) 0 = L.getD i 0

theorem getD_eq (l : List UInt8) (i : Nat) (h : i < l.length) : l.getD i 0 = l[i] := by simp [List.getD, h]

theorem splice_getD (l cs : List UInt8) (off i : Nat) (hf : off + cs.length ≤ l.length) :
    (splice l off cs).getD i 0 = if off ≤ i ∧ i < off + cs.length then cs.getD (i - off) 0 else l.getD i 0 := by
  unfold splice
  simp only [List.getD]
  by_cases h1 : i < off
  · rw [List.getElem?_append_left (by rw [List.length_take]; omega), List.getElem?_take, if_pos h1, if_neg (by omega)]
  · rw [List.getElem?_append_right (by rw [List.length_take]; omega), List.length_take, Nat.min_eq_left (by omega)]
    by_cases h2 : i < off + cs.length
    · rw [List.getElem?_append_left (by omega), if_pos (by omega)]
    · rw [List.getElem?_append_right (by omega), List.getElem?_drop, if_neg (by omega)]
      congr 2
      omega

theorem list_ext_getD (l m : List UInt8) (hl : l.length = m.length) (h : ∀ i, i < l.length → l.getD i 0 = m.getD i 0) : l = m := by
  apply List.ext_getElem hl
  intro i h1 h2
  have := h i h1
  rw [getD_eq l i h1, getD_eq m i h2] at this
  exact this

theorem RingIs.copy {bs L : List UInt8} {a : Nat} (h : RingIs bs a L) (m : Nat) (hm : m ≤ L.length) :
    (bs.drop a).take m ++ bs.take (m - ((bs.drop a).take m).length) = L.take m := by
  obtain ⟨h1, h2, h3⟩ := h
  have hlen : ((bs.drop a).take m).length = min m (bs.length - a) := by rw [List.length_take, List.length_drop]
  apply list_ext_getD
  · rw [List.length_append, hlen, List.length_take, List.length_take]
    rcases h2 with ⟨e1, e2⟩ | h2
    · subst e1
      have : L.length ≤ 0 := h1
      simp only [List.length_nil]
      omega
    · omega
  · intro i hi
    have him : i < m := by
      rw [List.length_append, hlen, List.length_take] at hi
      omega
    have h4 := h3 i (by omega)
    have e2 : (L.take m).getD i 0 = L.getD i 0 := by simp only [List.getD, List.getElem?_take, if_pos him]
    rw [e2, ← h4]
    unfold rix
    by_cases hai : a + i < bs.length
    · rw [if_pos hai]
      simp only [List.getD]
      rw [List.getElem?_append_left (by rw [hlen]; omega), List.getElem?_take, if_pos him, List.getElem?_drop]
    · rw [if_neg hai]
      simp only [List.getD]
      rw [List.getElem?_append_right (by rw [hlen]; omega), hlen, List.getElem?_take, if_pos (by omega)]
      congr 2
      omega

theorem RingIs.put {bs L b : List UInt8} {a : Nat} (h : RingIs bs a L) (hb : L.length + b.length ≤ bs.length) (h0 : 0 < b.length) :
    RingIs (splice (splice bs ((a + L.length) % bs.length) (b.take (min b.length (bs.length - (a + L.length) % bs.length)))) 0 (b.drop (min b.length (bs.length - (a + L.length) % bs.length)))) a (L ++ b) := by
  obtain ⟨h1, h2, h3⟩ := h
  have ha : a < bs.length := by
    rcases h2 with ⟨e1, _⟩ | h2
    · exfalso
      subst e1
      simp only [List.length_nil] at *
      omega
    · exact h2
  have he : (a + L.length) % bs.length = if a + L.length < bs.length then a + L.length else a + L.length - bs.length := by
    split
    · exact Nat.mod_eq_of_lt (by omega)
    · rw [Nat.mod_eq_sub_mod (by omega)]; exact Nat.mod_eq_of_lt (by omega)
  generalize (a + L.length) % bs.length = e at he
  have hel : e < bs.length := by rw [he]; split <;> omega
  have f1 : e + (b.take (min b.length (bs.length - e))).length ≤ bs.length := by rw [List.length_take]; omega
  have l1 := length_splice bs e (b.take (min b.length (bs.length - e))) f1
  have f2 : 0 + (b.drop (min b.length (bs.length - e))).length ≤ (splice bs e (b.take (min b.length (bs.length - e)))).length := by rw [l1, List.length_drop]; omega
  have l2 := length_splice (splice bs e (b.take (min b.length (bs.length - e)))) 0 (b.drop (min b.length (bs.length - e))) f2
  refine ⟨by rw [l2, l1, List.length_append]; omega, .inr (by rw [l2, l1]; exact ha), fun i hi => ?_⟩
  rw [l2, l1, splice_getD _ _ _ _ f2, splice_getD _ _ _ _ f1, List.length_drop, List.length_take]
  rw [List.length_append] at hi
  by_cases hiL : i < L.length
  · have e1 : (L ++ b).getD i 0 = L.getD i 0 := by simp only [List.getD, List.getElem?_append_left hiL]
    rw [e1, ← h3 i hiL]
    unfold rix
    rw [if_neg, if_neg]
    · rw [he]; split <;> split <;> omega
    · rw [he]; split <;> split <;> omega
  · have e1 : (L ++ b).getD i 0 = b.getD (i - L.length) 0 := by simp only [List.getD, List.getElem?_append_right (show L.length ≤ i by omega)]
    rw [e1]
    unfold rix
    by_cases hai : a + i < bs.length
    · rw [if_pos hai]
      have he' : e = a + L.length := by rw [he, if_pos (by omega)]
      rw [if_neg (by omega), if_pos (by omega)]
      simp only [List.getD, List.getElem?_take]
      rw [if_pos (by omega)]
      congr 2
      omega
    · rw [if_neg hai]
      by_cases hal : a + L.length < bs.length
      · have he' : e = a + L.length := by rw [he, if_pos hal]
        rw [if_pos (by omega)]
        simp only [List.getD, List.getElem?_drop]
        congr 2
        omega
      · have he' : e = a + L.length - bs.length := by rw [he, if_neg hal]
        rw [if_neg (by omega), if_pos (by omega)]
        simp only [List.getD, List.getElem?_take]
        rw [if_pos (by omega)]
        congr 2
        omega

theorem RingIs.cut {bs L : List UInt8} {a : Nat} (h : RingIs bs a L) (k : Nat) (hk : k ≤ L.length) (h0 : 0 < k) : RingIs bs ((a + k) % bs.length) (L.drop k) := by
  obtain ⟨h1, h2, h3⟩ := h
  have ha : a < bs.length := by
    rcases h2 with ⟨e1, _⟩ | h2
    · exfalso
      subst e1
      simp only [List.length_nil] at *
      omega
    · exact h2
  have he : (a + k) % bs.length = if a + k < bs.length then a + k else a + k - bs.length := by
    split
    · exact Nat.mod_eq_of_lt (by omega)
    · rw [Nat.mod_eq_sub_mod (by omega)]; exact Nat.mod_eq_of_lt (by omega)
  generalize (a + k) % bs.length = e at he
  have hel : e < bs.length := by rw [he]; split <;> omega
  refine ⟨by rw [List.length_drop]; omega, .inr hel, fun i hi => ?_⟩
  rw [List.length_drop] at hi
  have e1 : (L.drop k).getD i 0 = L.getD (k + i) 0 := by simp only [List.getD, List.getElem?_drop]
  rw [e1, ← h3 (k + i) (by omega)]
  congr 1
  unfold rix
  rw [he]
  split <;> split <;> split <;> omega

theorem RingIs.grown (L Z : List UInt8) (h : 0 < L.length + Z.length) : RingIs (L ++ Z) 0 L := by
  refine ⟨by rw [List.length_append]; omega, .inr (by rw [List.length_append]; exact h), fun i hi => ?_⟩
  unfold rix
  rw [List.length_append, if_pos (by omega), Nat.zero_add]
  simp only [List.getD, List.getElem?_append_left hi]

theorem RingIs.nothing : RingIs [] 0 [] := ⟨Nat.le_refl _, .inl ⟨rfl, rfl⟩, fun i hi => by simp at hi⟩

end Go.Proofs.Ythdafefhcdlkbaa
