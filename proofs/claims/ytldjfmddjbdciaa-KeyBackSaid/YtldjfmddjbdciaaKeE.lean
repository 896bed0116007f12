/-
  Statements as keys (layer 12): plain laws: a key's statement is the one whose key it is.
-/
import Derived.Test.YtldjfmddjbdciaaKeA
import Derived.Test.YtldjfmddjbdciaaFpB
namespace Go.Proofs.Ytldjfmddjbdciaa
open Go.RowKit
set_option linter.unusedVariables false
set_option linter.unusedSimpArgs false

/-- Numbers of four bytes each. -/
def fours : Nat → List UInt8 → List Int
  | 0, _ => []
  | n + 1, L => be (L.take 4) :: fours n (L.drop 4)
theorem fours_len : ∀ (n : Nat) (L : List UInt8), (fours n L).length = n
  | 0, _ => rfl
  | n + 1, L => by rw [fours, List.length_cons, fours_len n]
theorem fours_succ : ∀ (n : Nat) (L : List UInt8), fours (n + 1) L = fours n L ++ [be ((L.drop (4 * n)).take 4)]
  | 0, L => by simp [fours]
  | n + 1, L => by
    rw [fours, fours_succ n (L.drop 4), fours, List.drop_drop]
    rw [show 4 + 4 * n = 4 * (n + 1) from by omega]
    rfl
def stNo : StV := ⟨⟨#[]⟩, []⟩
/-- What the bytes of a key say. -/
def partK (L : List UInt8) : StV := ⟨strOf ((L.drop 4).take (be (L.take 4)).toNat), fours (((L.drop 4).drop (be (L.take 4)).toNat).length / 4) ((L.drop 4).drop (be (L.take 4)).toNat)⟩
def shapeK (L : List UInt8) : Prop := 4 ≤ L.length ∧ be (L.take 4) ≤ ((L.length - 4 : Nat) : Int) ∧ ((L.drop 4).drop (be (L.take 4)).toNat).length % 4 = 0
instance (L : List UInt8) : Decidable (shapeK L) := by unfold shapeK; infer_instance
/-- The statement of a key. -/
def splitK (L : List UInt8) : StV × Bool := if shapeK L ∧ fairK (partK L) = true then (partK L, true) else (stNo, false)

theorem be4 (l : List UInt8) (h : l.length ≤ 4) : 0 ≤ be l ∧ be l < 4294967296 := by
  have hb := be_bd l
  refine ⟨hb.1, Int.lt_of_lt_of_le hb.2 ?_⟩
  have : (256 : Int) ^ l.length ≤ 256 ^ 4 := pow_le4 _ _ h (Nat.le_refl _) |> fun h => h
  simpa using this
theorem put4 (b : List UInt8) {l : List UInt8} (h : l.length = 4) : putV b (be l) 4 = b ++ l := by
  have hb := be4 l (by omega)
  have e : putV b (be l) 4 = b ++ putB (be l) 4 4 := putV_right (z := 4) (rightB_4 hb.1 hb.2)
  rw [e, putB_be (.inr (.inr rfl)) h]
theorem numsB_fours : ∀ (n : Nat) (b L : List UInt8), L.length = 4 * n → numsB b (fours n L) = b ++ L
  | 0, b, L, h => by
    have : L = [] := List.eq_nil_of_length_eq_zero (by omega)
    subst this
    simp [fours, numsB]
  | n + 1, b, L, h => by
    have h4 : (L.take 4).length = 4 := by rw [List.length_take]; omega
    have e : numsB b (fours (n + 1) L) = numsB (putV b (be (L.take 4)) 4) (fours n (L.drop 4)) := rfl
    rw [e, put4 b h4, numsB_fours n _ _ (by rw [List.length_drop]; omega), List.append_assoc, List.take_append_drop]
/-- A key is the key of what its bytes say. -/
theorem key_part {L : List UInt8} (h : shapeK L) : keyB (partK L) = L := by
  obtain ⟨h1, h2, h3⟩ := h
  have h4 : (L.take 4).length = 4 := by rw [List.length_take]; omega
  have hb := be4 (L.take 4) (by omega)
  have hd : (L.drop 4).length = L.length - 4 := by rw [List.length_drop]
  have hs : ((partK L).text.size : Int) = be (L.take 4) := by
    unfold partK
    dsimp only
    rw [size_data, data_strOf, List.length_take]
    omega
  unfold keyB
  rw [hs, put4 [] h4]
  have ht : (partK L).text.data.toList = (L.drop 4).take (be (L.take 4)).toNat := by unfold partK; dsimp only; rw [data_strOf]
  rw [ht]
  show numsB _ (fours _ _) = L
  rw [numsB_fours _ _ _ (by omega), List.nil_append, List.append_assoc, List.take_append_drop, List.take_append_drop]
theorem keyV_part {L : List UInt8} (h : shapeK L) : ((keyV (partK L)).toList == (strOf L).toList) = fairK (partK L) := by
  unfold keyV
  rw [strOf_toList]
  cases hf : fairK (partK L) with
  | true =>
    rw [if_pos rfl, strOf_toList, key_part h]
    simp
  | false =>
    rw [if_neg Bool.false_ne_true]
    have : L ≠ [] := by rintro rfl; have := h.1; simp at this
    have e : (⟨#[]⟩ : ByteArray).toList = [] := by
      have : (strOf []).toList = [] := strOf_toList []
      exact this
    rw [e]
    cases L with
    | nil => exact absurd rfl this
    | cons a l => rfl

theorem fair_parts2 {s : StV} (h : fairK s = true) : (s.text.size : Int) ≤ 1048576 ∧ s.oids.length ≤ 65535 ∧ ∀ n ∈ s.oids, 0 ≤ n ∧ n < 2 ^ (8 * 4) := by
  unfold fairK at h
  simp only [Bool.and_eq_true, decide_eq_true_eq] at h
  exact ⟨h.1, between_parts h.2⟩
theorem numsB_c (b : List UInt8) (l : List Int) (h : ∀ n ∈ l, 0 ≤ n ∧ n < 2 ^ (8 * 4)) : numsB b l = b ++ numsC 4 l := by
  induction l generalizing b with
  | nil => simp [numsB, numsC]
  | cons n l ih =>
    have hn := h n (by simp)
    have e : numsB b (n :: l) = numsB (putV b n 4) l := rfl
    have e2 : putV b n 4 = b ++ putB n 4 4 := putV_right (z := 4) (rightB_4 hn.1 hn.2)
    rw [e, e2, ih _ (fun m hm => h m (by simp [hm]))]
    simp [numsC]
theorem fours_c (l : List Int) (h : ∀ n ∈ l, 0 ≤ n ∧ n < 2 ^ (8 * 4)) : fours l.length (numsC 4 l) = l := by
  induction l with
  | nil => rfl
  | cons n l ih =>
    have hn := h n (by simp)
    have hl := putB_length n 4 4
    have e : numsC 4 (n :: l) = putB n 4 4 ++ numsC 4 l := rfl
    rw [e, List.length_cons, fours, List.take_append_of_le_length (by omega), List.take_of_length_le (by omega), List.drop_append_of_le_length (by omega), List.drop_of_length_le (by omega), List.nil_append, ih (fun m hm => h m (by simp [hm])), be_put4 hn.1 hn.2]
theorem numsC_len4 (l : List Int) : (numsC 4 l).length = 4 * l.length := by
  induction l with
  | nil => rfl
  | cons n l ih =>
    have e : numsC 4 (n :: l) = putB n 4 4 ++ numsC 4 l := rfl
    rw [e, List.length_append, putB_length, ih, List.length_cons]
    omega
theorem keyB_c {s : StV} (h : fairK s = true) : keyB s = putB s.text.size 4 4 ++ (s.text.data.toList ++ numsC 4 s.oids) := by
  obtain ⟨h1, h2, h3⟩ := fair_parts2 h
  have e : putV [] (s.text.size : Int) 4 = [] ++ putB s.text.size 4 4 := putV_right (z := 4) (rightB_4 (by omega) (by omega))
  unfold keyB
  rw [numsB_c _ _ h3, e, List.nil_append, List.append_assoc]
/-- The statement of a key is the one whose key it is. -/
theorem split_key {s : StV} (h : fairK s = true) : splitK (keyB s) = (s, true) := by
  obtain ⟨h1, h2, h3⟩ := fair_parts2 h
  have hk := keyB_c h
  have hl := putB_length (s.text.size : Int) 4 4
  have hn : be ((keyB s).take 4) = s.text.size := by
    rw [hk, List.take_append_of_le_length (by omega), List.take_of_length_le (by omega), be_put4 (by omega) (by omega)]
  have hd : (keyB s).drop 4 = s.text.data.toList ++ numsC 4 s.oids := by
    rw [hk, List.drop_append_of_le_length (by omega), List.drop_of_length_le (by omega), List.nil_append]
  have hsz : s.text.data.toList.length = s.text.size := (size_data s.text).symm
  have hlen : (keyB s).length = 4 + (s.text.size + 4 * s.oids.length) := by rw [hk, List.length_append, List.length_append, hl, hsz, numsC_len4]
  have hd2 : ((keyB s).drop 4).drop (be ((keyB s).take 4)).toNat = numsC 4 s.oids := by
    rw [hd, hn, Int.toNat_natCast, List.drop_append_of_le_length (by omega), List.drop_of_length_le (by omega), List.nil_append]
  have ht2 : ((keyB s).drop 4).take (be ((keyB s).take 4)).toNat = s.text.data.toList := by
    rw [hd, hn, Int.toNat_natCast, List.take_append_of_le_length (by omega), List.take_of_length_le (by omega)]
  have hp : partK (keyB s) = s := by
    unfold partK
    rw [hd2, ht2, numsC_len4, strOf_data, show 4 * s.oids.length / 4 = s.oids.length by omega, fours_c _ h3]
  have hsh : shapeK (keyB s) := by
    refine ⟨by omega, by rw [hn]; omega, ?_⟩
    rw [hd2, numsC_len4]
    omega
  unfold splitK
  rw [hp, if_pos ⟨hsh, h⟩]
theorem keyB_len {s : StV} (h : fairK s = true) : 4 ≤ (keyB s).length := by
  rw [keyB_c h, List.length_append, putB_length]
  omega
theorem nil_str : (⟨#[]⟩ : ByteArray).toList = [] := by
  have : (strOf []).toList = [] := strOf_toList []
  exact this
/-- A key is none just if its statement has none. -/
theorem key_some (s : StV) : ((keyV s).toList == []) = !fairK s := by
  unfold keyV
  cases hf : fairK s with
  | true =>
    rw [if_pos rfl, strOf_toList]
    have := keyB_len hf
    cases he : keyB s with
    | nil => rw [he] at this; simp at this
    | cons a l => rfl
  | false =>
    rw [if_neg Bool.false_ne_true, nil_str]
    rfl
theorem stEq_self (s : StV) : stEq s s = true := by simp [stEq, listEq_self intsEq_self]
theorem stEq_same {a b : StV} (h : stEq a b = true) : a = b := by
  unfold stEq at h
  simp only [Bool.and_eq_true] at h
  obtain ⟨h1, h2⟩ := h
  have e1 := str_same h1
  have e2 := listEq_same (fun a b h => by simpa [intsEq] using h) h2
  obtain ⟨at', ao⟩ := a
  obtain ⟨bt, bo⟩ := b
  dsimp only at e1 e2
  rw [e1, e2]
/-- Two keys are the same just if the statements are. -/
theorem key_same {a b : StV} (ha : fairK a = true) (hb : fairK b = true) : ((keyV a).toList == (keyV b).toList) = stEq a b := by
  cases hs : stEq a b with
  | true => rw [stEq_same hs]; simp
  | false =>
    cases hk : ((keyV a).toList == (keyV b).toList) with
    | false => rfl
    | true =>
      exfalso
      have e : (keyV a).toList = (keyV b).toList := by simpa using hk
      unfold keyV at e
      rw [if_pos ha, if_pos hb, strOf_toList, strOf_toList] at e
      have h1 := split_key ha
      rw [e, split_key hb] at h1
      injection h1 with h1 _
      rw [h1, stEq_self] at hs
      cases hs

end Go.Proofs.Ytldjfmddjbdciaa
