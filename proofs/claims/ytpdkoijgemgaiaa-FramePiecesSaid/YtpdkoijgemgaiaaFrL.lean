/-
  Plain laws of messages in pieces (layer 4).
-/
import Derived.Test.YtpdkoijgemgaiaaFrE
import Derived.Test.YtpdkoijgemgaiaaFrBy
namespace Go.Proofs.Ytpdkoijgemgaiaa
open Go.RowKit

theorem putB_be (P : List UInt8) (h : P.length = 4) : putB (be P) 4 4 = P := by
  match P, h with
  | [a, b, c, d], _ =>
    have ha := u8_bd a
    have hb := u8_bd b
    have hc := u8_bd c
    have hd := u8_bd d
    have hbe : be [a, b, c, d] = (((a.toNat : Int) * 256 + b.toNat) * 256 + c.toNat) * 256 + d.toNat := by simp [be]
    rw [hbe]
    have h0 := putAt_shr ((((a.toNat : Int) * 256 + b.toNat) * 256 + c.toNat) * 256 + d.toNat) 4 0 (by omega) (by omega)
    have h1 := putAt_shr ((((a.toNat : Int) * 256 + b.toNat) * 256 + c.toNat) * 256 + d.toNat) 4 1 (by omega) (by omega)
    have h2 := putAt_shr ((((a.toNat : Int) * 256 + b.toNat) * 256 + c.toNat) * 256 + d.toNat) 4 2 (by omega) (by omega)
    have h3 := putAt_shr ((((a.toNat : Int) * 256 + b.toNat) * 256 + c.toNat) * 256 + d.toNat) 4 3 (by omega) (by omega)
    have e : ∀ n : Int, putB n 4 4 = [putAt n 4 0, putAt n 4 1, putAt n 4 2, putAt n 4 3] := fun n => by simp [putB, List.range_succ]
    rw [e]
    simp only [List.cons.injEq, and_true]
    refine ⟨UInt8.toNat_inj.1 ?_, UInt8.toNat_inj.1 ?_, UInt8.toNat_inj.1 ?_, UInt8.toNat_inj.1 ?_⟩
    all_goals
      simp at h0 h1 h2 h3
      omega

/-- A message that is taken, and what is behind it, are the bytes. -/
theorem next_parts {L b r : List UInt8} {ty : Nat} (h : nextL true 2000 L 0 = some (ty, b, r)) : ∃ P : List UInt8, P.length = 4 ∧ be P = (b.length : Int) + 4 ∧ L = [UInt8.ofNat ty] ++ (P ++ b) ++ r ∧ b.length ≤ 1996 ∧ ty < 256 := by
  obtain ⟨n, bb, rr, hwh⟩ : ∃ n b r, frWhole true L 2000 0 = (n, b, r) := ⟨_, _, _, rfl⟩
  unfold nextL at h
  rw [hwh] at h
  cases bb
  · simp at h
  · obtain ⟨_, rfl, m, rfl, hm⟩ := frWhole_yes hwh
    simp only [if_true, Int.toNat_natCast, Option.some.injEq, Prod.mk.injEq] at h
    obtain ⟨h1, h2, h3⟩ := h
    have hh : headN true = 1 := rfl
    rw [hh] at h2 h3 hm
    have hwh2 := hwh
    unfold frWhole at hwh2
    rw [if_neg (by simp), if_neg (by rw [hh]; omega)] at hwh2
    split at hwh2
    · simp at hwh2
    · rename_i he
      simp only [Prod.mk.injEq] at hwh2
      obtain ⟨k1, _, _⟩ := hwh2
      rw [hh] at k1
      have he2 : frErr 2000 (frN true L) = 0 := by simpa using he
      have hn : frN true L = (m : Int) + 4 := by omega
      rw [hn] at he2
      have hm2 : m ≤ 1996 := by
        by_cases q : m ≤ 1996
        · exact q
        · exfalso
          unfold frErr at he2
          rw [if_neg (by omega), if_pos (by omega)] at he2
          cases he2
      have hbl : b.length = m := by rw [← h2, List.length_take, List.length_drop]; omega
      refine ⟨(L.drop 1).take 4, by rw [List.length_take, List.length_drop]; omega, ?_, ?_, by omega, ?_⟩
      · rw [hbl]; exact hn
      · match L, hm with
        | x :: l, hm =>
          have ht : UInt8.ofNat ty = x := by rw [← h1]; simp [tyOf, List.getD]
          rw [ht, ← h2, ← h3]
          have e1 : (x :: l).drop (1 + 4) = l.drop 4 := by simp
          have e2 : (x :: l).drop (1 + 4 + m) = l.drop (4 + m) := by rw [show 1 + 4 + m = (4 + m) + 1 from by omega, List.drop_succ_cons]
          have e3 : (x :: l).drop 1 = l := rfl
          rw [e1, e2, e3, show 1 + 4 + m - (1 + 4) = m from by omega]
          simp only [List.cons_append, List.nil_append, List.append_assoc]
          rw [← List.drop_drop, List.take_append_drop, List.take_append_drop]
      · rw [← h1]
        have := (L.getD 0 0).toNat_lt
        simp only [tyOf, if_true]
        exact this

theorem next_bytes {L b r : List UInt8} {ty : Nat} (h : nextL true 2000 L 0 = some (ty, b, r)) : L = ([UInt8.ofNat ty] ++ msgL 0 b) ++ r := by
  obtain ⟨P, hP, hb, hL, hbl, _⟩ := next_parts h
  have hm : msgL 0 b = P ++ b := by
    unfold msgL
    have := putV_right (l := (if (0 : UInt8) = 0 then ([] : List UInt8) else [0])) (n := (b.length : Int) + 4) (z := 4) (rightB_4 (by omega) (by omega))
    have e : putV (if (0 : UInt8) = 0 then ([] : List UInt8) else [0]) ((b.length : Int) + 4) 4 = putV (if (0 : UInt8) = 0 then ([] : List UInt8) else [0]) ((b.length : Int) + 4) ((4 : Nat) : Int) := rfl
    rw [e, this, ← hb, putB_be P hP]
    rfl
  rw [hm]
  exact hL

theorem next_more {L b r : List UInt8} {ty : Nat} (M : List UInt8) (h : nextL true 2000 L 0 = some (ty, b, r)) : nextL true 2000 (L ++ M) 0 = some (ty, b, r ++ M) := by
  obtain ⟨P, hP, hb, hL, hbl, hty⟩ := next_parts h
  rw [hL, List.append_assoc]
  have hlen : ([UInt8.ofNat ty] ++ (P ++ b) ++ (r ++ M)).length = 5 + b.length + r.length + M.length := by simp [hP]; omega
  have e : [UInt8.ofNat ty] ++ (P ++ b) ++ (r ++ M) = UInt8.ofNat ty :: (P ++ (b ++ (r ++ M))) := by simp
  have hd : ([UInt8.ofNat ty] ++ (P ++ b) ++ (r ++ M)).drop 1 = P ++ (b ++ (r ++ M)) := by rw [e]; rfl
  have hN : frN true ([UInt8.ofNat ty] ++ (P ++ b) ++ (r ++ M)) = (b.length : Int) + 4 := by
    unfold frN
    rw [show headN true = 1 from rfl, hd, ← hP, List.take_left, hb]
  have he : frErr 2000 ((b.length : Int) + 4) = 0 := by unfold frErr; rw [if_neg (by omega), if_neg (by omega)]
  have hw : frWhole true ([UInt8.ofNat ty] ++ (P ++ b) ++ (r ++ M)) 2000 0 = (((1 + 4 + b.length : Nat) : Int), true, 0) := by
    unfold frWhole
    rw [if_neg (by simp), if_neg (by rw [hlen, show headN true = 1 from rfl]; omega), hN, if_neg (by rw [he]; simp), show headN true = 1 from rfl]
    simp only [Prod.mk.injEq, decide_eq_true_eq, and_true]
    omega
  unfold nextL
  rw [hw]
  simp only [if_true, Int.toNat_natCast]
  have h1 : ([UInt8.ofNat ty] ++ (P ++ b) ++ (r ++ M)).drop (headN true + 4) = b ++ (r ++ M) := by
    rw [show headN true + 4 = 1 + 4 from rfl, ← List.drop_drop, hd, ← hP, List.drop_left]
  have h2 : ([UInt8.ofNat ty] ++ (P ++ b) ++ (r ++ M)).drop (1 + 4 + b.length) = r ++ M := by
    rw [← List.drop_drop, show (1 + 4 : Nat) = headN true + 4 from rfl, h1, List.drop_left]
  have h3 : tyOf true ([UInt8.ofNat ty] ++ (P ++ b) ++ (r ++ M)) = ty := by
    rw [e]
    simp [tyOf, List.getD]
    omega
  rw [h1, h2, h3, show 1 + 4 + b.length - (headN true + 4) = b.length from by rw [show headN true = 1 from rfl]; omega, List.take_left]

theorem next_lt {L b r : List UInt8} {ty : Nat} (h : nextL true 2000 L 0 = some (ty, b, r)) : r.length + 5 ≤ L.length := by
  obtain ⟨P, hP, _, hL, _⟩ := next_parts h
  rw [hL]
  simp [hP]
  omega

theorem wrong_more {L M : List UInt8} (hw : wrongL true 2000 L 0 ≠ 0) : nextL true 2000 (L ++ M) 0 = none ∧ wrongL true 2000 (L ++ M) 0 = wrongL true 2000 L 0 := by
  unfold wrongL frWhole at hw
  rw [if_neg (by simp)] at hw
  split at hw
  · exact absurd rfl hw
  · rename_i htold
    have hd : frN true (L ++ M) = frN true L := by
      unfold frN
      rw [show headN true = 1 from rfl] at htold ⊢
      rw [List.drop_append_of_le_length (by omega), List.take_append_of_le_length (by rw [List.length_drop]; omega)]
    have hlen : ¬ (L ++ M).length < headN true + 4 := by rw [List.length_append]; omega
    split at hw
    · rename_i he
      have hwh : frWhole true (L ++ M) 2000 0 = (0, false, frErr 2000 (frN true L)) := by
        unfold frWhole
        rw [if_neg (by simp), if_neg hlen, hd, if_pos he]
      have hwL : frWhole true L 2000 0 = (0, false, frErr 2000 (frN true L)) := by
        unfold frWhole
        rw [if_neg (by simp), if_neg htold, if_pos he]
      unfold nextL wrongL
      rw [hwh, hwL]
      exact ⟨rfl, rfl⟩
    · exact absurd rfl hw

theorem next_wrong {L : List UInt8} {wr : Int} (h : wr ≠ 0) : nextL true 2000 L wr = none ∧ wrongL true 2000 L wr = wr := by
  have hw : frWhole true L 2000 wr = (0, false, wr) := by unfold frWhole; rw [if_pos h]
  unfold nextL wrongL
  rw [hw]
  exact ⟨rfl, rfl⟩

/-- What is left, and what is wrong, once f messages are taken or no more is there. -/
def takeF : Nat → List UInt8 → Int → List UInt8 × Int
  | 0, L, wr => (L, wr)
  | f + 1, L, wr => match nextL true 2000 L wr with
    | none => (L, wrongL true 2000 L wr)
    | some (_, _, r) => takeF f r 0

theorem takeF_wrong (f : Nat) (L : List UInt8) (wr : Int) (h : wr ≠ 0) : takeF f L wr = (L, wr) := by
  cases f with
  | zero => rfl
  | succ f =>
    obtain ⟨h1, h2⟩ := next_wrong (L := L) h
    unfold takeF
    rw [h1, h2]

theorem takeF_enough : ∀ (f g : Nat) (L : List UInt8), L.length ≤ 5 * f → L.length ≤ 5 * g → takeF f L 0 = takeF g L 0
  | 0, 0, _, _, _ => rfl
  | 0, g + 1, L, hf, _ => by
    have : L = [] := List.eq_nil_of_length_eq_zero (by omega)
    subst this
    rfl
  | f + 1, 0, L, _, hg => by
    have : L = [] := List.eq_nil_of_length_eq_zero (by omega)
    subst this
    rfl
  | f + 1, g + 1, L, hf, hg => by
    unfold takeF
    cases h : nextL true 2000 L 0 with
    | none => rfl
    | some x =>
      obtain ⟨ty, b, r⟩ := x
      have := next_lt h
      exact takeF_enough f g r (by omega) (by omega)

/-- Taking in pieces: what is left of some bytes, with more behind, goes as the bytes with more behind. -/
theorem takeF_more : ∀ (f g : Nat) (T M : List UInt8), T.length + M.length ≤ 5 * f → T.length + M.length ≤ 5 * g → takeF f (T ++ M) 0 = takeF g ((takeF f T 0).1 ++ M) (takeF f T 0).2
  | 0, g, T, M, hf, _ => by
    have h1 : T = [] := List.eq_nil_of_length_eq_zero (by omega)
    have h2 : M = [] := List.eq_nil_of_length_eq_zero (by omega)
    subst h1 h2
    cases g <;> rfl
  | f + 1, g, T, M, hf, hg => by
    cases h : nextL true 2000 T 0 with
    | none =>
      have e : takeF (f + 1) T 0 = (T, wrongL true 2000 T 0) := by unfold takeF; rw [h]
      rw [e]
      by_cases hw : wrongL true 2000 T 0 = 0
      · simp only [hw]
        exact takeF_enough _ _ _ (by rw [List.length_append]; omega) (by rw [List.length_append]; omega)
      · obtain ⟨h1, h2⟩ := wrong_more (M := M) hw
        simp only
        rw [takeF_wrong g _ _ hw]
        unfold takeF
        rw [h1, h2]
    | some x =>
      obtain ⟨ty, b, r⟩ := x
      have hl := next_lt h
      have e : takeF (f + 1) T 0 = takeF f r 0 := by rw [takeF]; rw [h]
      have e2 : takeF (f + 1) (T ++ M) 0 = takeF f (r ++ M) 0 := by rw [takeF]; rw [next_more M h]
      rw [e, e2]
      exact takeF_more f g r M (by omega) (by omega)

end Go.Proofs.Ytpdkoijgemgaiaa
