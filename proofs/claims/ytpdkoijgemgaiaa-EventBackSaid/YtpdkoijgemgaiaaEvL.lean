/-
  Plain laws of events (layer 42): what bytes' events are; events are read from their bytes.
-/
import Derived.Test.YtpdkoijgemgaiaaEvB
import Derived.Test.YtpdkoijgemgaiaaNumBack
namespace Go.Proofs.Ytpdkoijgemgaiaa
open Go.RowKit

/-- The event with which bytes begin, and what is behind it. -/
def firstL (l : List UInt8) : Option (EvV × List UInt8) :=
  if l.length < 8 then none
  else if (l.length : Int) - 8 < be ((l.drop 6).take 2) then none
  else if evOk ((l.getD 0 0).toNat) ((l.getD 1 0).toNat) (be ((l.drop 2).take 4)) ((l.drop 8).take (be ((l.drop 6).take 2)).toNat).length
    then some (⟨(l.getD 0 0).toNat, (l.getD 1 0).toNat, be ((l.drop 2).take 4), (l.drop 8).take (be ((l.drop 6).take 2)).toNat⟩, l.drop (8 + (be ((l.drop 6).take 2)).toNat))
    else none

theorem firstL_lt {l r : List UInt8} {x : EvV} (h : firstL l = some (x, r)) : r.length < l.length := by
  unfold firstL at h
  split at h
  · cases h
  · rename_i h8
    split at h
    · cases h
    · split at h
      · simp only [Option.some.injEq, Prod.mk.injEq] at h
        rw [← h.2, List.length_drop]
        omega
      · cases h

/-- The events of bytes. -/
def parseF : Nat → List UInt8 → List EvV
  | 0, _ => []
  | f + 1, l => match firstL l with
    | none => []
    | some (x, r) => x :: parseF f r

theorem parseF_more : ∀ (f g : Nat) (l : List UInt8), l.length < f → l.length < g → parseF f l = parseF g l
  | 0, _, _, h, _ => by omega
  | _ + 1, 0, _, _, h => by omega
  | f + 1, g + 1, l, hf, hg => by
    unfold parseF
    cases h : firstL l with
    | none => rfl
    | some xr =>
      obtain ⟨x, r⟩ := xr
      have := firstL_lt h
      simp only
      rw [parseF_more f g r (by omega) (by omega)]

def parseL (l : List UInt8) : List EvV := parseF (l.length + 1) l

theorem parseL_none {l : List UInt8} (h : firstL l = none) : parseL l = [] := by
  unfold parseL parseF
  rw [h]
theorem parseL_some {l r : List UInt8} {x : EvV} (h : firstL l = some (x, r)) : parseL l = x :: parseL r := by
  have hlt := firstL_lt h
  unfold parseL
  rw [show parseF (l.length + 1) l = x :: parseF l.length r from by rw [parseF, h]]
  rw [parseF_more l.length (r.length + 1) r (by omega) (by omega)]

def putL (xs : List EvV) : List UInt8 := (xs.map codeL).flatten

theorem headL_eq {k o n m : Int} (hn : 0 ≤ n) (hn2 : n < 2147483648) (hm : 0 ≤ m) (hm2 : m ≤ 65535) : headL k o n m = [u8 k, u8 o] ++ (putB n 4 4 ++ putB m 2 2) := by
  unfold headL
  have h4 := putV_right (l := [u8 k, u8 o]) (n := n) (z := 4) (rightB_4 hn (by omega))
  rw [show (4 : Int) = ((4 : Nat) : Int) from rfl, h4]
  have h2 := putV_right (l := [u8 k, u8 o] ++ putB n 4 4) (n := m) (z := 2) (rightB_2 hm (by omega))
  rw [show (2 : Int) = ((2 : Nat) : Int) from rfl, h2, List.append_assoc]

theorem firstL_code (x : EvV) (r : List UInt8) (h : evOk x.kind x.who x.n x.bytes.length = true) : firstL (codeL x ++ r) = some (x, r) := by
  obtain ⟨k, o, n, l⟩ := x
  have hc : codeL ⟨k, o, n, l⟩ = headL k o n l.length ++ l := by unfold codeL; rw [if_pos h]
  dsimp only at h
  obtain ⟨h1, h2, h3, h4, h5, h6, h7⟩ := evOk_true h
  have hk8 := u8_val (k := k) (by omega)
  have ho8 := u8_val (k := o) (by omega)
  rw [hc, headL_eq h5 h6 (by omega) (by omega)]
  have l4 := putB_length n 4 4
  have l2 := putB_length (l.length : Int) 2 2
  have b4 := be_put4 (n := n) h5 (by omega)
  have b2 := be_put2 (n := (l.length : Int)) (by omega) (by omega)
  generalize putB n 4 4 = P at *
  generalize putB (l.length : Int) 2 2 = Q at *
  obtain ⟨L, hL⟩ : ∃ L, L = [u8 k, u8 o] ++ (P ++ Q) ++ l ++ r := ⟨_, rfl⟩
  rw [← hL]
  have e0 : L.getD 0 0 = u8 k := by rw [hL]; simp [List.getD]
  have e1 : L.getD 1 0 = u8 o := by rw [hL]; simp [List.getD]
  have d2 : L.drop 2 = P ++ (Q ++ (l ++ r)) := by rw [hL]; simp
  have d6 : L.drop 6 = Q ++ (l ++ r) := by
    rw [show (6 : Nat) = 2 + 4 from rfl, ← List.drop_drop, d2, ← l4, List.drop_left]
  have d8 : L.drop 8 = l ++ r := by
    rw [show (8 : Nat) = 6 + 2 from rfl, ← List.drop_drop, d6, ← l2, List.drop_left]
  have t2 : (L.drop 2).take 4 = P := by rw [d2, ← l4, List.take_left]
  have t6 : (L.drop 6).take 2 = Q := by rw [d6, ← l2, List.take_left]
  have tb : (L.drop 8).take l.length = l := by rw [d8, List.take_left]
  have db : L.drop (8 + l.length) = r := by rw [← List.drop_drop, d8, List.drop_left]
  have hlen : L.length = 8 + l.length + r.length := by rw [hL]; simp [l4, l2]; omega
  unfold firstL
  rw [t2, t6, b4, b2, Int.toNat_natCast, tb, db, e0, e1, hk8, ho8]
  rw [if_neg (by omega), if_neg (by omega), if_pos h]

theorem parseL_put : ∀ (xs : List EvV), parseL (putL xs) = xs.filter (fun x => evOk x.kind x.who x.n x.bytes.length)
  | [] => by
    have : firstL (putL []) = none := by unfold firstL putL; simp
    rw [parseL_none this]
    rfl
  | x :: xs => by
    have ih := parseL_put xs
    by_cases h : evOk x.kind x.who x.n x.bytes.length = true
    · have e : putL (x :: xs) = codeL x ++ putL xs := by simp [putL]
      rw [e, parseL_some (firstL_code x _ h), ih]
      simp [h]
    · have h' : codeL x = [] := by unfold codeL; rw [if_neg h]
      have e : putL (x :: xs) = putL xs := by simp [putL, h']
      rw [e, ih]
      simp [h]

theorem codeL_len (x : EvV) : (codeL x).length ≤ x.bytes.length + 10 := by
  unfold codeL headL
  split
  · have h1 := putV_len [u8 x.kind, u8 x.who] x.n 4
    have h2 := putV_len (putV [u8 x.kind, u8 x.who] x.n 4) (x.bytes.length : Int) 2
    simp only [List.length_cons, List.length_nil] at h1
    rw [List.length_append]
    omega
  · simp

end Go.Proofs.Ytpdkoijgemgaiaa
