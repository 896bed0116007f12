/-
  Ground: Wire, FpL, FpB, FpM, NumE, FoM, FoN, FoO.
-/
import Derived.Test.YtacnmdlefonjmaaGreatPdZP4
import Derived.Test.YtacnmdlefonjmaaGreatPdZP2
import Derived.Test.YtacnmdlefonjmaaGreatPdZP8
import Derived.Test.YtacnmdlefonjmaaGreatPdZP1
/-
  Plain laws of pieces: numbers, texts, lists and values; what was put is read, what is read has just these bytes.
-/
namespace Go.Proofs.YtacnmdlefonjmaaGreat
open Go.RowKit
set_option linter.unusedVariables false
set_option linter.unusedSimpArgs false

theorem indexByte_app : ∀ (A R : List UInt8), (0 : UInt8) ∉ A → Lib.indexByte (A ++ 0 :: R) 0 = (A.length : Int)
  | [], R, _ => by simp [Lib.indexByte]
  | a :: A, R, h => by
    simp only [List.mem_cons, not_or] at h
    have ih := indexByte_app A R h.2
    have ha : (a == 0) = false := by simpa using fun e => h.1 e.symm
    rw [List.cons_append, Lib.indexByte, ha, ih]
    first | (simp; done) | (simp; omega)
theorem indexByte_split : ∀ T : List UInt8, Lib.indexByte T 0 = -1 ∨ ∃ A R, T = A ++ 0 :: R ∧ (0 : UInt8) ∉ A
  | [] => .inl rfl
  | a :: T => by
    by_cases ha : a = 0
    · subst ha
      exact .inr ⟨[], T, rfl, by simp⟩
    · have ha' : (a == 0) = false := by simpa using ha
      rcases indexByte_split T with h | ⟨A, R, rfl, h⟩
      · left
        rw [Lib.indexByte, ha', h]
        rfl
      · exact .inr ⟨a :: A, R, rfl, by simp only [List.mem_cons, not_or]; exact ⟨fun e => ha e.symm, h⟩⟩

theorem strOf_data (s : ByteArray) : strOf s.data.toList = s := by simp [strOf]
theorem data_strOf (l : List UInt8) : (strOf l).data.toList = l := by simp [strOf]
theorem strOf_nil {l : List UInt8} (h : strOf l = ⟨#[]⟩) : l = [] := by
  have := congrArg (fun s => s.data.toList) h
  simpa [data_strOf] using this

theorem text_app (A R : List UInt8) (h : (0 : UInt8) ∉ A) : textOk (A ++ 0 :: R) false = true ∧ textV (A ++ 0 :: R) false = strOf A ∧ (A ++ 0 :: R).drop ((Lib.indexByte (A ++ 0 :: R) 0).toNat + 1) = R := by
  have hi := indexByte_app A R h
  have hok : textOk (A ++ 0 :: R) false = true := by
    unfold textOk
    rw [hi]
    first | (simp; done) | (simp; omega)
  refine ⟨hok, ?_, ?_⟩
  · unfold textV
    rw [hok, hi]
    simp
  · rw [hi]
    simp
theorem text_split {T : List UInt8} (h : textOk T false = true) : ∃ A R, T = A ++ 0 :: R ∧ (0 : UInt8) ∉ A := by
  rcases indexByte_split T with e | e
  · unfold textOk at h
    rw [e] at h
    simp at h
  · exact e

theorem clean_mem {s : ByteArray} (h : cleanB s = true) : (0 : UInt8) ∉ s.data.toList := by
  unfold cleanB at h
  simpa using h
theorem bindQ_some {α β : Type} {o : Option α} {f : α → Option β} {y : β} (h : o.bind f = some y) : ∃ a, o = some a ∧ f a = some y := by
  cases o with
  | none => cases h
  | some a => exact ⟨a, rfl, h⟩

/-- The bytes of a number of so many bytes. -/
theorem putB_be : ∀ {l : List UInt8} {z : Nat}, (z = 1 ∨ z = 2 ∨ z = 4) → l.length = z → putB (be l) z z = l := by
  intro l z hz hl
  rcases hz with rfl | rfl | rfl
  · match l, hl with
    | [a], _ =>
      have h0 := putAt_shr (be [a]) 1 0 (by omega) (by omega)
      have ha := a.toNat_lt
      have e0 : putAt (be [a]) 1 0 = a := UInt8.toNat_inj.1 (by simp [be] at h0 ⊢; omega)
      simp only [putB, List.range_succ, List.range_zero, List.nil_append, List.map_append, List.map_cons, List.map_nil, List.cons_append, e0]
  · match l, hl with
    | [a, b], _ =>
      have h0 := putAt_shr (be [a, b]) 2 0 (by omega) (by omega)
      have h1 := putAt_shr (be [a, b]) 2 1 (by omega) (by omega)
      have ha := a.toNat_lt
      have hb := b.toNat_lt
      have e0 : putAt (be [a, b]) 2 0 = a := UInt8.toNat_inj.1 (by simp [be] at h0 ⊢; omega)
      have e1 : putAt (be [a, b]) 2 1 = b := UInt8.toNat_inj.1 (by simp [be] at h1 ⊢; omega)
      simp only [putB, List.range_succ, List.range_zero, List.nil_append, List.map_append, List.map_cons, List.map_nil, List.cons_append, e0, e1]
  · match l, hl with
    | [a, b, c, d], _ =>
      have h0 := putAt_shr (be [a, b, c, d]) 4 0 (by omega) (by omega)
      have h1 := putAt_shr (be [a, b, c, d]) 4 1 (by omega) (by omega)
      have h2 := putAt_shr (be [a, b, c, d]) 4 2 (by omega) (by omega)
      have h3 := putAt_shr (be [a, b, c, d]) 4 3 (by omega) (by omega)
      have ha := a.toNat_lt
      have hb := b.toNat_lt
      have hc := c.toNat_lt
      have hd := d.toNat_lt
      have e0 : putAt (be [a, b, c, d]) 4 0 = a := UInt8.toNat_inj.1 (by simp [be] at h0 ⊢; omega)
      have e1 : putAt (be [a, b, c, d]) 4 1 = b := UInt8.toNat_inj.1 (by simp [be] at h1 ⊢; omega)
      have e2 : putAt (be [a, b, c, d]) 4 2 = c := UInt8.toNat_inj.1 (by simp [be] at h2 ⊢; omega)
      have e3 : putAt (be [a, b, c, d]) 4 3 = d := UInt8.toNat_inj.1 (by simp [be] at h3 ⊢; omega)
      simp only [putB, List.range_succ, List.range_zero, List.nil_append, List.map_append, List.map_cons, List.map_nil, List.cons_append, e0, e1, e2, e3]

/-- A size that numbers have. -/
def Sz (z : Nat) : Prop := z = 1 ∨ z = 2 ∨ z = 4
theorem Sz.sized {z : Nat} (h : Sz z) : sizedB (z : Int) = true := by rcases h with rfl | rfl | rfl <;> decide
theorem numP_put {z : Nat} (hz : Sz z) (n : Int) (R : List UInt8) : numP z (putB n z z ++ R) = some (n % 2 ^ (8 * z), R) := by
  have hl := putB_length n z z
  have hok : numOk (putB n z z ++ R) false z = true := by
    unfold numOk
    rw [hz.sized]
    simp [hl]
    omega
  have hv : numV (putB n z z ++ R) false z = n % 2 ^ (8 * z) := by
    unfold numV
    rw [if_pos hok, Int.toNat_natCast, List.take_append_of_le_length (by omega), List.take_of_length_le (by omega)]
    exact be_putB' n z hz
  unfold numP
  rw [if_pos hok, hv, List.drop_append_of_le_length (by omega), List.drop_of_length_le (by omega), List.nil_append]
theorem numP_in {z : Nat} (hz : Sz z) {n : Int} (h0 : 0 ≤ n) (h1 : n < 2 ^ (8 * z)) (R : List UInt8) : numP z (putB n z z ++ R) = some (n, R) := by
  rw [numP_put hz, Int.emod_eq_of_lt h0 h1]
theorem numP_out {z : Nat} (hz : Sz z) {L R : List UInt8} {n : Int} (h : numP z L = some (n, R)) : L = putB n z z ++ R ∧ 0 ≤ n ∧ n < 2 ^ (8 * z) := by
  unfold numP at h
  split at h
  · rename_i hok
    injection h with h
    injection h with h1 h2
    have hl : z ≤ L.length := by
      unfold numOk at hok
      simp only [Bool.and_eq_true, decide_eq_true_eq] at hok
      omega
    have hA : (L.take z).length = z := by rw [List.length_take]; omega
    have hv : numV L false z = be (L.take z) := by unfold numV; rw [if_pos hok, Int.toNat_natCast]
    have hb := be_bd (L.take z)
    rw [hA] at hb
    have hp : (256 : Int) ^ z = 2 ^ (8 * z) := by rcases hz with rfl | rfl | rfl <;> rfl
    rw [hp, ← hv, h1] at hb
    refine ⟨?_, hb.1, hb.2⟩
    rw [← h1, hv, putB_be hz hA, ← h2, List.take_append_drop]
  · cases h

/-- A text with its end. -/
def strP (s : ByteArray) : List UInt8 := s.data.toList ++ [0]
theorem strB_p (b : List UInt8) (s : ByteArray) : strB b s = b ++ strP s := by unfold strB strP; rw [List.append_assoc]
theorem textQ_in {s : ByteArray} (h : cleanB s = true) (R : List UInt8) : textQ (strP s ++ R) = some (s, R) := by
  obtain ⟨h1, h2, h3⟩ := text_app s.data.toList R (clean_mem h)
  have e : strP s ++ R = s.data.toList ++ 0 :: R := by unfold strP; rw [List.append_assoc]; rfl
  rw [e]
  unfold textQ
  rw [if_pos h1, h2, h3, strOf_data]
theorem textQ_out {L R : List UInt8} {s : ByteArray} (h : textQ L = some (s, R)) : L = strP s ++ R ∧ cleanB s = true := by
  unfold textQ at h
  split at h
  · rename_i hok
    injection h with h
    injection h with h1 h2
    obtain ⟨A, T, rfl, hA⟩ := text_split hok
    obtain ⟨t1, t2, t3⟩ := text_app A T hA
    rw [t2] at h1
    rw [t3] at h2
    subst h1 h2
    refine ⟨?_, ?_⟩
    · unfold strP
      rw [data_strOf, List.append_assoc]
      rfl
    · unfold cleanB
      rw [data_strOf]
      simpa using hA
  · cases h

/-- Numbers one behind the other. -/
def numsC (z : Nat) (l : List Int) : List UInt8 := l.flatMap fun n => putB n z z
theorem numsP_in {z : Nat} (hz : Sz z) : ∀ (l : List Int) (R : List UInt8), (∀ n ∈ l, 0 ≤ n ∧ n < 2 ^ (8 * z)) → numsP z l.length (numsC z l ++ R) = some (l, R)
  | [], R, _ => rfl
  | n :: l, R, h => by
    have hn := h n (by simp)
    have e : numsC z (n :: l) ++ R = putB n z z ++ (numsC z l ++ R) := by simp [numsC]
    rw [e, List.length_cons, numsP, numP_in hz hn.1 hn.2]
    show (numsP z l.length (numsC z l ++ R)).bind _ = _
    rw [numsP_in hz l R (fun m hm => h m (by simp [hm]))]
    rfl
theorem numsP_out {z : Nat} (hz : Sz z) : ∀ (n : Nat) (L R : List UInt8) (l : List Int), numsP z n L = some (l, R) → L = numsC z l ++ R ∧ l.length = n ∧ ∀ m ∈ l, 0 ≤ m ∧ m < 2 ^ (8 * z)
  | 0, L, R, l, h => by
    injection h with h
    injection h with h1 h2
    subst h1 h2
    exact ⟨rfl, rfl, fun m hm => by cases hm⟩
  | n + 1, L, R, l, h => by
    obtain ⟨⟨a, L1⟩, e1, h⟩ := bindQ_some h
    obtain ⟨⟨b, L2⟩, e2, h⟩ := bindQ_some h
    injection h with h
    injection h with h1 h2
    obtain ⟨q1, q2, q3⟩ := numP_out hz e1
    obtain ⟨k1, k2, k3⟩ := numsP_out hz n _ _ _ e2
    dsimp only at h1 h2 k1
    subst h1 h2
    refine ⟨?_, by rw [List.length_cons, k2], fun m hm => ?_⟩
    · rw [q1, k1]
      simp [numsC]
    · rcases List.mem_cons.1 hm with rfl | hm
      · exact ⟨q2, q3⟩
      · exact k3 m hm
/-- A list with its size ahead. -/
def listC (z : Nat) (l : List Int) : List UInt8 := putB l.length 2 2 ++ numsC z l
theorem listQ_in {z : Nat} (hz : Sz z) (l : List Int) (R : List UInt8) (hl : l.length ≤ 65535) (h : ∀ n ∈ l, 0 ≤ n ∧ n < 2 ^ (8 * z)) : listQ z (listC z l ++ R) = some (l, R) := by
  unfold listQ listC
  rw [List.append_assoc, numP_in (.inr (.inl rfl)) (by omega) (by show (l.length : Int) < 65536; omega)]
  show numsP z ((l.length : Int)).toNat _ = _
  rw [Int.toNat_natCast]
  exact numsP_in hz l R h
theorem listQ_out {z : Nat} (hz : Sz z) {L R : List UInt8} {l : List Int} (h : listQ z L = some (l, R)) : L = listC z l ++ R ∧ l.length ≤ 65535 ∧ ∀ m ∈ l, 0 ≤ m ∧ m < 2 ^ (8 * z) := by
  unfold listQ at h
  obtain ⟨⟨a, L1⟩, e1, h⟩ := bindQ_some h
  obtain ⟨q1, q2, q3⟩ := numP_out (.inr (.inl rfl)) e1
  obtain ⟨k1, k2, k3⟩ := numsP_out hz _ _ _ _ h
  dsimp only at k1 k2
  have q3' : a < 65536 := q3
  refine ⟨?_, by omega, k3⟩
  unfold listC
  rw [q1, k1, List.append_assoc, show (l.length : Int) = a by omega]
theorem listB_c (b : List UInt8) (l : List Int) {z : Nat} (hz : Sz z) (hl : l.length ≤ 65535) (h : ∀ n ∈ l, 0 ≤ n ∧ n < 2 ^ (8 * z)) : listB b l z = b ++ listC z l := by
  have hr : ∀ n : Int, 0 ≤ n → n < 2 ^ (8 * z) → rightB n (z : Int) = true := by
    intro n h0 h1
    rcases hz with rfl | rfl | rfl <;> (simp [rightB, sizedB] at h1 ⊢; omega)
  have hf : ∀ (l : List Int) (b : List UInt8), (∀ n ∈ l, 0 ≤ n ∧ n < 2 ^ (8 * z)) → l.foldl (fun b n => putV b n z) b = b ++ numsC z l := by
    intro l
    induction l with
    | nil => intro b _; simp [numsC]
    | cons n l ih =>
      intro b h
      have hn := h n (by simp)
      rw [List.foldl_cons, putV_right (hr n hn.1 hn.2), ih _ (fun m hm => h m (by simp [hm]))]
      simp [numsC]
  unfold listB listC
  have e2 : putV b l.length 2 = b ++ putB l.length 2 2 := putV_right (z := 2) (rightB_2 (by omega) (by omega))
  rw [e2, hf l _ h, List.append_assoc]

/-- A value, as bytes. -/
def cellC (c : CeV) : List UInt8 := if c.null then putB 4294967295 4 4 else putB c.bytes.length 4 4 ++ c.bytes
def rightC (c : CeV) : Prop := (c.null = true → c.bytes = []) ∧ c.bytes.length < 4294967295
theorem takeP_in (A R : List UInt8) : takeP (A.length : Int) (A ++ R) = some (A, R) := by
  have hok : takeOk (A ++ R) false (A.length : Int) = true := by
    unfold takeOk
    simp
    omega
  unfold takeP
  rw [if_pos hok]
  unfold takeV
  rw [if_pos hok, Int.toNat_natCast, List.take_append_of_le_length (Nat.le_refl _), List.take_of_length_le (Nat.le_refl _), List.drop_append_of_le_length (Nat.le_refl _), List.drop_of_length_le (Nat.le_refl _), List.nil_append]
theorem takeP_out {n : Int} {L A R : List UInt8} (h : takeP n L = some (A, R)) : L = A ++ R ∧ (A.length : Int) = n := by
  unfold takeP at h
  split at h
  · rename_i hok
    injection h with h
    injection h with h1 h2
    unfold takeV at h1
    rw [if_pos hok] at h1
    unfold takeOk at hok
    simp only [Bool.and_eq_true, decide_eq_true_eq] at hok
    subst h1 h2
    refine ⟨(List.take_append_drop _ _).symm, ?_⟩
    rw [List.length_take]
    omega
  · cases h
theorem cellP_in (c : CeV) (R : List UInt8) (h : rightC c) : cellP (cellC c ++ R) = some (c, R) := by
  obtain ⟨nl, bs⟩ := c
  obtain ⟨h1, h2⟩ := h
  dsimp only at h1 h2
  unfold cellP cellC
  cases nl with
  | true =>
    have hb := h1 rfl
    subst hb
    dsimp only
    rw [if_pos rfl, numP_in (.inr (.inr rfl)) (by omega) (by show (4294967295 : Int) < 4294967296; omega)]
    rfl
  | false =>
    dsimp only
    rw [if_neg Bool.false_ne_true, List.append_assoc, numP_in (.inr (.inr rfl)) (by omega) (by show (bs.length : Int) < 4294967296; omega)]
    show (if ((bs.length : Nat) : Int) = 4294967295 then _ else _) = _
    rw [if_neg (by omega), takeP_in]
    rfl
theorem cellP_out {L R : List UInt8} {c : CeV} (h : cellP L = some (c, R)) : L = cellC c ++ R ∧ rightC c := by
  unfold cellP at h
  obtain ⟨⟨a, L1⟩, e1, h⟩ := bindQ_some h
  obtain ⟨q1, q2, q3⟩ := numP_out (.inr (.inr rfl)) e1
  have q3' : a < 4294967296 := q3
  dsimp only at h
  split at h
  · rename_i ha
    injection h with h
    injection h with h1 h2
    subst h1 h2 ha
    refine ⟨?_, fun _ => rfl, by decide⟩
    rw [q1]
    rfl
  · rename_i ha
    obtain ⟨⟨b, L2⟩, e2, h⟩ := bindQ_some h
    injection h with h
    injection h with h1 h2
    obtain ⟨k1, k2⟩ := takeP_out e2
    dsimp only at h1 h2
    subst h1 h2
    refine ⟨?_, (fun e => by cases e), by show b.length < _; omega⟩
    unfold cellC
    rw [if_neg Bool.false_ne_true, q1, k1, List.append_assoc]
    show _ = putB ((b.length : Nat) : Int) 4 4 ++ _
    rw [k2]
def cellsC (l : List CeV) : List UInt8 := l.flatMap cellC
theorem cellsP_in : ∀ (l : List CeV) (R : List UInt8), (∀ c ∈ l, rightC c) → cellsP l.length (cellsC l ++ R) = some (l, R)
  | [], R, _ => rfl
  | c :: l, R, h => by
    have e : cellsC (c :: l) ++ R = cellC c ++ (cellsC l ++ R) := by simp [cellsC]
    rw [e, List.length_cons, cellsP, cellP_in c _ (h c (by simp))]
    show (cellsP l.length (cellsC l ++ R)).bind _ = _
    rw [cellsP_in l R (fun m hm => h m (by simp [hm]))]
    rfl
theorem cellsP_out : ∀ (n : Nat) (L R : List UInt8) (l : List CeV), cellsP n L = some (l, R) → L = cellsC l ++ R ∧ l.length = n ∧ ∀ c ∈ l, rightC c
  | 0, L, R, l, h => by
    injection h with h
    injection h with h1 h2
    subst h1 h2
    exact ⟨rfl, rfl, fun m hm => by cases hm⟩
  | n + 1, L, R, l, h => by
    obtain ⟨⟨a, L1⟩, e1, h⟩ := bindQ_some h
    obtain ⟨⟨b, L2⟩, e2, h⟩ := bindQ_some h
    injection h with h
    injection h with h1 h2
    obtain ⟨q1, q2⟩ := cellP_out e1
    obtain ⟨k1, k2, k3⟩ := cellsP_out n _ _ _ e2
    dsimp only at h1 h2 k1
    subst h1 h2
    refine ⟨?_, by rw [List.length_cons, k2], fun m hm => ?_⟩
    · rw [q1, k1]
      simp [cellsC]
    · rcases List.mem_cons.1 hm with rfl | hm
      · exact q2
      · exact k3 m hm
def rowC (l : List CeV) : List UInt8 := putB l.length 2 2 ++ cellsC l
theorem rowQ_in (l : List CeV) (R : List UInt8) (hl : l.length ≤ 65535) (h : ∀ c ∈ l, rightC c) : rowQ (rowC l ++ R) = some (l, R) := by
  unfold rowQ rowC
  rw [List.append_assoc, numP_in (.inr (.inl rfl)) (by omega) (by show (l.length : Int) < 65536; omega)]
  show cellsP ((l.length : Int)).toNat _ = _
  rw [Int.toNat_natCast]
  exact cellsP_in l R h
theorem rowQ_out {L R : List UInt8} {l : List CeV} (h : rowQ L = some (l, R)) : L = rowC l ++ R ∧ l.length ≤ 65535 ∧ ∀ c ∈ l, rightC c := by
  unfold rowQ at h
  obtain ⟨⟨a, L1⟩, e1, h⟩ := bindQ_some h
  obtain ⟨q1, q2, q3⟩ := numP_out (.inr (.inl rfl)) e1
  obtain ⟨k1, k2, k3⟩ := cellsP_out _ _ _ _ h
  dsimp only at k1 k2
  have q3' : a < 65536 := q3
  refine ⟨?_, by omega, k3⟩
  unfold rowC
  rw [q1, k1, List.append_assoc, show (l.length : Int) = a by omega]
theorem rowB_c (b : List UInt8) (l : List CeV) (hl : l.length ≤ 65535) (h : ∀ c ∈ l, rightC c) : rowB b l = b ++ rowC l := by
  have hf : ∀ (l : List CeV) (b : List UInt8), (∀ c ∈ l, rightC c) → l.foldl cellB b = b ++ cellsC l := by
    intro l
    induction l with
    | nil => intro b _; simp [cellsC]
    | cons c l ih =>
      intro b h
      have hc := h c (by simp)
      have e : cellB b c = b ++ cellC c := by
        unfold cellB cellC
        split
        · exact putV_right (z := 4) (rightB_4 (by omega) (by omega))
        · have e4 : putV b c.bytes.length 4 = b ++ putB c.bytes.length 4 4 := putV_right (z := 4) (rightB_4 (by omega) (by have := hc.2; omega))
          rw [e4, List.append_assoc]
      rw [List.foldl_cons, e, ih _ (fun m hm => h m (by simp [hm]))]
      simp [cellsC]
  unfold rowB rowC
  have e2 : putV b l.length 2 = b ++ putB l.length 2 2 := putV_right (z := 2) (rightB_2 (by omega) (by omega))
  rw [e2, hf l _ h, List.append_assoc]

end Go.Proofs.YtacnmdlefonjmaaGreat

/-
  Plain laws of lists that are the same, of numbers that are put and read.
-/
namespace Go.Proofs.YtacnmdlefonjmaaGreat
open Go.RowKit
set_option linter.unusedVariables false
set_option linter.unusedSimpArgs false

theorem str_same {a b : ByteArray} (h : (a.toList == b.toList) = true) : a = b := by
  have ha : a = strOf a.data.toList := by simp [strOf]
  have hb : b = strOf b.data.toList := by simp [strOf]
  have e : a.toList = b.toList := by simpa using h
  rw [ha, hb] at e ⊢
  rw [strOf_toList, strOf_toList] at e
  rw [e]
theorem listEq_same {α : Type} {f : α → α → Bool} (hf : ∀ a b, f a b = true → a = b) : ∀ {l m : List α}, listEq f l m = true → l = m
  | [], [], _ => rfl
  | [], b :: m, h => by simp [listEq] at h
  | a :: l, [], h => by simp [listEq] at h
  | a :: l, b :: m, h => by
    simp only [listEq, Bool.and_eq_true] at h
    rw [hf a b h.1, listEq_same hf h.2]
theorem ceEq_same (a b : CeV) (h : ceEq a b = true) : a = b := by
  obtain ⟨an, al⟩ := a
  obtain ⟨bn, bl⟩ := b
  simp [ceEq] at h
  rw [h.1, h.2]
theorem between_parts {l : List Int} {hi : Int} (h : between l 0 hi = true) : l.length ≤ 65535 ∧ ∀ n ∈ l, 0 ≤ n ∧ n < hi + 1 := by
  unfold between at h
  simp only [Bool.and_eq_true, decide_eq_true_eq, Bool.not_eq_true', List.any_eq_false] at h
  refine ⟨h.1, fun n hn => ?_⟩
  have := h.2 n hn
  unfold outside at this
  simp at this
  omega
theorem values_parts {l : List CeV} (h : valuesV l = true) : l.length ≤ 65535 ∧ ∀ c ∈ l, rightC c := by
  unfold valuesV at h
  simp only [Bool.and_eq_true, decide_eq_true_eq, Bool.not_eq_true', List.any_eq_false] at h
  refine ⟨h.1, fun c hc => ?_⟩
  have := h.2 c hc
  unfold wrongC at this
  simp at this
  refine ⟨fun e => ?_, by omega⟩
  have h2 := this.1 e
  simpa using h2
theorem byte_put {n : Int} (h0 : 0 ≤ n) (h1 : n < 256) : [UInt8.ofNat n.toNat] = putB n 1 1 := by
  have h := putAt_shr n 1 0 (.inl rfl) (by omega)
  simp only [putB, List.range_succ, List.range_zero, List.nil_append, List.map_cons, List.map_nil]
  congr 1
  apply UInt8.toNat_inj.1
  simp at h ⊢
  omega
theorem signed_back {n : Int} (h0 : -2147483648 ≤ n) (h1 : n < 2147483648) : signedV (n % 2 ^ (8 * 4)) 4 = n := by
  unfold signedV
  have hs : sizedB 4 = true := by decide
  rw [hs]
  have e1 : (2 : Int) ^ (8 * (4 : Int).toNat) = 4294967296 := by decide
  have e2 : (2 : Int) ^ (8 * 4) = 4294967296 := by decide
  rw [e1, e2]
  simp only [true_and]
  split <;> omega

end Go.Proofs.YtacnmdlefonjmaaGreat

/-
  Messages of clients (layer 6): plain laws: what was made is read, what is read has just these bytes.
-/
namespace Go.Proofs.YtacnmdlefonjmaaGreat
open Go.RowKit
set_option linter.unusedVariables false
set_option linter.unusedSimpArgs false

theorem foEq_same {a b : FoV} (h : foEq a b = true) : a = b := by
  unfold foEq headEq at h
  simp only [Bool.and_eq_true] at h
  obtain ⟨⟨h1, h2, h3, h4, h5, h6⟩, k1, k2, k3, k4⟩ := h
  obtain ⟨ak, aw, an, ap, at', ao, af, ar, ac, am⟩ := a
  obtain ⟨bk, bw, bn, bp, bt, bo, bf, br, bc, bm⟩ := b
  have e3 := str_same h3
  have e4 := str_same h4
  have e5 := str_same h5
  have q1 := listEq_same (fun a b h => by simpa [intsEq] using h) k1
  have q2 := listEq_same (fun a b h => by simpa [intsEq] using h) k2
  have q3 := listEq_same (fun a b h => by simpa [intsEq] using h) k3
  have q4 := listEq_same ceEq_same k4
  dsimp only at *
  have e1 : ak = bk := by simpa using h1
  have e2 : aw = bw := by simpa using h2
  have e6 : am = bm := by simpa using h6
  subst e1 e2 e3 e4 e5 e6 q1 q2 q3 q4
  rfl

theorem ok_parts {f : FoV} (h : okF f = true) : whatV f = true ∧ (f.oids.length ≤ 65535 ∧ ∀ n ∈ f.oids, 0 ≤ n ∧ n < 2 ^ (8 * 4)) ∧ (f.formats.length ≤ 65535 ∧ ∀ n ∈ f.formats, 0 ≤ n ∧ n < 2 ^ (8 * 2)) ∧ (f.results.length ≤ 65535 ∧ ∀ n ∈ f.results, 0 ≤ n ∧ n < 2 ^ (8 * 2)) ∧ (f.params.length ≤ 65535 ∧ ∀ c ∈ f.params, rightC c) ∧
    cleanB f.name = true ∧ cleanB f.portal = true ∧ cleanB f.text = true ∧ (-2147483648 ≤ f.max ∧ f.max < 2147483648) ∧ f = keptV f := by
  unfold okF listsV textsV maxV at h
  simp only [Bool.and_eq_true, decide_eq_true_eq] at h
  obtain ⟨h1, ⟨h2, h3, h4, h5⟩, ⟨h6, h7, h8⟩, h9, h10⟩ := h
  exact ⟨h1, between_parts h2, between_parts h3, between_parts h4, values_parts h5, h6, h7, h8, h9, foEq_same h10⟩
theorem check_ok {f : FoV} (h : checkF f = 0) : knownV f.kind = 1 ∧ okF f = true := by
  unfold checkF at h
  split at h
  · rename_i h1
    split at h
    · rename_i h2
      exact ⟨h1, h2⟩
    · omega
  · omega
theorem known_kinds {k : Int} (h : knownV k = 1) : k = 80 ∨ k = 66 ∨ (k = 67 ∨ k = 68) ∨ k = 69 ∨ k = 81 ∨ (k = 72 ∨ k = 83 ∨ k = 88) := by
  unfold knownV at h
  split at h
  · rename_i hk
    simp at hk
    omega
  · split at h <;> omega

/-- The body of each kind in pieces. -/
def bodyC (f : FoV) : List UInt8 :=
  if f.kind = 80 then strP f.name ++ (strP f.text ++ listC 4 f.oids)
  else if f.kind = 66 then strP f.portal ++ (strP f.name ++ (listC 2 f.formats ++ (rowC f.params ++ listC 2 f.results)))
  else if f.kind = 67 ∨ f.kind = 68 then putB f.what 1 1 ++ strP (if f.what = 83 then f.name else f.portal)
  else if f.kind = 69 then strP f.portal ++ putB f.max 4 4
  else if f.kind = 81 then strP f.text
  else []
theorem bodyF_c {f : FoV} (hw : 0 ≤ f.what ∧ f.what < 256) (ho : f.oids.length ≤ 65535 ∧ ∀ n ∈ f.oids, 0 ≤ n ∧ n < 2 ^ (8 * 4)) (hf : f.formats.length ≤ 65535 ∧ ∀ n ∈ f.formats, 0 ≤ n ∧ n < 2 ^ (8 * 2))
    (hr : f.results.length ≤ 65535 ∧ ∀ n ∈ f.results, 0 ≤ n ∧ n < 2 ^ (8 * 2)) (hp : f.params.length ≤ 65535 ∧ ∀ c ∈ f.params, rightC c) (hm : -2147483648 ≤ f.max ∧ f.max < 2147483648) : bodyF f = bodyC f := by
  unfold bodyF bodyC
  split
  · have := listB_c (strB (strB [] f.name) f.text) f.oids (z := 4) (.inr (.inr rfl)) ho.1 ho.2
    rw [this, strB_p, strB_p, List.nil_append, List.append_assoc]
  split
  · rw [listB_c _ _ (.inr (.inl rfl)) hr.1 hr.2, rowB_c _ _ hp.1 hp.2, listB_c _ _ (.inr (.inl rfl)) hf.1 hf.2, strB_p, strB_p, List.nil_append]
    simp only [List.append_assoc]
  split
  · rw [strB_p, byte_put hw.1 hw.2]
  split
  · have h4 : rightB f.max (4 : Nat) = true := by simp [rightB, sizedB]; omega
    have e : putV (strB [] f.portal) f.max 4 = strB [] f.portal ++ putB f.max 4 4 := putV_right (z := 4) h4
    rw [e, strB_p, List.nil_append]
  split
  · rw [strB_p, List.nil_append]
  · rfl

/-- What was made is read. -/
theorem read_body {f : FoV} (hb : FoB f) (hc : checkF f = 0) : readP f.kind (bodyF f) = some (f, []) := by
  obtain ⟨hk, hok⟩ := check_ok hc
  obtain ⟨hw, ho, hf, hr, hp, t1, t2, t3, hm, hkp⟩ := ok_parts hok
  obtain ⟨_, _, hw0, hw1⟩ := hb
  rw [bodyF_c ⟨hw0, hw1⟩ ho hf hr hp hm]
  obtain ⟨k, wh, n, p, t, o, fs, r, c, m⟩ := f
  dsimp only at *
  unfold keptV at hkp
  dsimp only at hkp
  unfold readP bodyC
  dsimp only
  rcases known_kinds hk with rfl | rfl | hk2 | rfl | rfl | hk3
  · simp at hkp
    obtain ⟨rfl, rfl, rfl, rfl, rfl, rfl⟩ := hkp
    rw [if_pos rfl, if_pos rfl, textQ_in t1]
    show (textQ (strP t ++ listC 4 o)).bind _ = _
    rw [textQ_in t3]
    show (listQ 4 (listC 4 o)).bind _ = _
    have := listQ_in (z := 4) (.inr (.inr rfl)) o [] ho.1 ho.2
    rw [List.append_nil] at this
    rw [this]
    rfl
  · simp at hkp
    obtain ⟨rfl, rfl, rfl, rfl⟩ := hkp
    rw [if_neg (by decide), if_pos rfl, if_neg (by decide), if_pos rfl, textQ_in t2]
    show (textQ (strP n ++ _)).bind _ = _
    rw [textQ_in t1]
    show (listQ 2 (listC 2 fs ++ _)).bind _ = _
    rw [listQ_in (.inr (.inl rfl)) fs _ hf.1 hf.2]
    show (rowQ (rowC c ++ _)).bind _ = _
    rw [rowQ_in c _ hp.1 hp.2]
    show (listQ 2 (listC 2 r)).bind _ = _
    have := listQ_in (z := 2) (.inr (.inl rfl)) r [] hr.1 hr.2
    rw [List.append_nil] at this
    rw [this]
    rfl
  · have n1 : ¬ k = 80 := by omega
    have n2 : ¬ k = 66 := by omega
    rw [if_neg n1, if_neg n2, if_pos hk2, if_neg n1, if_neg n2, if_pos hk2, numP_in (.inl rfl) hw0 hw1]
    rw [if_neg n1, if_neg n2, if_pos hk2] at hkp
    by_cases hws : wh = 83
    · subst hws
      simp at hkp
      obtain ⟨rfl, rfl, rfl, rfl, rfl, rfl, rfl⟩ := hkp
      show (textQ (strP n)).bind _ = _
      have := textQ_in t1 []
      rw [List.append_nil] at this
      rw [this]
      rfl
    · rw [if_neg hws] at hkp
      simp at hkp
      obtain ⟨rfl, rfl, rfl, rfl, rfl, rfl, rfl⟩ := hkp
      rw [if_neg hws]
      show (textQ (strP p)).bind _ = _
      have := textQ_in t2 []
      rw [List.append_nil] at this
      rw [this]
      show some ((if wh = 83 then _ else _), _) = _
      rw [if_neg hws]
      rfl
  · simp at hkp
    obtain ⟨rfl, rfl, rfl, rfl, rfl, rfl, rfl⟩ := hkp
    rw [if_neg (by decide), if_neg (by decide), if_neg (by decide), if_pos rfl, if_neg (by decide), if_neg (by decide), if_neg (by decide), if_pos rfl, textQ_in t2]
    dsimp only [Option.bind_some]
    have := numP_put (z := 4) (.inr (.inr rfl)) m []
    rw [List.append_nil] at this
    rw [this]
    show some (({ foZero 69 with portal := p, max := signedV (m % 2 ^ (8 * 4)) 4 } : FoV), _) = _
    rw [signed_back hm.1 hm.2]
    rfl
  · simp at hkp
    obtain ⟨rfl, rfl, rfl, rfl, rfl, rfl, rfl, rfl⟩ := hkp
    rw [if_neg (by decide), if_neg (by decide), if_neg (by decide), if_neg (by decide), if_pos rfl, if_neg (by decide), if_neg (by decide), if_neg (by decide), if_neg (by decide), if_pos rfl]
    have := textQ_in t3 []
    rw [List.append_nil] at this
    rw [this]
    rfl
  · have n1 : ¬ k = 80 := by omega
    have n2 : ¬ k = 66 := by omega
    have n3 : ¬ (k = 67 ∨ k = 68) := by omega
    have n4 : ¬ k = 69 := by omega
    have n5 : ¬ k = 81 := by omega
    rw [if_neg n1, if_neg n2, if_neg n3, if_neg n4, if_neg n5] at hkp
    rw [if_neg n1, if_neg n2, if_neg n3, if_neg n4, if_neg n5, if_neg n1, if_neg n2, if_neg n3, if_neg n4, if_neg n5]
    simp at hkp
    obtain ⟨rfl, rfl, rfl, rfl, rfl, rfl, rfl, rfl, rfl⟩ := hkp
    rfl

/-- What is read, and may be, has just these bytes. -/
theorem body_read {k : Int} {L : List UInt8} {f : FoV} (h : readP k L = some (f, [])) (hc : checkF f = 0) : bodyF f = L := by
  have hs := readP_small h
  obtain ⟨hk, hok⟩ := check_ok hc
  obtain ⟨hw, ho, hf, hr, hp, t1, t2, t3, hm, hkp⟩ := ok_parts hok
  have hkk := hs.kind
  rw [bodyF_c hs.what ho hf hr hp hm]
  subst hkk
  clear hs hc hok hw ho hf hr hp t1 t2 t3 hkp
  unfold readP at h
  unfold bodyC
  rcases known_kinds hk with e | e | e | e | e | e
  · rw [if_pos e] at h ⊢
    obtain ⟨⟨n, L1⟩, e1, h⟩ := bind_some h
    obtain ⟨⟨t, L2⟩, e2, h⟩ := bind_some h
    obtain ⟨⟨o, L3⟩, e3, h⟩ := bind_some h
    injection h with h; injection h with h h'
    dsimp only at h' e2 e3
    subst h'
    rw [← h]
    show strP n ++ (strP t ++ listC 4 o) = L
    have q3 := (listQ_out (.inr (.inr rfl)) e3).1
    rw [List.append_nil] at q3
    rw [(textQ_out e1).1, (textQ_out e2).1, q3]
  · rw [if_neg (by omega), if_pos e] at h ⊢
    obtain ⟨⟨p, L1⟩, e1, h⟩ := bind_some h
    obtain ⟨⟨n, L2⟩, e2, h⟩ := bind_some h
    obtain ⟨⟨fs, L3⟩, e3, h⟩ := bind_some h
    obtain ⟨⟨c, L4⟩, e4, h⟩ := bind_some h
    obtain ⟨⟨r, L5⟩, e5, h⟩ := bind_some h
    injection h with h; injection h with h h'
    dsimp only at h' e2 e3 e4 e5
    subst h'
    rw [← h]
    show strP p ++ (strP n ++ (listC 2 fs ++ (rowC c ++ listC 2 r))) = L
    have q5 := (listQ_out (.inr (.inl rfl)) e5).1
    rw [List.append_nil] at q5
    rw [(textQ_out e1).1, (textQ_out e2).1, (listQ_out (.inr (.inl rfl)) e3).1, (rowQ_out e4).1, q5]
  · have n1 : ¬ f.kind = 80 := by omega
    have n2 : ¬ f.kind = 66 := by omega
    rw [if_neg n1, if_neg n2, if_pos e] at h ⊢
    obtain ⟨⟨x, L1⟩, e1, h⟩ := bind_some h
    obtain ⟨⟨n, L2⟩, e2, h⟩ := bind_some h
    injection h with h; injection h with h h'
    dsimp only at h' e2 h
    subst h'
    have q2 := (textQ_out e2).1
    rw [List.append_nil] at q2
    have q1 := (numP_out (.inl rfl) e1).1
    split at h
    · rename_i hx
      rw [← h]
      show putB x 1 1 ++ strP (if x = 83 then n else _) = L
      rw [if_pos hx, q1, q2]
    · rename_i hx
      rw [← h]
      show putB x 1 1 ++ strP (if x = 83 then _ else n) = L
      rw [if_neg hx, q1, q2]
  · have n1 : ¬ f.kind = 80 := by omega
    have n2 : ¬ f.kind = 66 := by omega
    have n3 : ¬ (f.kind = 67 ∨ f.kind = 68) := by omega
    rw [if_neg n1, if_neg n2, if_neg n3, if_pos e] at h ⊢
    obtain ⟨⟨p, L1⟩, e1, h⟩ := bind_some h
    obtain ⟨⟨m, L2⟩, e2, h⟩ := bind_some h
    injection h with h; injection h with h h'
    dsimp only at h' e2 h
    subst h'
    obtain ⟨q1, q2, q3⟩ := numP_out (.inr (.inr rfl)) e2
    rw [List.append_nil] at q1
    rw [← h] at hm ⊢
    show strP p ++ putB (signedV m 4) 4 4 = L
    have hx : putB (signedV m 4) 4 4 = putB m 4 4 := by
      have q3' : m < 4294967296 := q3
      have e1 : (2 : Int) ^ (8 * (4 : Int).toNat) = 4294967296 := by decide
      have hq : (signedV m 4) % 4294967296 = m % 4294967296 := by
        unfold signedV
        rw [e1]
        split <;> omega
      unfold putB
      congr 1
      funext j
      unfold putAt
      rw [hq]
    rw [hx, (textQ_out e1).1, q1]
  · rw [if_neg (by omega), if_neg (by omega), if_neg (by omega), if_neg (by omega), if_pos e] at h ⊢
    obtain ⟨⟨t, L1⟩, e1, h⟩ := bind_some h
    injection h with h; injection h with h h'
    dsimp only at h' h
    subst h'
    rw [← h]
    show strP t = L
    have q1 := (textQ_out e1).1
    rw [List.append_nil] at q1
    exact q1.symm
  · rw [if_neg (by omega), if_neg (by omega), if_neg (by omega), if_neg (by omega), if_neg (by omega)] at h ⊢
    injection h with h; injection h with h h'
    exact h'.symm

theorem known_dec {k : Int} {L : List UInt8} : (decF k L).2 = 0 ∧ checkF (decF k L).1 = 0 ∧ (decF k L).1.kind = k ∧ bodyF (decF k L).1 = L ∨ (decF k L).2 ≠ 0 ∧ (decF k L).1 = foZero 0 := by
  unfold decF
  split
  · exact .inr ⟨by decide, rfl⟩
  split
  · exact .inr ⟨by decide, rfl⟩
  split
  · rename_i f hf
    split
    · rename_i hc
      exact .inl ⟨rfl, hc, (readP_small hf).kind, body_read hf hc⟩
    · exact .inr ⟨by decide, rfl⟩
  · exact .inr ⟨by decide, rfl⟩
theorem dec_enc {f : FoV} (hb : FoB f) (hc : checkF f = 0) : decF f.kind (bodyF f) = (f, 0) := by
  have hk := (check_ok hc).1
  unfold decF
  rw [if_neg (by omega), if_neg (by omega), read_body hb hc]
  dsimp only
  rw [if_pos hc]

end Go.Proofs.YtacnmdlefonjmaaGreat

/-
  Plain laws of sizes: texts, numbers and values as bytes.
-/
namespace Go.Proofs.YtacnmdlefonjmaaGreat
open Go.RowKit
set_option linter.unusedVariables false
set_option linter.unusedSimpArgs false

theorem numsC_len {z : Nat} (l : List Int) : (numsC z l).length = z * l.length := by
  induction l with
  | nil => rfl
  | cons n l ih =>
    have e : numsC z (n :: l) = putB n z z ++ numsC z l := rfl
    rw [e, List.length_append, putB_length, ih, List.length_cons, Nat.mul_succ, Nat.add_comm]
theorem listC_len {z : Nat} (l : List Int) : (listC z l).length = 2 + z * l.length := by
  unfold listC
  rw [List.length_append, putB_length, numsC_len]
theorem cellC_len (c : CeV) : (cellC c).length ≤ 4 + c.bytes.length ∧ 4 ≤ (cellC c).length ∧ (c.null = false → (cellC c).length = 4 + c.bytes.length) := by
  unfold cellC
  split
  · rename_i h
    rw [putB_length]
    exact ⟨by omega, by omega, fun e => by rw [e] at h; cases h⟩
  · rw [List.length_append, putB_length]
    exact ⟨by omega, by omega, fun _ => rfl⟩
theorem cellsC_len (l : List CeV) (B : Nat) (h : ∀ c ∈ l, c.bytes.length ≤ B) : (cellsC l).length ≤ (4 + B) * l.length := by
  induction l with
  | nil => simp [cellsC]
  | cons c l ih =>
    have h1 := ih (fun x hx => h x (by simp [hx]))
    have h2 := h c (by simp)
    have h3 := (cellC_len c).1
    have e : cellsC (c :: l) = cellC c ++ cellsC l := rfl
    rw [e, List.length_append, List.length_cons, Nat.mul_succ]
    omega
/-- Values are no more, and no longer, than their bytes. -/
theorem cellsC_many (l : List CeV) (h : ∀ c ∈ l, rightC c) : 4 * l.length ≤ (cellsC l).length ∧ ∀ c ∈ l, c.bytes.length ≤ (cellsC l).length := by
  induction l with
  | nil => exact ⟨Nat.zero_le _, fun c hc => by cases hc⟩
  | cons c l ih =>
    obtain ⟨h1, h2⟩ := ih (fun x hx => h x (by simp [hx]))
    have h3 := cellC_len c
    have e : cellsC (c :: l) = cellC c ++ cellsC l := rfl
    have hc : c.bytes.length ≤ (cellC c).length := by
      cases hn : c.null with
      | true => rw [(h c (by simp)).1 hn]; exact Nat.zero_le _
      | false => rw [h3.2.2 hn]; omega
    rw [e, List.length_append, List.length_cons]
    refine ⟨by omega, fun x hx => ?_⟩
    rcases List.mem_cons.1 hx with rfl | hx
    · omega
    · have := h2 x hx; omega
theorem strP_len (s : ByteArray) : (strP s).length = s.size + 1 := by
  unfold strP
  rw [List.length_append, size_data]
  rfl

end Go.Proofs.YtacnmdlefonjmaaGreat

/-
  The contract of remudaref01.Put.
-/
namespace Go.Proofs.YtacnmdlefonjmaaGreat
open Go.RowKit

theorem pow_int (i : Int) (w : World) (h0 : 0 ≤ i) (h : i ≤ 7) :
    Calls Tryz.prog 86 #[.int .i64 i] w fun e w' => e = .returned (.int .i64 (256 ^ i.toNat)) ∧ w = w' := by
  obtain ⟨k, rfl⟩ := Int.eq_ofNat_of_zero_le h0
  rw [Int.toNat_natCast]
  exact pow_any k w (by omega)

theorem rightB_bd {n : Int} {z : Nat} (h : rightB n z = true) (hz : z = 1 ∨ z = 2 ∨ z = 4) : -2147483648 ≤ n ∧ n < 4294967296 ∧ 0 ≤ n + 2 ^ (8 * z) := by
  rcases hz with rfl | rfl | rfl <;> simp [rightB, sizedB] at h <;> omega

theorem putAt_div (n n' : Int) (z j : Nat) (hz : z = 1 ∨ z = 2 ∨ z = 4) (hj : j < z) (h : n' = n ∨ n' = n + 2 ^ (8 * z)) :
    ((putAt n z j).toNat : Int) = n' / 256 ^ (z - 1 - j) % 256 := by
  rw [putAt_shr n z j hz hj]
  have : (z = 1 ∧ j = 0) ∨ (z = 2 ∧ j = 0) ∨ (z = 2 ∧ j = 1) ∨ (z = 4 ∧ j = 0) ∨ (z = 4 ∧ j = 1) ∨ (z = 4 ∧ j = 2) ∨ (z = 4 ∧ j = 3) := by omega
  rcases this with ⟨rfl, rfl⟩ | ⟨rfl, rfl⟩ | ⟨rfl, rfl⟩ | ⟨rfl, rfl⟩ | ⟨rfl, rfl⟩ | ⟨rfl, rfl⟩ | ⟨rfl, rfl⟩ <;> simp at * <;> omega

theorem putAt_tmod (n n' : Int) (z j : Nat) (hz : z = 1 ∨ z = 2 ∨ z = 4) (hj : j < z) (h0 : 0 ≤ n') (h : n' = n ∨ n' = n + 2 ^ (8 * z)) :
    ((putAt n z j).toNat : Int) = (n' / 256 ^ (z - 1 - j)).tmod 256 % 256 := by
  have hq : 0 ≤ n' / 256 ^ (z - 1 - j) := Int.ediv_nonneg h0 (by have := pow_bd (z - 1 - j) 7 (by omega) (by omega); omega)
  rw [putAt_div n n' z j hz hj h, Int.tmod_eq_emod_of_nonneg hq]
  omega

set_option maxHeartbeats 1000000 in
theorem putR_any (p : Option Addr) (l : List UInt8) (cap : Nat) (n size : Int) (w : World) (hl : l.length ≤ 1000000000) (hb : BytesIn w p l) :
    Calls Tryz.prog 69 #[.slice p l.length cap, .int .i64 n, .int .i64 size] w fun e w' =>
      ∃ v, e = .returned v ∧ OwnB w.heap.size w' v (putV l n size) ∧ Below w.heap.size w w' := by
  by_cases hr : rightB n size = true
  · have hs : sizedB size = true := by unfold rightB at hr; simp at hr; exact hr.1
    have hsz := sizedB_cases hs
    obtain ⟨z, rfl⟩ := Int.eq_ofNat_of_zero_le (show 0 ≤ size by omega)
    have hz : z = 1 ∨ z = 2 ∨ z = 4 := by omega
    have hV : putV l n z = l ++ putB n z z := by unfold putV; rw [if_pos hr]; rfl
    have hbd := rightB_bd hr hz
    obtain ⟨n', hn'⟩ : ∃ n', n' = if n < 0 then n + 2 ^ (8 * z) else n := ⟨_, rfl⟩
    have h0 : 0 ≤ n' := by rw [hn']; split <;> omega
    have hor : n' = n ∨ n' = n + 2 ^ (8 * z) := by rw [hn']; split <;> simp
    have hn'hi : n' < 9000000000 := by rcases hz with rfl | rfl | rfl <;> simp at hor <;> omega
    have HV := Lib.hid hV
    have Hr := Lib.hid hr
    have Hb := Lib.hid hb
    have hz1 : 1 ≤ z := by omega
    have hz4 : z ≤ 4 := by omega
    have Hz := Lib.hid hz
    have Hor := Lib.hid hor
    have Hn' := Lib.hid hn'
    have Hsz := Lib.hid hsz
    have hpb : 2 ^ (8 * z) ≤ (4294967296 : Int) := by rcases hz with rfl | rfl | rfl <;> decide
    have hpb0 : (0 : Int) ≤ 2 ^ (8 * z) := by rcases hz with rfl | rfl | rfl <;> decide
    clear hb hr hs hsz hV hz hor hn'
    by_cases hneg : n < 0
    all_goals
      have hn2 : n' = if n < 0 then n + 2 ^ (8 * z) else n := Hn'.out
      simp only [hneg, if_true, if_false] at hn2
      have Hn2 := Lib.hid hn2
      clear hn2
      go_enter Tryz.func69, Tryz.ntmps69
      go_wp2_with (first | (at_builtin; refine step_appendB _ rfl _ _ rfl w.heap.size _ [] rfl (OwnB.none _ _) _ l _ rfl Hb.out (by simp; omega) (by simp) ?_; intro v1 w1 hown1 hb1 _) | (go_at_call 85; refine (rightR_any _ _ _).mono ?_; rintro e w' ⟨rfl, rfl⟩; rw [Hr.out]) | (go_at_call 86; refine (pow_size _ _ Hsz.out).mono ?_; rintro e w' ⟨rfl, rfl⟩; rw [Int.toNat_natCast]))
      try rw [← Hn2.out]
      go_loopw [7, 8] (fun v s wr => ∃ j : Nat, j ≤ z ∧ s = .int .i64 ((z : Int) - 1 - j) ∧ OwnB w.heap.size wr v (l ++ putB n z j) ∧ Below w.heap.size w wr) (fun _ s _ => (intOf s + 1).toNat)
      case atStart => exact ⟨0, Nat.zero_le _, by congr 1; omega, by simpa [putB] using hown1, hb1⟩
      case round =>
        obtain ⟨j, hj, rfl, hown, hbw⟩ := hrel
        have Hown := Lib.hid hown
        have Hbw := Lib.hid hbw
        have hbsz := hbw.size
        clear hown hbw hb1 hown1
        by_cases hlt : j < z
        · have e7 : ((z : Int) - 1 - j).toNat = z - 1 - j := by omega
          have E7 := Lib.hid e7
          have hp7 := pow_bd (z - 1 - j) 7 (by omega) (by omega)
          clear e7
          go_wp2_with (first | (go_at_call 86; refine (pow_int _ _ (by omega) (by omega)).mono ?_; rintro e w' ⟨rfl, rfl⟩; rw [E7.out]) | (at_builtin; refine step_appendB _ rfl _ _ rfl w.heap.size _ _ rfl (Hown.out.alloc _) _ [putAt n z j] 1 rfl (BytesIn.new1 _ _ _ _ (putAt_tmod n n' z j Hz.out hlt h0 Hor.out)) (by simp [putB_length]; omega) (by simp; omega) ?_; intro v2 w2 hown2 hb2 _))
          have hbel2 := (Hbw.out.alloc hbsz _).trans hb2
          rw [List.append_assoc, ← putB_succ] at hown2
          go_roundw
          case rel => exact ⟨j + 1, by omega, by congr 1; omega, hown2, hbel2⟩
          case measure => simp [intOf]; omega
        · go_wp2
          go_ret
          obtain rfl : j = z := by omega
          refine ⟨_, rfl, ?_, Hbw.out⟩
          rw [HV.out]; exact Hown.out
  · have hV : putV l n size = l := by unfold putV; rw [if_neg hr]; simp
    have hr' : rightB n size = false := by simpa using hr
    have HV := Lib.hid hV
    have Hr := Lib.hid hr'
    have Hb := Lib.hid hb
    clear hb hr hr' hV
    go_enter Tryz.func69, Tryz.ntmps69
    go_wp2_with (first | (at_builtin; refine step_appendB _ rfl _ _ rfl w.heap.size _ [] rfl (OwnB.none _ _) _ l _ rfl Hb.out (by simp; omega) (by simp) ?_; intro v1 w1 hown1 hb1 _) | (go_at_call 85; refine (rightR_any _ _ _).mono ?_; rintro e w' ⟨rfl, rfl⟩; rw [Hr.out]))
    go_ret
    refine ⟨_, rfl, ?_, hb1⟩
    rw [HV.out]; simpa using hown1

end Go.Proofs.YtacnmdlefonjmaaGreat

/-
  Messages of clients (layer 6): the document's Str, List and Put.
-/
namespace Go.Proofs.YtacnmdlefonjmaaGreat
open Go.RowKit
set_option linter.unusedVariables false
set_option linter.unusedSimpArgs false

/-- Bytes with the first numbers of a list behind them. -/
def listP (b : List UInt8) (l : List Int) (size : Nat) (k : Nat) : List UInt8 := (l.take k).foldl (fun b n => putV b n size) (putV b l.length 2)
theorem listP_succ {b : List UInt8} {l : List Int} {size k : Nat} (hk : k < l.length) : listP b l size (k + 1) = putV (listP b l size k) l[k] size := by
  unfold listP
  rw [List.take_succ_eq_append_getElem hk, List.foldl_append]
  rfl
theorem listP_all (b : List UInt8) (l : List Int) (size : Nat) : listP b l size l.length = listB b l size := by
  unfold listP listB
  rw [List.take_length]
theorem listP_len (b : List UInt8) (l : List Int) (size : Nat) : ∀ k, k ≤ l.length → (listP b l size k).length ≤ b.length + 4 + 4 * k
  | 0, _ => by
    have := putV_len4 b l.length 2
    unfold listP
    simp
    omega
  | k + 1, hk => by
    have ih := listP_len b l size k (by omega)
    rw [listP_succ (by omega)]
    have := putV_len4 (listP b l size k) l[k] size
    omega
/-- Bytes with the first values of a row behind them. -/
def rowP (b : List UInt8) (l : List CeV) (k : Nat) : List UInt8 := (l.take k).foldl cellB (putV b l.length 2)
theorem rowP_succ {b : List UInt8} {l : List CeV} {k : Nat} (hk : k < l.length) : rowP b l (k + 1) = cellB (rowP b l k) l[k] := by
  unfold rowP
  rw [List.take_succ_eq_append_getElem hk, List.foldl_append]
  rfl
theorem rowP_all (b : List UInt8) (l : List CeV) : rowP b l l.length = rowB b l := by
  unfold rowP rowB
  rw [List.take_length]
theorem cellB_len (b : List UInt8) (c : CeV) : (cellB b c).length ≤ b.length + 4 + c.bytes.length := by
  unfold cellB
  split
  · have := putV_len4 b 4294967295 4
    omega
  · have := putV_len4 b c.bytes.length 4
    rw [List.length_append]
    omega
theorem rowP_len (b : List UInt8) (l : List CeV) (m : Nat) (hm : ∀ c ∈ l, c.bytes.length ≤ m) : ∀ k, k ≤ l.length → (rowP b l k).length ≤ b.length + 4 + (m + 4) * k
  | 0, _ => by
    have := putV_len4 b l.length 2
    unfold rowP
    simp
    omega
  | k + 1, hk => by
    have ih := rowP_len b l m hm k (by omega)
    rw [rowP_succ (by omega)]
    have := cellB_len (rowP b l k) l[k]
    have := hm l[k] (List.getElem_mem _)
    rw [Nat.mul_add]
    omega
theorem strB_len (b : List UInt8) (s : ByteArray) : (strB b s).length = b.length + s.size + 1 := by
  unfold strB
  rw [List.length_append, List.length_append, size_data]
  rfl

theorem putV_null (b : List UInt8) : putV b (-1) 4 = putV b 4294967295 4 := by
  unfold putV
  rw [if_pos (by decide), if_pos (by decide)]
  congr 1

theorem bel_drewN1 (w : World) : Below w.heap.size w (w.drewN 1) := ((Touch.refl (fun _ => False) w).drewN 1).below (Nat.le_refl _) (fun _ e => e.elim)

theorem rstr_any (B : Nat) (v : Value) (l : List UInt8) (s : ByteArray) (w : World) (h : OwnBR B w v l) (hB : B ≤ w.heap.size) (hl : l.length ≤ 1000000) (hs : s.size ≤ 1000000) :
    Calls Tryz.prog 67 #[v, .string s] w fun e w' => ∃ v', e = .returned v' ∧ OwnBR B w' v' (strB l s) ∧ Below B w w' := by
  have H := Lib.hid h
  have hsd : s.data.toList.length ≤ 1000000 := by rw [← size_data]; exact hs
  have hr2 : (l ++ s.data.toList).length + 1 ≤ 3000000 := by rw [List.length_append]; omega
  clear h hs
  go_enter Tryz.func67, Tryz.ntmps67
  go_wp2_with (first
    | (at_builtin; refine step_appendStr _ rfl (.tmp 5) (.tmp 6) rfl B v l rfl H.out s rfl (by omega) hB ?_; intro v5 w5 ho5 hg5 hn5; have Ho5 := Lib.hid ho5; have hz5 := hg5.size; have HB5 : Hid (Below B w w5) := Lib.hid (Below.of_row hg5 hB (fun k hk => (H.out.row k hk).1)); clear ho5 hg5 hn5)
    | (at_builtin; refine step_appendBR _ rfl (.tmp 7) (.tmp 8) rfl B v5 _ rfl (Ho5.out.alloc _) (some ⟨w5.heap.size, 0, none⟩) [0] 1 1 rfl rfl (BytesIn.new1 w5 0 0 _ rfl) (by rw [List.length_singleton]; omega) (by rw [World.size_alloc]; omega) ?_; intro v6 w6 ho6 hg6 hn6; have Ho6 := Lib.hid ho6; have HB6 : Hid (Below B w w6) := Lib.hid ((HB5.out.alloc (by omega) _).trans (Below.of_row hg6 (by rw [World.size_alloc]; omega) (fun k hk => (Ho5.out.row k hk).1))); clear ho6 hg6 hn6))
  go_ret
  exact ⟨_, rfl, Ho6.out, HB6.out⟩

set_option maxRecDepth 100000 in
set_option maxHeartbeats 4000000 in
theorem rlist_any (S : Nat → Prop) (p : Option Addr) (l : List UInt8) (cap : Nat) (q : Option Addr) (n c : Nat) (xs : List Int) (z : Int) (zn : Nat) (hz : (zn : Int) = z) (w : World) (hin : BytesIn w p l) (hx : SliceS 1 IntU S w [.slice q n c] xs) (hl : l.length ≤ 100000000) (hxl : xs.length ≤ 1000000) :
    Calls Tryz.prog 66 #[.slice p l.length cap, .slice q n c, .int .i64 z] w fun e w' => ∃ v', e = .returned v' ∧ OwnBR w.heap.size w' v' (listB l xs zn) ∧ Below w.heap.size w w' := by
  subst hz
  obtain ⟨rfl, hlc, hcm⟩ := hx.len
  unfold maxLen at hcm
  have Hx := Lib.hid hx
  have Hp := Lib.hid (putR_any p l cap (xs.length : Int) 2 w (by omega) hin)
  have Hall := Lib.hid (listP_all l xs zn)
  have Hlen := Lib.hid (fun k hk => listP_len l xs zn k hk)
  clear hx hin
  go_enter Tryz.func66, Tryz.ntmps66
  go_wp2_with fail
  refine Hp.out.mono ?_
  rintro e w1 ⟨v1, rfl, ho1, hb1⟩
  have Ho1 : Hid (OwnBR w.heap.size w1 v1 (listP l xs zn 0)) := Lib.hid (OwnBR.of ho1)
  have HB1 := Lib.hid hb1
  clear ho1 hb1 Hp
  go_wp2_with fail
  go_loopw [0, 7] (fun v i wr => ∃ k : Nat, k ≤ xs.length ∧ i = .int .i64 k ∧ OwnBR w.heap.size wr v (listP l xs zn k) ∧ Below w.heap.size w wr) (fun _ i _ => xs.length - (intOf i).toNat)
  case atStart => exact ⟨0, Nat.zero_le _, rfl, Ho1.out, HB1.out⟩
  case round =>
    obtain ⟨k, hk, rfl, ho, hb⟩ := hrel
    have hsz := hb.size
    have Hb := Lib.hid hb
    have Ho := Lib.hid ho
    by_cases hlt : k < xs.length
    · obtain ⟨b, o, rfl, hS, hbl, c0⟩ := int_at (Hx.out.below IntU.still hb) hlt
      have hlk := Hlen.out k hk
      have Hstep := Lib.hid (listP_succ (b := l) (size := zn) hlt)
      obtain ⟨p2, c2, hv2, k2, m2, q2, -⟩ := ho.slice
      subst hv2
      have Hp2 := Lib.hid (putR_any p2 (listP l xs zn k) c2 xs[k] (zn : Int) wr (by omega) q2)
      clear ho hb hS q2
      rw [← Hstep.out] at Hp2
      generalize xs[k] = x at *
      generalize (listP l xs zn k).length = nl at *
      have hlti : (k : Int) < (xs.length : Int) := by omega
      go_wp2_with fail
      refine Hp2.out.mono ?_
      rintro e w2 ⟨v3, rfl, ho3, hb3⟩
      have Ho3 : Hid (OwnBR w.heap.size w2 v3 (listP l xs zn (k + 1))) := Lib.hid (OwnR.base (OwnBR.of ho3) hsz)
      have HB3 := Lib.hid (Hb.out.trans (hb3.mono hsz))
      clear ho3 hb3 Hp2
      go_wp2_with fail
      go_roundw
      case rel => exact ⟨k + 1, by omega, by go_num, Ho3.out, HB3.out⟩
      case measure => simp [intOf]; omega
    · obtain rfl : k = xs.length := by omega
      rw [Hall.out] at ho
      have Hoe := Lib.hid ho
      clear ho hb Ho
      go_wp2_with fail
      go_ret
      exact ⟨_, rfl, Hoe.out, Hb.out⟩

set_option maxRecDepth 100000 in
set_option maxHeartbeats 4000000 in
theorem rrow_any (S : Nat → Prop) (p : Option Addr) (l : List UInt8) (cap : Nat) (q : Option Addr) (n c : Nat) (xs : List CeV) (w : World) (hin : BytesIn w p l) (hx : SliceS 2 CeS S w [.slice q n c] xs) (hl : l.length ≤ 1000000) (hxl : xs.length ≤ 10000) (hm : ∀ c ∈ xs, c.bytes.length ≤ 10000) :
    Calls Tryz.prog 68 #[.slice p l.length cap, .slice q n c] w fun e w' => ∃ v', e = .returned v' ∧ OwnBR w.heap.size w' v' (rowB l xs) ∧ Below w.heap.size w w' := by
  obtain ⟨rfl, hlc, hcm⟩ := hx.len
  unfold maxLen at hcm
  have Hx := Lib.hid hx
  have Hp := Lib.hid (putR_any p l cap (xs.length : Int) 2 w (by omega) hin)
  have Hall := Lib.hid (rowP_all l xs)
  have Hlen := Lib.hid (fun k hk => rowP_len l xs 10000 hm k hk)
  have Hm := Lib.hid hm
  clear hx hin hm
  go_enter Tryz.func68, Tryz.ntmps68
  go_wp2_with fail
  refine Hp.out.mono ?_
  rintro e w1 ⟨v1, rfl, ho1, hb1⟩
  have Ho1 : Hid (OwnBR w.heap.size w1 v1 (rowP l xs 0)) := Lib.hid (OwnBR.of ho1)
  have HB1 := Lib.hid hb1
  clear ho1 hb1 Hp
  go_wp2_with fail
  go_loopw [0, 5] (fun v i wr => ∃ k : Nat, k ≤ xs.length ∧ i = .int .i64 k ∧ OwnBR w.heap.size wr v (rowP l xs k) ∧ Below w.heap.size w wr) (fun _ i _ => xs.length - (intOf i).toNat)
  case atStart => exact ⟨0, Nat.zero_le _, rfl, Ho1.out, HB1.out⟩
  case round =>
    obtain ⟨k, hk, rfl, ho, hb⟩ := hrel
    have hsz := hb.size
    have Hb := Lib.hid hb
    have Ho := Lib.hid ho
    by_cases hlt : k < xs.length
    · obtain ⟨b, o, qx, dx, rfl, hS, hbl, c0, c1, hqx⟩ := ce_at (Hx.out.below CeS.still hb) hlt
      have hlk := Hlen.out k hk
      have hbk := Hm.out xs[k] (List.getElem_mem hlt)
      have Hstep := Lib.hid (rowP_succ (b := l) hlt)
      have Hcb : Hid (∀ b0, cellB b0 xs[k] = if xs[k].null then putV b0 4294967295 4 else putV b0 xs[k].bytes.length 4 ++ xs[k].bytes) := Lib.hid (fun _ => rfl)
      have Hqx := Lib.hid hqx.parts.2.2.2
      obtain ⟨p2, c2, hv2, k2, m2, q2, -⟩ := ho.slice
      subst hv2
      have Hq2 := Lib.hid q2
      have hl9 : (rowP l xs k).length ≤ 200000000 := by
        have : 10004 * k ≤ 10004 * 10000 := Nat.mul_le_mul (Nat.le_refl _) (by omega)
        omega
      clear ho hb hS hqx q2
      generalize xs[k] = x at *
      obtain ⟨xn, xb⟩ := x
      dsimp only at *
      have hlti : (k : Int) < (xs.length : Int) := by omega
      cases xn with
      | true =>
        have Hp2 := Lib.hid (putR_any p2 (rowP l xs k) c2 (-1) 4 wr (by omega) Hq2.out)
        rw [putV_null] at Hp2
        generalize (rowP l xs k).length = nl at *
        go_wp2_with fail
        refine Hp2.out.mono ?_
        rintro e w2 ⟨v3, rfl, ho3, hb3⟩
        have Ho3 : Hid (OwnBR w.heap.size w2 v3 (rowP l xs (k + 1))) := Lib.hid (by rw [Hstep.out, Hcb.out]; exact OwnR.base (OwnBR.of ho3) hsz)
        have HB3 := Lib.hid (Hb.out.trans (hb3.mono hsz))
        clear ho3 hb3 Hp2
        go_wp2_with fail
        go_roundw
        case rel => exact ⟨k + 1, by omega, by go_num, Ho3.out, HB3.out⟩
        case measure => simp [intOf]; omega
      | false =>
        have hpl4 := putV_len4 (rowP l xs k) (xb.length : Int) 4
        have Hp2 := Lib.hid (putR_any p2 (rowP l xs k) c2 (xb.length : Int) 4 (wr.drewN 1) (by omega) (Hq2.out.drewN 1))
        have Hqd := Lib.hid (Hqx.out.drewN 1)
        have Hnx : Hid (rowP l xs (k + 1) = putV (rowP l xs k) (xb.length : Int) 4 ++ xb) := Lib.hid (by rw [Hstep.out, Hcb.out]; rfl)
        generalize putV (rowP l xs k) (xb.length : Int) 4 = Q at *
        generalize (rowP l xs k).length = nl at *
        have hS0 : wr.cell? ⟨b, o + k * 2 + 1, none⟩ = some (.slice qx xb.length dx) := c1
        go_upto_region 7 with fail
        go_region_held3 (fun w' => w'.cell? ⟨b, o + k * 2 + 1, none⟩ = some (.slice qx xb.length dx))
          (first | exact hS0 | exact hS3 | exact hS4 | go_keep)
          (first
            | (go_at_call 69; refine Hp2.out.mono ?_; rintro e w3 ⟨v3, rfl, ho3, hb3⟩; have Ho3 : Hid (OwnBR wr.heap.size w3 v3 Q) := Lib.hid (OwnBR.of ho3); have hb3' : Below wr.heap.size wr w3 := (bel_drewN1 wr).trans hb3; have HB3 := Lib.hid hb3'; have Hq3 := Lib.hid (Hqx.out.below hb3'); have hS3 : w3.cell? ⟨b, o + k * 2 + 1, none⟩ = some (.slice qx xb.length dx) := (hb3'.cell (p := ⟨b, o + k * 2 + 1, none⟩) hbl).trans hS0; have hz3 : wr.heap.size ≤ w3.heap.size := hb3'.size; clear ho3 hb3 hb3')
            | (refine rgn_appendBR rfl (.tmp 30) (.tmp 35) rfl wr.heap.size _ _ rfl Ho3.out _ xb _ _ rfl rfl Hq3.out (by omega) hz3 ?_; intro v4 w4 ho4 hg4 _; have Ho4 := Lib.hid ho4; have hb4 : Below wr.heap.size wr w4 := HB3.out.trans (Below.of_row hg4 hz3 (fun k hk => (Ho3.out.row k hk).1)); have HB4 := Lib.hid hb4; have hS4 : w4.cell? ⟨b, o + k * 2 + 1, none⟩ = some (.slice qx xb.length dx) := (hb4.cell (p := ⟨b, o + k * 2 + 1, none⟩) hbl).trans hS0; clear ho4 hg4 hb4))
        clear hS0 hS3 hS4
        have Ho5 : Hid (OwnBR w.heap.size w4 v4 (rowP l xs (k + 1))) := Lib.hid (by rw [Hnx.out]; exact OwnR.base Ho4.out hsz)
        have HB5 := Lib.hid (Hb.out.trans (HB4.out.mono hsz))
        go_wp2_with fail
        go_roundw
        case rel => exact ⟨k + 1, by omega, by go_num, Ho5.out, HB5.out⟩
        case measure => simp [intOf]; omega
    · obtain rfl : k = xs.length := by omega
      rw [Hall.out] at ho
      have Hoe := Lib.hid ho
      clear ho hb Ho
      go_wp2_with fail
      go_ret
      exact ⟨_, rfl, Hoe.out, Hb.out⟩

end Go.Proofs.YtacnmdlefonjmaaGreat

/-
  Messages of clients (layer 6): the program's writer: text, list, row.
-/
namespace Go.Proofs.YtacnmdlefonjmaaGreat
open Go.RowKit
set_option linter.unusedVariables false
set_option linter.unusedSimpArgs false

/-- A call of a Go function as a step of a region that draws its order. -/
theorem rgn_callF {ops : Array Oper} {o : Oper} {a : Act} {w : World} {K : Act → World → Prop} {Q : Exit → Act → World → Prop} {F : Prop} (hgd : o.guard = none) (f : FuncId) (vs : Array Value) (R : Ending → World → Prop) (hC : Calls Tryz.prog f vs w R)
    (hr : (execOp a.eval o).run Tryz.prog w = .ok (.enter f vs) w) (h : ∀ e w', R e w' → ∃ v, e = .returned v ∧ K (a.put o.dst v) w') :
    if Region.wanted o (yielded ops a.tmps) = true then Oper.wp Tryz.prog o a w K Q else F := by
  have hw : Region.wanted o (yielded ops a.tmps) = true := by simp [Region.wanted, hgd]
  rw [if_pos hw]
  unfold Oper.wp
  rw [hr, Oper.upon_enter]
  refine hC.mono ?_
  intro e w' hR
  obtain ⟨v, rfl, hK⟩ := h e w' hR
  exact hK
theorem bel_drew (w : World) : Below w.heap.size w w.drew := ((Touch.refl (fun _ => False) w).drew).below (Nat.le_refl _) (fun _ e => e.elim)

/-- What a writer's step turns. -/
def wrT (wb : Nat) (v : Value) (k : Nat) : Prop := k = wb ∨ rowOf v = some k
/-- Where the row lies behind it. -/
def wrN (w : World) (v v' : Value) : Prop := ∀ k, rowOf v' = some k → rowOf v = some k ∨ w.heap.size ≤ k
section
variable {B : Nat} {w w' : World} {wb : Nat} {v v' : Value} {l l' : List UInt8}
end

/-- Bytes with the first texts behind them. -/
def textP (b : List UInt8) (ss : List ByteArray) (k : Nat) : List UInt8 := (ss.take k).foldl strB b
theorem textP_succ {b : List UInt8} {ss : List ByteArray} {k : Nat} (hk : k < ss.length) : textP b ss (k + 1) = strB (textP b ss k) ss[k] := by
  unfold textP
  rw [List.take_succ_eq_append_getElem hk, List.foldl_append]
  rfl
theorem textP_all (b : List UInt8) (ss : List ByteArray) : textP b ss ss.length = ss.foldl strB b := by
  unfold textP
  rw [List.take_length]
theorem textP_len (b : List UInt8) (ss : List ByteArray) (m : Nat) (hm : ∀ s ∈ ss, s.size ≤ m) : ∀ k, k ≤ ss.length → (textP b ss k).length ≤ b.length + (m + 1) * k
  | 0, _ => by simp [textP]
  | k + 1, hk => by
    have ih := textP_len b ss m hm k (by omega)
    rw [textP_succ (by omega), strB_len]
    have := hm ss[k] (List.getElem_mem _)
    rw [Nat.mul_add]
    omega

end Go.Proofs.YtacnmdlefonjmaaGreat

/-
  Messages of clients (layer 6): the program's writer: list, row.
-/
namespace Go.Proofs.YtacnmdlefonjmaaGreat
open Go.RowKit
set_option linter.unusedVariables false
set_option linter.unusedSimpArgs false

theorem wrN_fresh {w0 w : World} {v u : Value} (h : ∀ k, rowOf u = some k → w.heap.size ≤ k) (hs : w0.heap.size ≤ w.heap.size) : wrN w0 v u := fun k e => .inr (by have := h k e; omega)

end Go.Proofs.YtacnmdlefonjmaaGreat

