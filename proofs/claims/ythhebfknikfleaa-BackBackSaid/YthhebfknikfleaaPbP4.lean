/-
  Ground: Wire, FpL, BbA.
-/
import Derived.Test.YthhebfknikfleaaPbP3
import Derived.Test.YthhebfknikfleaaPbP2
/-
  Plain laws of pieces: numbers, texts, lists and values; what was put is read, what is read has just these bytes.
-/
namespace Go.Proofs.Ythhebfknikfleaa
open Go.RowKit
set_option linter.unusedVariables false
set_option linter.unusedSimpArgs false

theorem indexByte_app : ∀ (A R : List UInt8), (0 : UInt8) ∉ A → Lib.indexByte (A ++ 0 :: R) 0 = (A.length : Int)
  | [], R, _ => by simp [Lib.indexByte]
  | a :: A, R, h => by
    simp only [List.mem_cons, not_or] at h
    have ih := indexByte_app A R h.2
    have ha : (a == 0) = false := by simpa using fun e => h.1 e.symm
    rw [List.cons_append, Lib.indexByte, ha, ih]
    first | (simp; done) | (simp; omega)
theorem indexByte_split : ∀ T : List UInt8, Lib.indexByte T 0 = -1 ∨ ∃ A R, T = A ++ 0 :: R ∧ (0 : UInt8) ∉ A
  | [] => .inl rfl
  | a :: T => by
    by_cases ha : a = 0
    · subst ha
      exact .inr ⟨[], T, rfl, by simp⟩
    · have ha' : (a == 0) = false := by simpa using ha
      rcases indexByte_split T with h | ⟨A, R, rfl, h⟩
      · left
        rw [Lib.indexByte, ha', h]
        rfl
      · exact .inr ⟨a :: A, R, rfl, by simp only [List.mem_cons, not_or]; exact ⟨fun e => ha e.symm, h⟩⟩

theorem strOf_data (s : ByteArray) : strOf s.data.toList = s := by simp [strOf]
theorem data_strOf (l : List UInt8) : (strOf l).data.toList = l := by simp [strOf]
theorem strOf_nil {l : List UInt8} (h : strOf l = ⟨#[]⟩) : l = [] := by
  have := congrArg (fun s => s.data.toList) h
  simpa [data_strOf] using this

theorem text_app (A R : List UInt8) (h : (0 : UInt8) ∉ A) : textOk (A ++ 0 :: R) false = true ∧ textV (A ++ 0 :: R) false = strOf A ∧ (A ++ 0 :: R).drop ((Lib.indexByte (A ++ 0 :: R) 0).toNat + 1) = R := by
  have hi := indexByte_app A R h
  have hok : textOk (A ++ 0 :: R) false = true := by
    unfold textOk
    rw [hi]
    first | (simp; done) | (simp; omega)
  refine ⟨hok, ?_, ?_⟩
  · unfold textV
    rw [hok, hi]
    simp
  · rw [hi]
    simp
theorem text_split {T : List UInt8} (h : textOk T false = true) : ∃ A R, T = A ++ 0 :: R ∧ (0 : UInt8) ∉ A := by
  rcases indexByte_split T with e | e
  · unfold textOk at h
    rw [e] at h
    simp at h
  · exact e

theorem clean_mem {s : ByteArray} (h : cleanB s = true) : (0 : UInt8) ∉ s.data.toList := by
  unfold cleanB at h
  simpa using h
theorem bindQ_some {α β : Type} {o : Option α} {f : α → Option β} {y : β} (h : o.bind f = some y) : ∃ a, o = some a ∧ f a = some y := by
  cases o with
  | none => cases h
  | some a => exact ⟨a, rfl, h⟩

/-- The bytes of a number of so many bytes. -/
theorem putB_be : ∀ {l : List UInt8} {z : Nat}, (z = 1 ∨ z = 2 ∨ z = 4) → l.length = z → putB (be l) z z = l := by
  intro l z hz hl
  rcases hz with rfl | rfl | rfl
  · match l, hl with
    | [a], _ =>
      have h0 := putAt_shr (be [a]) 1 0 (by omega) (by omega)
      have ha := a.toNat_lt
      have e0 : putAt (be [a]) 1 0 = a := UInt8.toNat_inj.1 (by simp [be] at h0 ⊢; omega)
      simp only [putB, List.range_succ, List.range_zero, List.nil_append, List.map_append, List.map_cons, List.map_nil, List.cons_append, e0]
  · match l, hl with
    | [a, b], _ =>
      have h0 := putAt_shr (be [a, b]) 2 0 (by omega) (by omega)
      have h1 := putAt_shr (be [a, b]) 2 1 (by omega) (by omega)
      have ha := a.toNat_lt
      have hb := b.toNat_lt
      have e0 : putAt (be [a, b]) 2 0 = a := UInt8.toNat_inj.1 (by simp [be] at h0 ⊢; omega)
      have e1 : putAt (be [a, b]) 2 1 = b := UInt8.toNat_inj.1 (by simp [be] at h1 ⊢; omega)
      simp only [putB, List.range_succ, List.range_zero, List.nil_append, List.map_append, List.map_cons, List.map_nil, List.cons_append, e0, e1]
  · match l, hl with
    | [a, b, c, d], _ =>
      have h0 := putAt_shr (be [a, b, c, d]) 4 0 (by omega) (by omega)
      have h1 := putAt_shr (be [a, b, c, d]) 4 1 (by omega) (by omega)
      have h2 := putAt_shr (be [a, b, c, d]) 4 2 (by omega) (by omega)
      have h3 := putAt_shr (be [a, b, c, d]) 4 3 (by omega) (by omega)
      have ha := a.toNat_lt
      have hb := b.toNat_lt
      have hc := c.toNat_lt
      have hd := d.toNat_lt
      have e0 : putAt (be [a, b, c, d]) 4 0 = a := UInt8.toNat_inj.1 (by simp [be] at h0 ⊢; omega)
      have e1 : putAt (be [a, b, c, d]) 4 1 = b := UInt8.toNat_inj.1 (by simp [be] at h1 ⊢; omega)
      have e2 : putAt (be [a, b, c, d]) 4 2 = c := UInt8.toNat_inj.1 (by simp [be] at h2 ⊢; omega)
      have e3 : putAt (be [a, b, c, d]) 4 3 = d := UInt8.toNat_inj.1 (by simp [be] at h3 ⊢; omega)
      simp only [putB, List.range_succ, List.range_zero, List.nil_append, List.map_append, List.map_cons, List.map_nil, List.cons_append, e0, e1, e2, e3]

/-- A size that numbers have. -/
def Sz (z : Nat) : Prop := z = 1 ∨ z = 2 ∨ z = 4
theorem Sz.sized {z : Nat} (h : Sz z) : sizedB (z : Int) = true := by rcases h with rfl | rfl | rfl <;> decide
theorem numP_put {z : Nat} (hz : Sz z) (n : Int) (R : List UInt8) : numP z (putB n z z ++ R) = some (n % 2 ^ (8 * z), R) := by
  have hl := putB_length n z z
  have hok : numOk (putB n z z ++ R) false z = true := by
    unfold numOk
    rw [hz.sized]
    simp [hl]
    omega
  have hv : numV (putB n z z ++ R) false z = n % 2 ^ (8 * z) := by
    unfold numV
    rw [if_pos hok, Int.toNat_natCast, List.take_append_of_le_length (by omega), List.take_of_length_le (by omega)]
    exact be_putB' n z hz
  unfold numP
  rw [if_pos hok, hv, List.drop_append_of_le_length (by omega), List.drop_of_length_le (by omega), List.nil_append]
theorem numP_in {z : Nat} (hz : Sz z) {n : Int} (h0 : 0 ≤ n) (h1 : n < 2 ^ (8 * z)) (R : List UInt8) : numP z (putB n z z ++ R) = some (n, R) := by
  rw [numP_put hz, Int.emod_eq_of_lt h0 h1]
theorem numP_out {z : Nat} (hz : Sz z) {L R : List UInt8} {n : Int} (h : numP z L = some (n, R)) : L = putB n z z ++ R ∧ 0 ≤ n ∧ n < 2 ^ (8 * z) := by
  unfold numP at h
  split at h
  · rename_i hok
    injection h with h
    injection h with h1 h2
    have hl : z ≤ L.length := by
      unfold numOk at hok
      simp only [Bool.and_eq_true, decide_eq_true_eq] at hok
      omega
    have hA : (L.take z).length = z := by rw [List.length_take]; omega
    have hv : numV L false z = be (L.take z) := by unfold numV; rw [if_pos hok, Int.toNat_natCast]
    have hb := be_bd (L.take z)
    rw [hA] at hb
    have hp : (256 : Int) ^ z = 2 ^ (8 * z) := by rcases hz with rfl | rfl | rfl <;> rfl
    rw [hp, ← hv, h1] at hb
    refine ⟨?_, hb.1, hb.2⟩
    rw [← h1, hv, putB_be hz hA, ← h2, List.take_append_drop]
  · cases h

/-- A text with its end. -/
def strP (s : ByteArray) : List UInt8 := s.data.toList ++ [0]
theorem strB_p (b : List UInt8) (s : ByteArray) : strB b s = b ++ strP s := by unfold strB strP; rw [List.append_assoc]
theorem textQ_in {s : ByteArray} (h : cleanB s = true) (R : List UInt8) : textQ (strP s ++ R) = some (s, R) := by
  obtain ⟨h1, h2, h3⟩ := text_app s.data.toList R (clean_mem h)
  have e : strP s ++ R = s.data.toList ++ 0 :: R := by unfold strP; rw [List.append_assoc]; rfl
  rw [e]
  unfold textQ
  rw [if_pos h1, h2, h3, strOf_data]
theorem textQ_out {L R : List UInt8} {s : ByteArray} (h : textQ L = some (s, R)) : L = strP s ++ R ∧ cleanB s = true := by
  unfold textQ at h
  split at h
  · rename_i hok
    injection h with h
    injection h with h1 h2
    obtain ⟨A, T, rfl, hA⟩ := text_split hok
    obtain ⟨t1, t2, t3⟩ := text_app A T hA
    rw [t2] at h1
    rw [t3] at h2
    subst h1 h2
    refine ⟨?_, ?_⟩
    · unfold strP
      rw [data_strOf, List.append_assoc]
      rfl
    · unfold cleanB
      rw [data_strOf]
      simpa using hA
  · cases h

/-- Numbers one behind the other. -/
def numsC (z : Nat) (l : List Int) : List UInt8 := l.flatMap fun n => putB n z z
theorem numsP_in {z : Nat} (hz : Sz z) : ∀ (l : List Int) (R : List UInt8), (∀ n ∈ l, 0 ≤ n ∧ n < 2 ^ (8 * z)) → numsP z l.length (numsC z l ++ R) = some (l, R)
  | [], R, _ => rfl
  | n :: l, R, h => by
    have hn := h n (by simp)
    have e : numsC z (n :: l) ++ R = putB n z z ++ (numsC z l ++ R) := by simp [numsC]
    rw [e, List.length_cons, numsP, numP_in hz hn.1 hn.2]
    show (numsP z l.length (numsC z l ++ R)).bind _ = _
    rw [numsP_in hz l R (fun m hm => h m (by simp [hm]))]
    rfl
theorem numsP_out {z : Nat} (hz : Sz z) : ∀ (n : Nat) (L R : List UInt8) (l : List Int), numsP z n L = some (l, R) → L = numsC z l ++ R ∧ l.length = n ∧ ∀ m ∈ l, 0 ≤ m ∧ m < 2 ^ (8 * z)
  | 0, L, R, l, h => by
    injection h with h
    injection h with h1 h2
    subst h1 h2
    exact ⟨rfl, rfl, fun m hm => by cases hm⟩
  | n + 1, L, R, l, h => by
    obtain ⟨⟨a, L1⟩, e1, h⟩ := bindQ_some h
    obtain ⟨⟨b, L2⟩, e2, h⟩ := bindQ_some h
    injection h with h
    injection h with h1 h2
    obtain ⟨q1, q2, q3⟩ := numP_out hz e1
    obtain ⟨k1, k2, k3⟩ := numsP_out hz n _ _ _ e2
    dsimp only at h1 h2 k1
    subst h1 h2
    refine ⟨?_, by rw [List.length_cons, k2], fun m hm => ?_⟩
    · rw [q1, k1]
      simp [numsC]
    · rcases List.mem_cons.1 hm with rfl | hm
      · exact ⟨q2, q3⟩
      · exact k3 m hm
/-- A list with its size ahead. -/
def listC (z : Nat) (l : List Int) : List UInt8 := putB l.length 2 2 ++ numsC z l
theorem listQ_in {z : Nat} (hz : Sz z) (l : List Int) (R : List UInt8) (hl : l.length ≤ 65535) (h : ∀ n ∈ l, 0 ≤ n ∧ n < 2 ^ (8 * z)) : listQ z (listC z l ++ R) = some (l, R) := by
  unfold listQ listC
  rw [List.append_assoc, numP_in (.inr (.inl rfl)) (by omega) (by show (l.length : Int) < 65536; omega)]
  show numsP z ((l.length : Int)).toNat _ = _
  rw [Int.toNat_natCast]
  exact numsP_in hz l R h
theorem listQ_out {z : Nat} (hz : Sz z) {L R : List UInt8} {l : List Int} (h : listQ z L = some (l, R)) : L = listC z l ++ R ∧ l.length ≤ 65535 ∧ ∀ m ∈ l, 0 ≤ m ∧ m < 2 ^ (8 * z) := by
  unfold listQ at h
  obtain ⟨⟨a, L1⟩, e1, h⟩ := bindQ_some h
  obtain ⟨q1, q2, q3⟩ := numP_out (.inr (.inl rfl)) e1
  obtain ⟨k1, k2, k3⟩ := numsP_out hz _ _ _ _ h
  dsimp only at k1 k2
  have q3' : a < 65536 := q3
  refine ⟨?_, by omega, k3⟩
  unfold listC
  rw [q1, k1, List.append_assoc, show (l.length : Int) = a by omega]
theorem listB_c (b : List UInt8) (l : List Int) {z : Nat} (hz : Sz z) (hl : l.length ≤ 65535) (h : ∀ n ∈ l, 0 ≤ n ∧ n < 2 ^ (8 * z)) : listB b l z = b ++ listC z l := by
  have hr : ∀ n : Int, 0 ≤ n → n < 2 ^ (8 * z) → rightB n (z : Int) = true := by
    intro n h0 h1
    rcases hz with rfl | rfl | rfl <;> (simp [rightB, sizedB] at h1 ⊢; omega)
  have hf : ∀ (l : List Int) (b : List UInt8), (∀ n ∈ l, 0 ≤ n ∧ n < 2 ^ (8 * z)) → l.foldl (fun b n => putV b n z) b = b ++ numsC z l := by
    intro l
    induction l with
    | nil => intro b _; simp [numsC]
    | cons n l ih =>
      intro b h
      have hn := h n (by simp)
      rw [List.foldl_cons, putV_right (hr n hn.1 hn.2), ih _ (fun m hm => h m (by simp [hm]))]
      simp [numsC]
  unfold listB listC
  have e2 : putV b l.length 2 = b ++ putB l.length 2 2 := putV_right (z := 2) (rightB_2 (by omega) (by omega))
  rw [e2, hf l _ h, List.append_assoc]

/-- A value, as bytes. -/
def cellC (c : CeV) : List UInt8 := if c.null then putB 4294967295 4 4 else putB c.bytes.length 4 4 ++ c.bytes
def rightC (c : CeV) : Prop := (c.null = true → c.bytes = []) ∧ c.bytes.length < 4294967295
theorem takeP_in (A R : List UInt8) : takeP (A.length : Int) (A ++ R) = some (A, R) := by
  have hok : takeOk (A ++ R) false (A.length : Int) = true := by
    unfold takeOk
    simp
    omega
  unfold takeP
  rw [if_pos hok]
  unfold takeV
  rw [if_pos hok, Int.toNat_natCast, List.take_append_of_le_length (Nat.le_refl _), List.take_of_length_le (Nat.le_refl _), List.drop_append_of_le_length (Nat.le_refl _), List.drop_of_length_le (Nat.le_refl _), List.nil_append]
theorem takeP_out {n : Int} {L A R : List UInt8} (h : takeP n L = some (A, R)) : L = A ++ R ∧ (A.length : Int) = n := by
  unfold takeP at h
  split at h
  · rename_i hok
    injection h with h
    injection h with h1 h2
    unfold takeV at h1
    rw [if_pos hok] at h1
    unfold takeOk at hok
    simp only [Bool.and_eq_true, decide_eq_true_eq] at hok
    subst h1 h2
    refine ⟨(List.take_append_drop _ _).symm, ?_⟩
    rw [List.length_take]
    omega
  · cases h
theorem cellP_in (c : CeV) (R : List UInt8) (h : rightC c) : cellP (cellC c ++ R) = some (c, R) := by
  obtain ⟨nl, bs⟩ := c
  obtain ⟨h1, h2⟩ := h
  dsimp only at h1 h2
  unfold cellP cellC
  cases nl with
  | true =>
    have hb := h1 rfl
    subst hb
    dsimp only
    rw [if_pos rfl, numP_in (.inr (.inr rfl)) (by omega) (by show (4294967295 : Int) < 4294967296; omega)]
    rfl
  | false =>
    dsimp only
    rw [if_neg Bool.false_ne_true, List.append_assoc, numP_in (.inr (.inr rfl)) (by omega) (by show (bs.length : Int) < 4294967296; omega)]
    show (if ((bs.length : Nat) : Int) = 4294967295 then _ else _) = _
    rw [if_neg (by omega), takeP_in]
    rfl
theorem cellP_out {L R : List UInt8} {c : CeV} (h : cellP L = some (c, R)) : L = cellC c ++ R ∧ rightC c := by
  unfold cellP at h
  obtain ⟨⟨a, L1⟩, e1, h⟩ := bindQ_some h
  obtain ⟨q1, q2, q3⟩ := numP_out (.inr (.inr rfl)) e1
  have q3' : a < 4294967296 := q3
  dsimp only at h
  split at h
  · rename_i ha
    injection h with h
    injection h with h1 h2
    subst h1 h2 ha
    refine ⟨?_, fun _ => rfl, by decide⟩
    rw [q1]
    rfl
  · rename_i ha
    obtain ⟨⟨b, L2⟩, e2, h⟩ := bindQ_some h
    injection h with h
    injection h with h1 h2
    obtain ⟨k1, k2⟩ := takeP_out e2
    dsimp only at h1 h2
    subst h1 h2
    refine ⟨?_, (fun e => by cases e), by show b.length < _; omega⟩
    unfold cellC
    rw [if_neg Bool.false_ne_true, q1, k1, List.append_assoc]
    show _ = putB ((b.length : Nat) : Int) 4 4 ++ _
    rw [k2]
def cellsC (l : List CeV) : List UInt8 := l.flatMap cellC
theorem cellsP_in : ∀ (l : List CeV) (R : List UInt8), (∀ c ∈ l, rightC c) → cellsP l.length (cellsC l ++ R) = some (l, R)
  | [], R, _ => rfl
  | c :: l, R, h => by
    have e : cellsC (c :: l) ++ R = cellC c ++ (cellsC l ++ R) := by simp [cellsC]
    rw [e, List.length_cons, cellsP, cellP_in c _ (h c (by simp))]
    show (cellsP l.length (cellsC l ++ R)).bind _ = _
    rw [cellsP_in l R (fun m hm => h m (by simp [hm]))]
    rfl
theorem cellsP_out : ∀ (n : Nat) (L R : List UInt8) (l : List CeV), cellsP n L = some (l, R) → L = cellsC l ++ R ∧ l.length = n ∧ ∀ c ∈ l, rightC c
  | 0, L, R, l, h => by
    injection h with h
    injection h with h1 h2
    subst h1 h2
    exact ⟨rfl, rfl, fun m hm => by cases hm⟩
  | n + 1, L, R, l, h => by
    obtain ⟨⟨a, L1⟩, e1, h⟩ := bindQ_some h
    obtain ⟨⟨b, L2⟩, e2, h⟩ := bindQ_some h
    injection h with h
    injection h with h1 h2
    obtain ⟨q1, q2⟩ := cellP_out e1
    obtain ⟨k1, k2, k3⟩ := cellsP_out n _ _ _ e2
    dsimp only at h1 h2 k1
    subst h1 h2
    refine ⟨?_, by rw [List.length_cons, k2], fun m hm => ?_⟩
    · rw [q1, k1]
      simp [cellsC]
    · rcases List.mem_cons.1 hm with rfl | hm
      · exact q2
      · exact k3 m hm
def rowC (l : List CeV) : List UInt8 := putB l.length 2 2 ++ cellsC l
theorem rowQ_in (l : List CeV) (R : List UInt8) (hl : l.length ≤ 65535) (h : ∀ c ∈ l, rightC c) : rowQ (rowC l ++ R) = some (l, R) := by
  unfold rowQ rowC
  rw [List.append_assoc, numP_in (.inr (.inl rfl)) (by omega) (by show (l.length : Int) < 65536; omega)]
  show cellsP ((l.length : Int)).toNat _ = _
  rw [Int.toNat_natCast]
  exact cellsP_in l R h
theorem rowQ_out {L R : List UInt8} {l : List CeV} (h : rowQ L = some (l, R)) : L = rowC l ++ R ∧ l.length ≤ 65535 ∧ ∀ c ∈ l, rightC c := by
  unfold rowQ at h
  obtain ⟨⟨a, L1⟩, e1, h⟩ := bindQ_some h
  obtain ⟨q1, q2, q3⟩ := numP_out (.inr (.inl rfl)) e1
  obtain ⟨k1, k2, k3⟩ := cellsP_out _ _ _ _ h
  dsimp only at k1 k2
  have q3' : a < 65536 := q3
  refine ⟨?_, by omega, k3⟩
  unfold rowC
  rw [q1, k1, List.append_assoc, show (l.length : Int) = a by omega]
theorem rowB_c (b : List UInt8) (l : List CeV) (hl : l.length ≤ 65535) (h : ∀ c ∈ l, rightC c) : rowB b l = b ++ rowC l := by
  have hf : ∀ (l : List CeV) (b : List UInt8), (∀ c ∈ l, rightC c) → l.foldl cellB b = b ++ cellsC l := by
    intro l
    induction l with
    | nil => intro b _; simp [cellsC]
    | cons c l ih =>
      intro b h
      have hc := h c (by simp)
      have e : cellB b c = b ++ cellC c := by
        unfold cellB cellC
        split
        · exact putV_right (z := 4) (rightB_4 (by omega) (by omega))
        · have e4 : putV b c.bytes.length 4 = b ++ putB c.bytes.length 4 4 := putV_right (z := 4) (rightB_4 (by omega) (by have := hc.2; omega))
          rw [e4, List.append_assoc]
      rw [List.foldl_cons, e, ih _ (fun m hm => h m (by simp [hm]))]
      simp [cellsC]
  unfold rowB rowC
  have e2 : putV b l.length 2 = b ++ putB l.length 2 2 := putV_right (z := 2) (rightB_2 (by omega) (by omega))
  rw [e2, hf l _ h, List.append_assoc]

end Go.Proofs.Ythhebfknikfleaa

/-
  Plain laws of lists that are the same, of numbers that are put and read.
-/
namespace Go.Proofs.Ythhebfknikfleaa
open Go.RowKit
set_option linter.unusedVariables false
set_option linter.unusedSimpArgs false

theorem str_same {a b : ByteArray} (h : (a.toList == b.toList) = true) : a = b := by
  have ha : a = strOf a.data.toList := by simp [strOf]
  have hb : b = strOf b.data.toList := by simp [strOf]
  have e : a.toList = b.toList := by simpa using h
  rw [ha, hb] at e ⊢
  rw [strOf_toList, strOf_toList] at e
  rw [e]
theorem listEq_same {α : Type} {f : α → α → Bool} (hf : ∀ a b, f a b = true → a = b) : ∀ {l m : List α}, listEq f l m = true → l = m
  | [], [], _ => rfl
  | [], b :: m, h => by simp [listEq] at h
  | a :: l, [], h => by simp [listEq] at h
  | a :: l, b :: m, h => by
    simp only [listEq, Bool.and_eq_true] at h
    rw [hf a b h.1, listEq_same hf h.2]
theorem ceEq_same (a b : CeV) (h : ceEq a b = true) : a = b := by
  obtain ⟨an, al⟩ := a
  obtain ⟨bn, bl⟩ := b
  simp [ceEq] at h
  rw [h.1, h.2]
theorem between_parts {l : List Int} {hi : Int} (h : between l 0 hi = true) : l.length ≤ 65535 ∧ ∀ n ∈ l, 0 ≤ n ∧ n < hi + 1 := by
  unfold between at h
  simp only [Bool.and_eq_true, decide_eq_true_eq, Bool.not_eq_true', List.any_eq_false] at h
  refine ⟨h.1, fun n hn => ?_⟩
  have := h.2 n hn
  unfold outside at this
  simp at this
  omega
theorem values_parts {l : List CeV} (h : valuesV l = true) : l.length ≤ 65535 ∧ ∀ c ∈ l, rightC c := by
  unfold valuesV at h
  simp only [Bool.and_eq_true, decide_eq_true_eq, Bool.not_eq_true', List.any_eq_false] at h
  refine ⟨h.1, fun c hc => ?_⟩
  have := h.2 c hc
  unfold wrongC at this
  simp at this
  refine ⟨fun e => ?_, by omega⟩
  have h2 := this.1 e
  simpa using h2
theorem byte_put {n : Int} (h0 : 0 ≤ n) (h1 : n < 256) : [UInt8.ofNat n.toNat] = putB n 1 1 := by
  have h := putAt_shr n 1 0 (.inl rfl) (by omega)
  simp only [putB, List.range_succ, List.range_zero, List.nil_append, List.map_cons, List.map_nil]
  congr 1
  apply UInt8.toNat_inj.1
  simp at h ⊢
  omega
theorem signed_back {n : Int} (h0 : -2147483648 ≤ n) (h1 : n < 2147483648) : signedV (n % 2 ^ (8 * 4)) 4 = n := by
  unfold signedV
  have hs : sizedB 4 = true := by decide
  rw [hs]
  have e1 : (2 : Int) ^ (8 * (4 : Int).toNat) = 4294967296 := by decide
  have e2 : (2 : Int) ^ (8 * 4) = 4294967296 := by decide
  rw [e1, e2]
  simp only [true_and]
  split <;> omega

end Go.Proofs.Ythhebfknikfleaa

/-
  Messages of servers (layer 7): what a body says, as a plain law; the laws of the loops that read.
-/
namespace Go.Proofs.Ythhebfknikfleaa
open Go.RowKit
set_option linter.unusedVariables false
set_option linter.unusedSimpArgs false

/-- So many of a thing. -/
def manyP {α : Type} (P : List UInt8 → Option (α × List UInt8)) : Nat → List UInt8 → Option (List α × List UInt8)
  | 0, L => some ([], L)
  | n + 1, L => (P L).bind fun a => (manyP P n a.2).bind fun b => some (a.1 :: b.1, b.2)
/-- As many as are told. -/
def countP {α : Type} (P : List UInt8 → Option (α × List UInt8)) (L : List UInt8) : Option (List α × List UInt8) := (numP 2 L).bind fun a => manyP P a.1.toNat a.2
theorem manyP_num (z : Nat) : ∀ (n : Nat) (L : List UInt8), manyP (numP z) n L = numsP z n L
  | 0, L => rfl
  | n + 1, L => by
    unfold manyP numsP
    congr 1
    funext a
    rw [manyP_num z n a.2]
theorem manyP_cell : ∀ (n : Nat) (L : List UInt8), manyP cellP n L = cellsP n L
  | 0, L => rfl
  | n + 1, L => by
    unfold manyP cellsP
    congr 1
    funext a
    rw [manyP_cell n a.2]
theorem countP_num (z : Nat) (L : List UInt8) : countP (numP z) L = listQ z L := by
  unfold countP listQ
  congr 1
  funext a
  exact manyP_num z _ _
theorem countP_cell (L : List UInt8) : countP cellP L = rowQ L := by
  unfold countP rowQ
  congr 1
  funext a
  exact manyP_cell _ _

/-- A column. -/
def cp7 (n : ByteArray) (t a o s m : Int) (L : List UInt8) : Option (CoV × List UInt8) := (numP 2 L).bind fun f => some (⟨n, t, a, o, signedV s 2, signedV m 4, f.1⟩, f.2)
def cp6 (n : ByteArray) (t a o s : Int) (L : List UInt8) : Option (CoV × List UInt8) := (numP 4 L).bind fun m => cp7 n t a o s m.1 m.2
def cp5 (n : ByteArray) (t a o : Int) (L : List UInt8) : Option (CoV × List UInt8) := (numP 2 L).bind fun s => cp6 n t a o s.1 s.2
def cp4 (n : ByteArray) (t a : Int) (L : List UInt8) : Option (CoV × List UInt8) := (numP 4 L).bind fun o => cp5 n t a o.1 o.2
def cp3 (n : ByteArray) (t : Int) (L : List UInt8) : Option (CoV × List UInt8) := (numP 2 L).bind fun a => cp4 n t a.1 a.2
def cp2 (n : ByteArray) (L : List UInt8) : Option (CoV × List UInt8) := (numP 4 L).bind fun t => cp3 n t.1 t.2
def coRd (L : List UInt8) : Option (CoV × List UInt8) := (textQ L).bind fun n => cp2 n.1 n.2
/-- Fields up to their end. -/
def fieldsQ : Nat → List UInt8 → Option (List FdV × List UInt8)
  | 0, _ => none
  | n + 1, L => (numP 1 L).bind fun a => if a.1 = 0 then some ([], a.2) else (textQ a.2).bind fun t => (fieldsQ n t.2).bind fun r => some (⟨a.1, t.1⟩ :: r.1, r.2)
def fieldsP (L : List UInt8) : Option (List FdV × List UInt8) := fieldsQ (L.length + 1) L
theorem textQ_len {L T : List UInt8} {t : ByteArray} (h : textQ L = some (t, T)) : t.size + T.length < L.length := by
  have := (textQ_out h).1
  rw [this, List.length_append]
  unfold strP
  simp only [List.length_append, List.length_cons, List.length_nil]
  have : t.data.toList.length = t.size := Array.length_toList
  omega
theorem numP_len {z : Nat} (hz : Sz z) {L T : List UInt8} {n : Int} (h : numP z L = some (n, T)) : T.length + z = L.length := by
  have := (numP_out hz h).1
  rw [this, List.length_append, putB_length]
  omega
theorem fieldsQ_fuel : ∀ (n : Nat) (L : List UInt8) (m : Nat), L.length < n → L.length < m → fieldsQ n L = fieldsQ m L
  | 0, L, m, h, _ => by omega
  | n + 1, L, 0, _, h => by omega
  | n + 1, L, m + 1, h1, h2 => by
    unfold fieldsQ
    cases e : numP 1 L with
    | none => rfl
    | some a =>
      obtain ⟨x, L1⟩ := a
      have q := numP_len (.inl rfl) e
      show (if x = 0 then _ else _) = (if x = 0 then _ else _)
      split
      · rfl
      · show (textQ L1).bind _ = (textQ L1).bind _
        cases e2 : textQ L1 with
        | none => rfl
        | some t =>
          obtain ⟨s, L2⟩ := t
          have q2 := textQ_len e2
          show (fieldsQ n L2).bind _ = (fieldsQ m L2).bind _
          rw [fieldsQ_fuel n L2 m (by omega) (by omega)]
theorem fieldsP_end {L L1 : List UInt8} (h : numP 1 L = some (0, L1)) : fieldsP L = some ([], L1) := by
  unfold fieldsP fieldsQ
  rw [h]
  rfl
theorem fieldsP_none {L : List UInt8} (h : numP 1 L = none) : fieldsP L = none := by
  unfold fieldsP fieldsQ
  rw [h]
  rfl
theorem fieldsP_cut {L L1 : List UInt8} {x : Int} (hx : x ≠ 0) (h : numP 1 L = some (x, L1)) (h2 : textQ L1 = none) : fieldsP L = none := by
  unfold fieldsP fieldsQ
  rw [h]
  show (if x = 0 then _ else _) = _
  rw [if_neg hx]
  show (textQ L1).bind _ = _
  rw [h2]
  rfl
theorem fieldsP_more {L L1 L2 : List UInt8} {x : Int} {t : ByteArray} (hx : x ≠ 0) (h : numP 1 L = some (x, L1)) (h2 : textQ L1 = some (t, L2)) : fieldsP L = (fieldsP L2).map fun r => (⟨x, t⟩ :: r.1, r.2) := by
  have q := numP_len (.inl rfl) h
  have q2 := textQ_len h2
  have e : fieldsP L = fieldsQ (L.length + 1) L := rfl
  rw [e]
  unfold fieldsQ
  rw [h]
  show (if x = 0 then _ else _) = _
  rw [if_neg hx]
  show (textQ L1).bind _ = _
  rw [h2]
  show (fieldsQ L.length L2).bind _ = _
  rw [fieldsQ_fuel L.length L2 (L2.length + 1) (by omega) (by omega)]
  show (fieldsP L2).bind _ = _
  cases fieldsP L2 <;> rfl

/-- What a body says, by its kind, and what is left behind it. -/
def readB (k : Int) (L : List UInt8) : Option (BaV × List UInt8) :=
  if k = 82 then (numP 4 L).bind fun a => if a.1 = 0 then some (baZero k, a.2) else none
  else if k = 83 then (textQ L).bind fun a => (textQ a.2).bind fun b => some ({ baZero k with name := a.1, value := b.1 }, b.2)
  else if k = 75 then (numP 4 L).bind fun a => (numP 4 a.2).bind fun b => some ({ baZero k with n := a.1, m := b.1 }, b.2)
  else if k = 90 then (numP 1 L).bind fun a => some ({ baZero k with status := a.1 }, a.2)
  else if k = 67 then (textQ L).bind fun a => some ({ baZero k with tag := a.1 }, a.2)
  else if k = 68 then (rowQ L).bind fun a => some ({ baZero k with row := a.1 }, a.2)
  else if k = 84 then (countP coRd L).bind fun a => some ({ baZero k with cols := a.1 }, a.2)
  else if k = 116 then (listQ 4 L).bind fun a => some ({ baZero k with oids := a.1 }, a.2)
  else if k = 69 ∨ k = 78 then (fieldsP L).bind fun a => some ({ baZero k with fields := a.1 }, a.2)
  else some (baZero k, L)

section
variable {L L1 L2 L3 L4 L5 L6 L7 : List UInt8} {bad b1 b2 b3 b4 b5 b6 b7 : Bool}
theorem coRd_o {n : ByteArray} {t a o s m f : Int} (h1 : StepO L bad textQ n L1 b1) (h2 : StepO L1 b1 (numP 4) t L2 b2) (h3 : StepO L2 b2 (numP 2) a L3 b3) (h4 : StepO L3 b3 (numP 4) o L4 b4) (h5 : StepO L4 b4 (numP 2) s L5 b5)
    (h6 : StepO L5 b5 (numP 4) m L6 b6) (h7 : StepO L6 b6 (numP 2) f L7 b7) : StepO L bad coRd ⟨n, t, a, o, signedV s 2, signedV m 4, f⟩ L7 b7 :=
  h1.bind (Q := cp2) (h2.bind (Q := cp3 n) (h3.bind (Q := cp4 n t) (h4.bind (Q := cp5 n t a) (h5.bind (Q := cp6 n t a o) (h6.bind (Q := cp7 n t a o s) ((h7.bind (Q := fun (f : Int) (l : List UInt8) => some ((⟨n, t, a, o, signedV s 2, signedV m 4, f⟩ : CoV), l)) (StepO.ret _) : StepO L6 b6 (cp7 n t a o s m) _ L7 b7)))))))
theorem readB_R {x : Int} (h : StepO L bad (numP 4) x L1 b1) : StepO L bad (readB 82) (baZero 82) L1 (b1 || !(x == 0)) := by
  have e : readB 82 L = (numP 4 L).bind fun a => if a.1 = 0 then some (baZero 82, a.2) else none := by unfold readB; rw [if_pos rfl]
  refine ⟨fun hb => ?_, fun hb => ?_, h.2.2⟩
  · simp only [Bool.or_eq_false_iff, Bool.not_eq_false', beq_iff_eq] at hb
    obtain ⟨h1, h2⟩ := h.1 hb.1
    refine ⟨h1, ?_⟩
    rw [e, h2]
    show (if x = 0 then _ else _) = _
    rw [if_pos hb.2]
  · cases hb1 : b1 with
    | true =>
      rcases h.2.1 hb1 with q | q
      · exact .inl q
      · right
        rw [e, q]
        rfl
    | false =>
      rw [hb1] at hb
      simp only [Bool.false_or, Bool.not_eq_true', beq_eq_false_iff_ne, ne_eq] at hb
      obtain ⟨h1, h2⟩ := h.1 hb1
      right
      rw [e, h2]
      show (if x = 0 then _ else _) = _
      rw [if_neg hb]
theorem readB_S {n v : ByteArray} (h1 : StepO L bad textQ n L1 b1) (h2 : StepO L1 b1 textQ v L2 b2) : StepO L bad (readB 83) { baZero 83 with name := n, value := v } L2 b2 :=
  (h1.bind (Q := fun n l => (textQ l).bind fun b => some ({ baZero 83 with name := n, value := b.1 }, b.2))
    (h2.bind (Q := fun v l => some ({ baZero 83 with name := n, value := v }, l)) (StepO.ret _))).of_eq fun l => by unfold readB; rw [if_neg (by decide), if_pos rfl]
theorem readB_K {n m : Int} (h1 : StepO L bad (numP 4) n L1 b1) (h2 : StepO L1 b1 (numP 4) m L2 b2) : StepO L bad (readB 75) { baZero 75 with n := n, m := m } L2 b2 :=
  (h1.bind (Q := fun n l => (numP 4 l).bind fun b => some ({ baZero 75 with n := n, m := b.1 }, b.2))
    (h2.bind (Q := fun m l => some ({ baZero 75 with n := n, m := m }, l)) (StepO.ret _))).of_eq fun l => by unfold readB; rw [if_neg (by decide), if_neg (by decide), if_pos rfl]
theorem readB_Z {x : Int} (h1 : StepO L bad (numP 1) x L1 b1) : StepO L bad (readB 90) { baZero 90 with status := x } L1 b1 :=
  (h1.bind (Q := fun x l => some ({ baZero 90 with status := x }, l)) (StepO.ret _)).of_eq fun l => by unfold readB; rw [if_neg (by decide), if_neg (by decide), if_neg (by decide), if_pos rfl]
theorem readB_C {x : ByteArray} (h1 : StepO L bad textQ x L1 b1) : StepO L bad (readB 67) { baZero 67 with tag := x } L1 b1 :=
  (h1.bind (Q := fun x l => some ({ baZero 67 with tag := x }, l)) (StepO.ret _)).of_eq fun l => by unfold readB; rw [if_neg (by decide), if_neg (by decide), if_neg (by decide), if_neg (by decide), if_pos rfl]
theorem readB_D {x : List CeV} (h1 : StepO L bad rowQ x L1 b1) : StepO L bad (readB 68) { baZero 68 with row := x } L1 b1 :=
  (h1.bind (Q := fun x l => some ({ baZero 68 with row := x }, l)) (StepO.ret _)).of_eq fun l => by unfold readB; rw [if_neg (by decide), if_neg (by decide), if_neg (by decide), if_neg (by decide), if_neg (by decide), if_pos rfl]
theorem readB_T {x : List CoV} (h1 : StepO L bad (countP coRd) x L1 b1) : StepO L bad (readB 84) { baZero 84 with cols := x } L1 b1 :=
  (h1.bind (Q := fun x l => some ({ baZero 84 with cols := x }, l)) (StepO.ret _)).of_eq fun l => by unfold readB; rw [if_neg (by decide), if_neg (by decide), if_neg (by decide), if_neg (by decide), if_neg (by decide), if_neg (by decide), if_pos rfl]
theorem readB_t {x : List Int} (h1 : StepO L bad (listQ 4) x L1 b1) : StepO L bad (readB 116) { baZero 116 with oids := x } L1 b1 :=
  (h1.bind (Q := fun x l => some ({ baZero 116 with oids := x }, l)) (StepO.ret _)).of_eq fun l => by unfold readB; rw [if_neg (by decide), if_neg (by decide), if_neg (by decide), if_neg (by decide), if_neg (by decide), if_neg (by decide), if_neg (by decide), if_pos rfl]
theorem readB_E {k : Int} (hk : k = 69 ∨ k = 78) {x : List FdV} (h1 : StepO L bad fieldsP x L1 b1) : StepO L bad (readB k) { baZero k with fields := x } L1 b1 :=
  (h1.bind (Q := fun x l => some ({ baZero k with fields := x }, l)) (StepO.ret _)).of_eq fun l => by unfold readB; rw [if_neg (by omega), if_neg (by omega), if_neg (by omega), if_neg (by omega), if_neg (by omega), if_neg (by omega), if_neg (by omega), if_neg (by omega), if_pos hk]
theorem readB_other {k : Int} (h0 : k ≠ 82) (h1 : k ≠ 83) (h2 : k ≠ 75) (h3 : k ≠ 90) (h4 : k ≠ 67) (h5 : k ≠ 68) (h6 : k ≠ 84) (h7 : k ≠ 116) (h8 : ¬ (k = 69 ∨ k = 78)) : StepO L bad (readB k) (baZero k) L bad :=
  (StepO.ret (baZero k)).of_eq fun l => by unfold readB; rw [if_neg h0, if_neg h1, if_neg h2, if_neg h3, if_neg h4, if_neg h5, if_neg h6, if_neg h7, if_neg h8]
end

/-- What holds in the loop over things that are told. -/
structure MnI {α : Type} (P : List UInt8 → Option (α × List UInt8)) (R : Option (List α × List UInt8)) (bad1 : Bool) (m : Nat) (T : List UInt8) (b : Bool) (xs : List α) : Prop where
  good : b = false → bad1 = false ∧ R = (manyP P m T).map (fun q => (xs ++ q.1, q.2))
  bad : b = true → bad1 = true ∨ R = none
section
variable {α : Type} {P : List UInt8 → Option (α × List UInt8)} {R : Option (List α × List UInt8)} {bad bad1 b b' : Bool} {m : Nat} {L L1 T T' : List UInt8} {x : α} {xs : List α}
theorem MnI.start (n : Nat) : MnI P (manyP P n L1) bad1 n L1 bad1 [] := ⟨fun e => ⟨e, by cases manyP P n L1 <;> simp⟩, fun e => .inl e⟩
theorem MnI.step (h : MnI P R bad1 (m + 1) T false xs) (hs : StepO T false P x T' b') : MnI P R bad1 m T' b' (xs ++ [x]) := by
  obtain ⟨h1, h2⟩ := h.good rfl
  refine ⟨fun e => ⟨h1, ?_⟩, fun e => ?_⟩
  · rw [h2, manyP, (hs.1 e).2]
    simp only [Option.bind_some]
    cases manyP P m T' with
    | none => rfl
    | some q => simp
  · rcases hs.2.1 e with q | q
    · cases q
    · right
      rw [h2, manyP, q]
      rfl
theorem MnI.fin {x : Int} {n : Nat} {b1 : Bool} (h0 : StepO L bad (numP 2) x L1 b1) (hx : x = n) (h : MnI P (manyP P n L1) b1 m T b xs) (hm : m = 0 ∨ b = true) (hT : T.length ≤ L1.length) : StepO L bad (countP P) xs T b := by
  have e1 : ∀ y M, numP 2 L = some (y, M) → countP P L = manyP P y.toNat M := fun y M e => by unfold countP; rw [e]; rfl
  have e2 : numP 2 L = none → countP P L = none := fun e => by unfold countP; rw [e]; rfl
  have hxn : x.toNat = n := by omega
  refine ⟨fun hb => ?_, fun hb => ?_, Nat.le_trans hT h0.2.2⟩
  · obtain ⟨h1, h2⟩ := h.good hb
    obtain ⟨h3, h4⟩ := h0.1 h1
    refine ⟨h3, ?_⟩
    rw [e1 _ _ h4, hxn, h2]
    rcases hm with rfl | q
    · simp [manyP]
    · rw [hb] at q; cases q
  · cases hb1 : b1 with
    | true =>
      rcases h0.2.1 hb1 with q | q
      · exact .inl q
      · exact .inr (e2 q)
    | false =>
      rcases h.bad hb with q | q
      · rw [hb1] at q; cases q
      · obtain ⟨h3, h4⟩ := h0.1 hb1
        exact .inr (by rw [e1 _ _ h4, hxn]; exact q)
end

/-- What holds in the loop over fields. -/
structure FsI (R : Option (List FdV × List UInt8)) (bad0 : Bool) (T : List UInt8) (b : Bool) (xs : List FdV) : Prop where
  good : b = false → bad0 = false ∧ R = (fieldsP T).map (fun q => (xs ++ q.1, q.2))
  bad : b = true → bad0 = true ∨ R = none
section
variable {R : Option (List FdV × List UInt8)} {bad0 b b1 b2 : Bool} {L T T1 T2 : List UInt8} {x : Int} {t : ByteArray} {xs : List FdV}
theorem FsI.start : FsI (fieldsP L) bad0 L bad0 [] := ⟨fun e => ⟨e, by cases fieldsP L <;> simp⟩, fun e => .inl e⟩
theorem FsI.more (h : FsI R bad0 T false xs) (h1 : StepO T false (numP 1) x T1 b1) (hx : x ≠ 0) (h2 : StepO T1 b1 textQ t T2 b2) : FsI R bad0 T2 b2 (xs ++ [⟨x, t⟩]) := by
  obtain ⟨g1, g2⟩ := h.good rfl
  refine ⟨fun e => ⟨g1, ?_⟩, fun e => ?_⟩
  · obtain ⟨e1, q2⟩ := h2.1 e
    obtain ⟨_, q1⟩ := h1.1 e1
    rw [g2, fieldsP_more hx q1 q2]
    cases fieldsP T2 with
    | none => rfl
    | some q => simp
  · right
    rw [g2]
    cases hb1 : b1 with
    | true =>
      rcases h1.2.1 hb1 with q | q
      · cases q
      · rw [fieldsP_none q]; rfl
    | false =>
      obtain ⟨_, q1⟩ := h1.1 hb1
      rcases h2.2.1 e with q | q
      · rw [hb1] at q; cases q
      · rw [fieldsP_cut hx q1 q]; rfl
theorem FsI.fin (h : FsI (fieldsP L) bad0 T b xs) (h1 : StepO T b (numP 1) 0 T1 b1) (hT : T.length ≤ L.length) : StepO L bad0 fieldsP xs T1 b1 := by
  refine ⟨fun e => ?_, fun e => ?_, Nat.le_trans h1.2.2 hT⟩
  · obtain ⟨e1, q1⟩ := h1.1 e
    obtain ⟨g1, g2⟩ := h.good e1
    refine ⟨g1, ?_⟩
    rw [g2, fieldsP_end q1]
    simp
  · cases hb : b with
    | true => exact h.bad hb
    | false =>
      obtain ⟨g1, g2⟩ := h.good hb
      rcases h1.2.1 e with q | q
      · rw [hb] at q; cases q
      · right
        rw [g2, fieldsP_none q]
        rfl
/-- The loop of the document: it may end where the scan is bad. -/
theorem FsI.finBad (h : FsI (fieldsP L) bad0 T true xs) (hT : T.length ≤ L.length) : StepO L bad0 fieldsP xs T true := ⟨(fun e => by cases e), fun _ => h.bad rfl, hT⟩
end
/-- A number that is not 0 was there. -/
theorem num_there {T : List UInt8} {b : Bool} (h : numV T b 1 ≠ 0) : b = false ∧ numOk T b 1 = true ∧ 0 < T.length := by
  unfold numV at h
  split at h
  · rename_i hok
    have h2 := hok
    unfold numOk at h2
    simp only [Bool.and_eq_true, Bool.not_eq_true', decide_eq_true_eq] at h2
    exact ⟨h2.1.1, hok, by have := h2.2; omega⟩
  · exact absurd rfl h

end Go.Proofs.Ythhebfknikfleaa

