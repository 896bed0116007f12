/-
  Plain laws of pieces: numbers, texts, lists and values; what was put is read, what is read has just these bytes.
-/
import Derived.Test.YtldjfmddjbdciaaFoU
import Derived.Test.YtldjfmddjbdciaaPackB
namespace Go.Proofs.Ytldjfmddjbdciaa
open Go.RowKit
set_option linter.unusedVariables false
set_option linter.unusedSimpArgs false

theorem indexByte_app : ∀ (A R : List UInt8), (0 : UInt8) ∉ A → Lib.indexByte (A ++ 0 :: R) 0 = (A.length : Int)
  | [], R, _ => by simp [Lib.indexByte]
  | a :: A, R, h => by
    simp only [List.mem_cons, not_or] at h
    have ih := indexByte_app A R h.2
    have ha : (a == 0) = false := by simpa using fun e => h.1 e.symm
    rw [List.cons_append, Lib.indexByte, ha, ih]
    first | (simp; done) | (simp; omega)
theorem indexByte_split : ∀ T : List UInt8, Lib.indexByte T 0 = -1 ∨ ∃ A R, T = A ++ 0 :: R ∧ (0 : UInt8) ∉ A
  | [] => .inl rfl
  | a :: T => by
    by_cases ha : a = 0
    · subst ha
      exact .inr ⟨[], T, rfl, by simp⟩
    · have ha' : (a == 0) = false := by simpa using ha
      rcases indexByte_split T with h | ⟨A, R, rfl, h⟩
      · left
        rw [Lib.indexByte, ha', h]
        rfl
      · exact .inr ⟨a :: A, R, rfl, by simp only [List.mem_cons, not_or]; exact ⟨fun e => ha e.symm, h⟩⟩

theorem strOf_data (s : ByteArray) : strOf s.data.toList = s := by simp [strOf]
theorem data_strOf (l : List UInt8) : (strOf l).data.toList = l := by simp [strOf]
theorem strOf_nil {l : List UInt8} (h : strOf l = ⟨#[]⟩) : l = [] := by
  have := congrArg (fun s => s.data.toList) h
  simpa [data_strOf] using this

theorem text_app (A R : List UInt8) (h : (0 : UInt8) ∉ A) : textOk (A ++ 0 :: R) false = true ∧ textV (A ++ 0 :: R) false = strOf A ∧ (A ++ 0 :: R).drop ((Lib.indexByte (A ++ 0 :: R) 0).toNat + 1) = R := by
  have hi := indexByte_app A R h
  have hok : textOk (A ++ 0 :: R) false = true := by
    unfold textOk
    rw [hi]
    first | (simp; done) | (simp; omega)
  refine ⟨hok, ?_, ?_⟩
  · unfold textV
    rw [hok, hi]
    simp
  · rw [hi]
    simp
theorem text_split {T : List UInt8} (h : textOk T false = true) : ∃ A R, T = A ++ 0 :: R ∧ (0 : UInt8) ∉ A := by
  rcases indexByte_split T with e | e
  · unfold textOk at h
    rw [e] at h
    simp at h
  · exact e

theorem clean_mem {s : ByteArray} (h : cleanB s = true) : (0 : UInt8) ∉ s.data.toList := by
  unfold cleanB at h
  simpa using h
theorem bindQ_some {α β : Type} {o : Option α} {f : α → Option β} {y : β} (h : o.bind f = some y) : ∃ a, o = some a ∧ f a = some y := by
  cases o with
  | none => cases h
  | some a => exact ⟨a, rfl, h⟩

/-- The bytes of a number of so many bytes. -/
theorem putB_be : ∀ {l : List UInt8} {z : Nat}, (z = 1 ∨ z = 2 ∨ z = 4) → l.length = z → putB (be l) z z = l := by
  intro l z hz hl
  rcases hz with rfl | rfl | rfl
  · match l, hl with
    | [a], _ =>
      have h0 := putAt_shr (be [a]) 1 0 (by omega) (by omega)
      have ha := a.toNat_lt
      have e0 : putAt (be [a]) 1 0 = a := UInt8.toNat_inj.1 (by simp [be] at h0 ⊢; omega)
      simp only [putB, List.range_succ, List.range_zero, List.nil_append, List.map_append, List.map_cons, List.map_nil, List.cons_append, e0]
  · match l, hl with
    | [a, b], _ =>
      have h0 := putAt_shr (be [a, b]) 2 0 (by omega) (by omega)
      have h1 := putAt_shr (be [a, b]) 2 1 (by omega) (by omega)
      have ha := a.toNat_lt
      have hb := b.toNat_lt
      have e0 : putAt (be [a, b]) 2 0 = a := UInt8.toNat_inj.1 (by simp [be] at h0 ⊢; omega)
      have e1 : putAt (be [a, b]) 2 1 = b := UInt8.toNat_inj.1 (by simp [be] at h1 ⊢; omega)
      simp only [putB, List.range_succ, List.range_zero, List.nil_append, List.map_append, List.map_cons, List.map_nil, List.cons_append, e0, e1]
  · match l, hl with
    | [a, b, c, d], _ =>
      have h0 := putAt_shr (be [a, b, c, d]) 4 0 (by omega) (by omega)
      have h1 := putAt_shr (be [a, b, c, d]) 4 1 (by omega) (by omega)
      have h2 := putAt_shr (be [a, b, c, d]) 4 2 (by omega) (by omega)
      have h3 := putAt_shr (be [a, b, c, d]) 4 3 (by omega) (by omega)
      have ha := a.toNat_lt
      have hb := b.toNat_lt
      have hc := c.toNat_lt
      have hd := d.toNat_lt
      have e0 : putAt (be [a, b, c, d]) 4 0 = a := UInt8.toNat_inj.1 (by simp [be] at h0 ⊢; omega)
      have e1 : putAt (be [a, b, c, d]) 4 1 = b := UInt8.toNat_inj.1 (by simp [be] at h1 ⊢; omega)
      have e2 : putAt (be [a, b, c, d]) 4 2 = c := UInt8.toNat_inj.1 (by simp [be] at h2 ⊢; omega)
      have e3 : putAt (be [a, b, c, d]) 4 3 = d := UInt8.toNat_inj.1 (by simp [be] at h3 ⊢; omega)
      simp only [putB, List.range_succ, List.range_zero, List.nil_append, List.map_append, List.map_cons, List.map_nil, List.cons_append, e0, e1, e2, e3]

/-- A size that numbers have. -/
def Sz (z : Nat) : Prop := z = 1 ∨ z = 2 ∨ z = 4
theorem Sz.sized {z : Nat} (h : Sz z) : sizedB (z : Int) = true := by rcases h with rfl | rfl | rfl <;> decide
theorem numP_put {z : Nat} (hz : Sz z) (n : Int) (R : List UInt8) : numP z (putB n z z ++ R) = some (n % 2 ^ (8 * z), R) := by
  have hl := putB_length n z z
  have hok : numOk (putB n z z ++ R) false z = true := by
    unfold numOk
    rw [hz.sized]
    simp [hl]
    omega
  have hv : numV (putB n z z ++ R) false z = n % 2 ^ (8 * z) := by
    unfold numV
    rw [if_pos hok, Int.toNat_natCast, List.take_append_of_le_length (by omega), List.take_of_length_le (by omega)]
    exact be_putB' n z hz
  unfold numP
  rw [if_pos hok, hv, List.drop_append_of_le_length (by omega), List.drop_of_length_le (by omega), List.nil_append]
theorem numP_in {z : Nat} (hz : Sz z) {n : Int} (h0 : 0 ≤ n) (h1 : n < 2 ^ (8 * z)) (R : List UInt8) : numP z (putB n z z ++ R) = some (n, R) := by
  rw [numP_put hz, Int.emod_eq_of_lt h0 h1]
theorem numP_out {z : Nat} (hz : Sz z) {L R : List UInt8} {n : Int} (h : numP z L = some (n, R)) : L = putB n z z ++ R ∧ 0 ≤ n ∧ n < 2 ^ (8 * z) := by
  unfold numP at h
  split at h
  · rename_i hok
    injection h with h
    injection h with h1 h2
    have hl : z ≤ L.length := by
      unfold numOk at hok
      simp only [Bool.and_eq_true, decide_eq_true_eq] at hok
      omega
    have hA : (L.take z).length = z := by rw [List.length_take]; omega
    have hv : numV L false z = be (L.take z) := by unfold numV; rw [if_pos hok, Int.toNat_natCast]
    have hb := be_bd (L.take z)
    rw [hA] at hb
    have hp : (256 : Int) ^ z = 2 ^ (8 * z) := by rcases hz with rfl | rfl | rfl <;> rfl
    rw [hp, ← hv, h1] at hb
    refine ⟨?_, hb.1, hb.2⟩
    rw [← h1, hv, putB_be hz hA, ← h2, List.take_append_drop]
  · cases h

/-- A text with its end. -/
def strP (s : ByteArray) : List UInt8 := s.data.toList ++ [0]
theorem strB_p (b : List UInt8) (s : ByteArray) : strB b s = b ++ strP s := by unfold strB strP; rw [List.append_assoc]
theorem textQ_in {s : ByteArray} (h : cleanB s = true) (R : List UInt8) : textQ (strP s ++ R) = some (s, R) := by
  obtain ⟨h1, h2, h3⟩ := text_app s.data.toList R (clean_mem h)
  have e : strP s ++ R = s.data.toList ++ 0 :: R := by unfold strP; rw [List.append_assoc]; rfl
  rw [e]
  unfold textQ
  rw [if_pos h1, h2, h3, strOf_data]
theorem textQ_out {L R : List UInt8} {s : ByteArray} (h : textQ L = some (s, R)) : L = strP s ++ R ∧ cleanB s = true := by
  unfold textQ at h
  split at h
  · rename_i hok
    injection h with h
    injection h with h1 h2
    obtain ⟨A, T, rfl, hA⟩ := text_split hok
    obtain ⟨t1, t2, t3⟩ := text_app A T hA
    rw [t2] at h1
    rw [t3] at h2
    subst h1 h2
    refine ⟨?_, ?_⟩
    · unfold strP
      rw [data_strOf, List.append_assoc]
      rfl
    · unfold cleanB
      rw [data_strOf]
      simpa using hA
  · cases h

/-- Numbers one behind the other. -/
def numsC (z : Nat) (l : List Int) : List UInt8 := l.flatMap fun n => putB n z z
theorem numsP_in {z : Nat} (hz : Sz z) : ∀ (l : List Int) (R : List UInt8), (∀ n ∈ l, 0 ≤ n ∧ n < 2 ^ (8 * z)) → numsP z l.length (numsC z l ++ R) = some (l, R)
  | [], R, _ => rfl
  | n :: l, R, h => by
    have hn := h n (by simp)
    have e : numsC z (n :: l) ++ R = putB n z z ++ (numsC z l ++ R) := by simp [numsC]
    rw [e, List.length_cons, numsP, numP_in hz hn.1 hn.2]
    show (numsP z l.length (numsC z l ++ R)).bind _ = _
    rw [numsP_in hz l R (fun m hm => h m (by simp [hm]))]
    rfl
theorem numsP_out {z : Nat} (hz : Sz z) : ∀ (n : Nat) (L R : List UInt8) (l : List Int), numsP z n L = some (l, R) → L = numsC z l ++ R ∧ l.length = n ∧ ∀ m ∈ l, 0 ≤ m ∧ m < 2 ^ (8 * z)
  | 0, L, R, l, h => by
    injection h with h
    injection h with h1 h2
    subst h1 h2
    exact ⟨rfl, rfl, fun m hm => by cases hm⟩
  | n + 1, L, R, l, h => by
    obtain ⟨⟨a, L1⟩, e1, h⟩ := bindQ_some h
    obtain ⟨⟨b, L2⟩, e2, h⟩ := bindQ_some h
    injection h with h
    injection h with h1 h2
    obtain ⟨q1, q2, q3⟩ := numP_out hz e1
    obtain ⟨k1, k2, k3⟩ := numsP_out hz n _ _ _ e2
    dsimp only at h1 h2 k1
    subst h1 h2
    refine ⟨?_, by rw [List.length_cons, k2], fun m hm => ?_⟩
    · rw [q1, k1]
      simp [numsC]
    · rcases List.mem_cons.1 hm with rfl | hm
      · exact ⟨q2, q3⟩
      · exact k3 m hm
/-- A list with its size ahead. -/
def listC (z : Nat) (l : List Int) : List UInt8 := putB l.length 2 2 ++ numsC z l
theorem listQ_in {z : Nat} (hz : Sz z) (l : List Int) (R : List UInt8) (hl : l.length ≤ 65535) (h : ∀ n ∈ l, 0 ≤ n ∧ n < 2 ^ (8 * z)) : listQ z (listC z l ++ R) = some (l, R) := by
  unfold listQ listC
  rw [List.append_assoc, numP_in (.inr (.inl rfl)) (by omega) (by show (l.length : Int) < 65536; omega)]
  show numsP z ((l.length : Int)).toNat _ = _
  rw [Int.toNat_natCast]
  exact numsP_in hz l R h
theorem listQ_out {z : Nat} (hz : Sz z) {L R : List UInt8} {l : List Int} (h : listQ z L = some (l, R)) : L = listC z l ++ R ∧ l.length ≤ 65535 ∧ ∀ m ∈ l, 0 ≤ m ∧ m < 2 ^ (8 * z) := by
  unfold listQ at h
  obtain ⟨⟨a, L1⟩, e1, h⟩ := bindQ_some h
  obtain ⟨q1, q2, q3⟩ := numP_out (.inr (.inl rfl)) e1
  obtain ⟨k1, k2, k3⟩ := numsP_out hz _ _ _ _ h
  dsimp only at k1 k2
  have q3' : a < 65536 := q3
  refine ⟨?_, by omega, k3⟩
  unfold listC
  rw [q1, k1, List.append_assoc, show (l.length : Int) = a by omega]
theorem listB_c (b : List UInt8) (l : List Int) {z : Nat} (hz : Sz z) (hl : l.length ≤ 65535) (h : ∀ n ∈ l, 0 ≤ n ∧ n < 2 ^ (8 * z)) : listB b l z = b ++ listC z l := by
  have hr : ∀ n : Int, 0 ≤ n → n < 2 ^ (8 * z) → rightB n (z : Int) = true := by
    intro n h0 h1
    rcases hz with rfl | rfl | rfl <;> (simp [rightB, sizedB] at h1 ⊢; omega)
  have hf : ∀ (l : List Int) (b : List UInt8), (∀ n ∈ l, 0 ≤ n ∧ n < 2 ^ (8 * z)) → l.foldl (fun b n => putV b n z) b = b ++ numsC z l := by
    intro l
    induction l with
    | nil => intro b _; simp [numsC]
    | cons n l ih =>
      intro b h
      have hn := h n (by simp)
      rw [List.foldl_cons, putV_right (hr n hn.1 hn.2), ih _ (fun m hm => h m (by simp [hm]))]
      simp [numsC]
  unfold listB listC
  have e2 : putV b l.length 2 = b ++ putB l.length 2 2 := putV_right (z := 2) (rightB_2 (by omega) (by omega))
  rw [e2, hf l _ h, List.append_assoc]

/-- A value, as bytes. -/
def cellC (c : CeV) : List UInt8 := if c.null then putB 4294967295 4 4 else putB c.bytes.length 4 4 ++ c.bytes
def rightC (c : CeV) : Prop := (c.null = true → c.bytes = []) ∧ c.bytes.length < 4294967295
theorem takeP_in (A R : List UInt8) : takeP (A.length : Int) (A ++ R) = some (A, R) := by
  have hok : takeOk (A ++ R) false (A.length : Int) = true := by
    unfold takeOk
    simp
    omega
  unfold takeP
  rw [if_pos hok]
  unfold takeV
  rw [if_pos hok, Int.toNat_natCast, List.take_append_of_le_length (Nat.le_refl _), List.take_of_length_le (Nat.le_refl _), List.drop_append_of_le_length (Nat.le_refl _), List.drop_of_length_le (Nat.le_refl _), List.nil_append]
theorem takeP_out {n : Int} {L A R : List UInt8} (h : takeP n L = some (A, R)) : L = A ++ R ∧ (A.length : Int) = n := by
  unfold takeP at h
  split at h
  · rename_i hok
    injection h with h
    injection h with h1 h2
    unfold takeV at h1
    rw [if_pos hok] at h1
    unfold takeOk at hok
    simp only [Bool.and_eq_true, decide_eq_true_eq] at hok
    subst h1 h2
    refine ⟨(List.take_append_drop _ _).symm, ?_⟩
    rw [List.length_take]
    omega
  · cases h
theorem cellP_in (c : CeV) (R : List UInt8) (h : rightC c) : cellP (cellC c ++ R) = some (c, R) := by
  obtain ⟨nl, bs⟩ := c
  obtain ⟨h1, h2⟩ := h
  dsimp only at h1 h2
  unfold cellP cellC
  cases nl with
  | true =>
    have hb := h1 rfl
    subst hb
    dsimp only
    rw [if_pos rfl, numP_in (.inr (.inr rfl)) (by omega) (by show (4294967295 : Int) < 4294967296; omega)]
    rfl
  | false =>
    dsimp only
    rw [if_neg Bool.false_ne_true, List.append_assoc, numP_in (.inr (.inr rfl)) (by omega) (by show (bs.length : Int) < 4294967296; omega)]
    show (if ((bs.length : Nat) : Int) = 4294967295 then _ else _) = _
    rw [if_neg (by omega), takeP_in]
    rfl
theorem cellP_out {L R : List UInt8} {c : CeV} (h : cellP L = some (c, R)) : L = cellC c ++ R ∧ rightC c := by
  unfold cellP at h
  obtain ⟨⟨a, L1⟩, e1, h⟩ := bindQ_some h
  obtain ⟨q1, q2, q3⟩ := numP_out (.inr (.inr rfl)) e1
  have q3' : a < 4294967296 := q3
  dsimp only at h
  split at h
  · rename_i ha
    injection h with h
    injection h with h1 h2
    subst h1 h2 ha
    refine ⟨?_, fun _ => rfl, by decide⟩
    rw [q1]
    rfl
  · rename_i ha
    obtain ⟨⟨b, L2⟩, e2, h⟩ := bindQ_some h
    injection h with h
    injection h with h1 h2
    obtain ⟨k1, k2⟩ := takeP_out e2
    dsimp only at h1 h2
    subst h1 h2
    refine ⟨?_, (fun e => by cases e), by show b.length < _; omega⟩
    unfold cellC
    rw [if_neg Bool.false_ne_true, q1, k1, List.append_assoc]
    show _ = putB ((b.length : Nat) : Int) 4 4 ++ _
    rw [k2]
def cellsC (l : List CeV) : List UInt8 := l.flatMap cellC
theorem cellsP_in : ∀ (l : List CeV) (R : List UInt8), (∀ c ∈ l, rightC c) → cellsP l.length (cellsC l ++ R) = some (l, R)
  | [], R, _ => rfl
  | c :: l, R, h => by
    have e : cellsC (c :: l) ++ R = cellC c ++ (cellsC l ++ R) := by simp [cellsC]
    rw [e, List.length_cons, cellsP, cellP_in c _ (h c (by simp))]
    show (cellsP l.length (cellsC l ++ R)).bind _ = _
    rw [cellsP_in l R (fun m hm => h m (by simp [hm]))]
    rfl
theorem cellsP_out : ∀ (n : Nat) (L R : List UInt8) (l : List CeV), cellsP n L = some (l, R) → L = cellsC l ++ R ∧ l.length = n ∧ ∀ c ∈ l, rightC c
  | 0, L, R, l, h => by
    injection h with h
    injection h with h1 h2
    subst h1 h2
    exact ⟨rfl, rfl, fun m hm => by cases hm⟩
  | n + 1, L, R, l, h => by
    obtain ⟨⟨a, L1⟩, e1, h⟩ := bindQ_some h
    obtain ⟨⟨b, L2⟩, e2, h⟩ := bindQ_some h
    injection h with h
    injection h with h1 h2
    obtain ⟨q1, q2⟩ := cellP_out e1
    obtain ⟨k1, k2, k3⟩ := cellsP_out n _ _ _ e2
    dsimp only at h1 h2 k1
    subst h1 h2
    refine ⟨?_, by rw [List.length_cons, k2], fun m hm => ?_⟩
    · rw [q1, k1]
      simp [cellsC]
    · rcases List.mem_cons.1 hm with rfl | hm
      · exact q2
      · exact k3 m hm
def rowC (l : List CeV) : List UInt8 := putB l.length 2 2 ++ cellsC l
theorem rowQ_in (l : List CeV) (R : List UInt8) (hl : l.length ≤ 65535) (h : ∀ c ∈ l, rightC c) : rowQ (rowC l ++ R) = some (l, R) := by
  unfold rowQ rowC
  rw [List.append_assoc, numP_in (.inr (.inl rfl)) (by omega) (by show (l.length : Int) < 65536; omega)]
  show cellsP ((l.length : Int)).toNat _ = _
  rw [Int.toNat_natCast]
  exact cellsP_in l R h
theorem rowQ_out {L R : List UInt8} {l : List CeV} (h : rowQ L = some (l, R)) : L = rowC l ++ R ∧ l.length ≤ 65535 ∧ ∀ c ∈ l, rightC c := by
  unfold rowQ at h
  obtain ⟨⟨a, L1⟩, e1, h⟩ := bindQ_some h
  obtain ⟨q1, q2, q3⟩ := numP_out (.inr (.inl rfl)) e1
  obtain ⟨k1, k2, k3⟩ := cellsP_out _ _ _ _ h
  dsimp only at k1 k2
  have q3' : a < 65536 := q3
  refine ⟨?_, by omega, k3⟩
  unfold rowC
  rw [q1, k1, List.append_assoc, show (l.length : Int) = a by omega]
theorem rowB_c (b : List UInt8) (l : List CeV) (hl : l.length ≤ 65535) (h : ∀ c ∈ l, rightC c) : rowB b l = b ++ rowC l := by
  have hf : ∀ (l : List CeV) (b : List UInt8), (∀ c ∈ l, rightC c) → l.foldl cellB b = b ++ cellsC l := by
    intro l
    induction l with
    | nil => intro b _; simp [cellsC]
    | cons c l ih =>
      intro b h
      have hc := h c (by simp)
      have e : cellB b c = b ++ cellC c := by
        unfold cellB cellC
        split
        · exact putV_right (z := 4) (rightB_4 (by omega) (by omega))
        · have e4 : putV b c.bytes.length 4 = b ++ putB c.bytes.length 4 4 := putV_right (z := 4) (rightB_4 (by omega) (by have := hc.2; omega))
          rw [e4, List.append_assoc]
      rw [List.foldl_cons, e, ih _ (fun m hm => h m (by simp [hm]))]
      simp [cellsC]
  unfold rowB rowC
  have e2 : putV b l.length 2 = b ++ putB l.length 2 2 := putV_right (z := 2) (rightB_2 (by omega) (by omega))
  rw [e2, hf l _ h, List.append_assoc]

end Go.Proofs.Ytldjfmddjbdciaa
