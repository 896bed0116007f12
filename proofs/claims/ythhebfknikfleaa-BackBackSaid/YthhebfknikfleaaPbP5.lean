/-
  Ground: BbB, NumB, NumE, FoM, FoN.
-/
import Derived.Test.YthhebfknikfleaaPbP4
import Derived.Test.YthhebfknikfleaaPbP1
import Derived.Test.YthhebfknikfleaaPbP2
/-
  Messages of servers (layer 7): plain laws: what was made is read, what is read has just these bytes; Decode as a plain law.
-/
namespace Go.Proofs.Ythhebfknikfleaa
open Go.RowKit
set_option linter.unusedVariables false
set_option linter.unusedSimpArgs false

/-- A column that may be; its bytes. -/
structure RightCo (c : CoV) : Prop where
  n : cleanB c.name = true
  t : 0 ≤ c.table ∧ c.table < 4294967296
  a : 0 ≤ c.attr ∧ c.attr < 65536
  o : 0 ≤ c.oid ∧ c.oid < 4294967296
  s : -32768 ≤ c.size ∧ c.size < 32768
  m : -2147483648 ≤ c.mod ∧ c.mod < 2147483648
  f : 0 ≤ c.format ∧ c.format < 65536
def colC (c : CoV) : List UInt8 := strP c.name ++ (putB c.table 4 4 ++ (putB c.attr 2 2 ++ (putB c.oid 4 4 ++ (putB c.size 2 2 ++ (putB c.mod 4 4 ++ putB c.format 2 2)))))
theorem right4 {n : Int} (h0 : -2147483648 ≤ n) (h1 : n < 4294967296) : rightB n (4 : Nat) = true := by simp [rightB, sizedB]; omega
theorem right2 {n : Int} (h0 : -32768 ≤ n) (h1 : n < 65536) : rightB n (2 : Nat) = true := by simp [rightB, sizedB]; omega
theorem colW_c (b : List UInt8) {c : CoV} (h : RightCo c) : colW b c = b ++ colC c := by
  obtain ⟨h1, h2, h3, h4, h5, h6, h7⟩ := h
  have p4 : ∀ (b : List UInt8) (n : Int), -2147483648 ≤ n → n < 4294967296 → putV b n 4 = b ++ putB n 4 4 := fun b n q1 q2 => putV_right (z := 4) (right4 q1 q2)
  have p2 : ∀ (b : List UInt8) (n : Int), -32768 ≤ n → n < 65536 → putV b n 2 = b ++ putB n 2 2 := fun b n q1 q2 => putV_right (z := 2) (right2 q1 q2)
  unfold colW colC
  rw [p2 _ _ (by omega) (by omega), p4 _ _ (by omega) (by omega), p2 _ _ (by omega) (by omega), p4 _ _ (by omega) (by omega), p2 _ _ (by omega) (by omega), p4 _ _ (by omega) (by omega), strB_p]
  simp only [List.append_assoc]
theorem signed2_back {n : Int} (h0 : -32768 ≤ n) (h1 : n < 32768) : signedV (n % 2 ^ (8 * 2)) 2 = n := by
  unfold signedV
  have hs : sizedB 2 = true := by decide
  rw [hs]
  have e1 : (2 : Int) ^ (8 * (2 : Int).toNat) = 65536 := by decide
  have e2 : (2 : Int) ^ (8 * 2) = 65536 := by decide
  rw [e1, e2]
  simp only [true_and]
  split <;> omega
theorem signed4_in (n : Int) (h0 : 0 ≤ n) (h1 : n < 4294967296) : -2147483648 ≤ signedV n 4 ∧ signedV n 4 < 2147483648 := by
  unfold signedV
  have hs : sizedB 4 = true := by decide
  rw [hs]
  have e1 : (2 : Int) ^ (8 * (4 : Int).toNat) = 4294967296 := by decide
  rw [e1]
  simp only [true_and]
  split <;> omega
theorem signed2_in (n : Int) (h0 : 0 ≤ n) (h1 : n < 65536) : -32768 ≤ signedV n 2 ∧ signedV n 2 < 32768 := by
  unfold signedV
  have hs : sizedB 2 = true := by decide
  rw [hs]
  have e1 : (2 : Int) ^ (8 * (2 : Int).toNat) = 65536 := by decide
  rw [e1]
  simp only [true_and]
  split <;> omega
theorem put_signed4 {m : Int} (h0 : 0 ≤ m) (h1 : m < 4294967296) : putB (signedV m 4) 4 4 = putB m 4 4 := by
  have e1 : (2 : Int) ^ (8 * (4 : Int).toNat) = 4294967296 := by decide
  have hq : (signedV m 4) % 4294967296 = m % 4294967296 := by
    unfold signedV
    rw [e1]
    split <;> omega
  unfold putB
  congr 1
  funext j
  unfold putAt
  rw [hq]
theorem put_signed2 {m : Int} (h0 : 0 ≤ m) (h1 : m < 65536) : putB (signedV m 2) 2 2 = putB m 2 2 := by
  have e1 : (2 : Int) ^ (8 * (2 : Int).toNat) = 65536 := by decide
  have hq : (signedV m 2) % 65536 = m % 65536 := by
    unfold signedV
    rw [e1]
    split <;> omega
  have hj : ∀ j, j < 2 → putAt (signedV m 2) 2 j = putAt m 2 j := by
    intro j hj
    apply UInt8.toNat_inj.1
    have a1 := putAt_shr (signedV m 2) 2 j (by omega) hj
    have a2 := putAt_shr m 2 j (by omega) hj
    have : j = 0 ∨ j = 1 := by omega
    rcases this with rfl | rfl <;> (simp at a1 a2; omega)
  unfold putB
  simp only [List.range_succ, List.range_zero, List.nil_append, List.map_append, List.map_cons, List.map_nil, hj 0 (by omega), hj 1 (by omega)]
theorem coRd_in {c : CoV} (h : RightCo c) (R : List UInt8) : coRd (colC c ++ R) = some (c, R) := by
  obtain ⟨h1, h2, h3, h4, h5, h6, h7⟩ := h
  obtain ⟨n, t, a, o, s, m, f⟩ := c
  dsimp only at *
  unfold colC
  simp only [List.append_assoc]
  unfold coRd
  rw [textQ_in h1]
  show cp2 n _ = _
  unfold cp2
  rw [numP_in (.inr (.inr rfl)) h2.1 h2.2]
  show cp3 n t _ = _
  unfold cp3
  rw [numP_in (.inr (.inl rfl)) h3.1 h3.2]
  show cp4 n t a _ = _
  unfold cp4
  rw [numP_in (.inr (.inr rfl)) h4.1 h4.2]
  show cp5 n t a o _ = _
  unfold cp5
  rw [numP_put (.inr (.inl rfl))]
  show cp6 n t a o (s % 2 ^ (8 * 2)) _ = _
  unfold cp6
  rw [numP_put (.inr (.inr rfl))]
  show cp7 n t a o (s % 2 ^ (8 * 2)) (m % 2 ^ (8 * 4)) _ = _
  unfold cp7
  rw [numP_in (.inr (.inl rfl)) h7.1 h7.2, signed2_back h5.1 h5.2, signed_back h6.1 h6.2]
  rfl
theorem coRd_out {L R : List UInt8} {c : CoV} (h : coRd L = some (c, R)) : L = colC c ++ R ∧ RightCo c := by
  unfold coRd cp2 cp3 cp4 cp5 cp6 cp7 at h
  obtain ⟨⟨n, L1⟩, e1, h⟩ := bindQ_some h
  obtain ⟨⟨t, L2⟩, e2, h⟩ := bindQ_some h
  obtain ⟨⟨a, L3⟩, e3, h⟩ := bindQ_some h
  obtain ⟨⟨o, L4⟩, e4, h⟩ := bindQ_some h
  obtain ⟨⟨s, L5⟩, e5, h⟩ := bindQ_some h
  obtain ⟨⟨m, L6⟩, e6, h⟩ := bindQ_some h
  obtain ⟨⟨f, L7⟩, e7, h⟩ := bindQ_some h
  injection h with h; injection h with h h'
  dsimp only at h h' e2 e3 e4 e5 e6 e7
  subst h h'
  obtain ⟨q1, k1⟩ := textQ_out e1
  obtain ⟨q2, k2, l2⟩ := numP_out (.inr (.inr rfl)) e2
  obtain ⟨q3, k3, l3⟩ := numP_out (.inr (.inl rfl)) e3
  obtain ⟨q4, k4, l4⟩ := numP_out (.inr (.inr rfl)) e4
  obtain ⟨q5, k5, l5⟩ := numP_out (.inr (.inl rfl)) e5
  obtain ⟨q6, k6, l6⟩ := numP_out (.inr (.inr rfl)) e6
  obtain ⟨q7, k7, l7⟩ := numP_out (.inr (.inl rfl)) e7
  refine ⟨?_, k1, ⟨k2, l2⟩, ⟨k3, l3⟩, ⟨k4, l4⟩, signed2_in _ k5 l5, signed4_in _ k6 l6, ⟨k7, l7⟩⟩
  unfold colC
  dsimp only
  rw [put_signed2 k5 l5, put_signed4 k6 l6]
  simp only [List.append_assoc]
  rw [q1, q2, q3, q4, q5, q6, q7]

def colsC (l : List CoV) : List UInt8 := l.flatMap colC
theorem colsP_in : ∀ (l : List CoV) (R : List UInt8), (∀ c ∈ l, RightCo c) → manyP coRd l.length (colsC l ++ R) = some (l, R)
  | [], R, _ => rfl
  | c :: l, R, h => by
    have e : colsC (c :: l) ++ R = colC c ++ (colsC l ++ R) := by simp [colsC]
    rw [e, List.length_cons, manyP, coRd_in (h c (by simp))]
    show (manyP coRd l.length (colsC l ++ R)).bind _ = _
    rw [colsP_in l R (fun m hm => h m (by simp [hm]))]
    rfl
theorem colsP_out : ∀ (n : Nat) (L R : List UInt8) (l : List CoV), manyP coRd n L = some (l, R) → L = colsC l ++ R ∧ l.length = n ∧ ∀ c ∈ l, RightCo c
  | 0, L, R, l, h => by
    injection h with h
    injection h with h1 h2
    subst h1 h2
    exact ⟨rfl, rfl, fun m hm => by cases hm⟩
  | n + 1, L, R, l, h => by
    obtain ⟨⟨a, L1⟩, e1, h⟩ := bindQ_some h
    obtain ⟨⟨b, L2⟩, e2, h⟩ := bindQ_some h
    injection h with h
    injection h with h1 h2
    obtain ⟨q1, q2⟩ := coRd_out e1
    obtain ⟨k1, k2, k3⟩ := colsP_out n _ _ _ e2
    dsimp only at h1 h2 k1
    subst h1 h2
    refine ⟨?_, by rw [List.length_cons, k2], fun m hm => ?_⟩
    · rw [q1, k1]
      simp [colsC]
    · rcases List.mem_cons.1 hm with rfl | hm
      · exact q2
      · exact k3 m hm
def colLC (l : List CoV) : List UInt8 := putB l.length 2 2 ++ colsC l
theorem colQ_in (l : List CoV) (R : List UInt8) (hl : l.length ≤ 65535) (h : ∀ c ∈ l, RightCo c) : countP coRd (colLC l ++ R) = some (l, R) := by
  unfold countP colLC
  rw [List.append_assoc, numP_in (.inr (.inl rfl)) (by omega) (by show (l.length : Int) < 65536; omega)]
  show manyP coRd ((l.length : Int)).toNat _ = _
  rw [Int.toNat_natCast]
  exact colsP_in l R h
theorem colQ_out {L R : List UInt8} {l : List CoV} (h : countP coRd L = some (l, R)) : L = colLC l ++ R ∧ l.length ≤ 65535 ∧ ∀ c ∈ l, RightCo c := by
  unfold countP at h
  obtain ⟨⟨a, L1⟩, e1, h⟩ := bindQ_some h
  obtain ⟨q1, q2, q3⟩ := numP_out (.inr (.inl rfl)) e1
  obtain ⟨k1, k2, k3⟩ := colsP_out _ _ _ _ h
  dsimp only at k1 k2
  have q3' : a < 65536 := q3
  refine ⟨?_, by omega, k3⟩
  unfold colLC
  rw [q1, k1, List.append_assoc, show (l.length : Int) = a by omega]
theorem colL_c (b : List UInt8) (l : List CoV) (hl : l.length ≤ 65535) (h : ∀ c ∈ l, RightCo c) : l.foldl colW (putV b l.length 2) = b ++ colLC l := by
  have hf : ∀ (l : List CoV) (b : List UInt8), (∀ c ∈ l, RightCo c) → l.foldl colW b = b ++ colsC l := by
    intro l
    induction l with
    | nil => intro b _; simp [colsC]
    | cons c l ih =>
      intro b h
      rw [List.foldl_cons, colW_c b (h c (by simp)), ih _ (fun m hm => h m (by simp [hm]))]
      simp [colsC]
  unfold colLC
  have e2 : putV b l.length 2 = b ++ putB l.length 2 2 := putV_right (z := 2) (rightB_2 (by omega) (by omega))
  rw [e2, hf l _ h, List.append_assoc]

/-- A field that may be; its bytes. -/
def RightFd (f : FdV) : Prop := f.code ≠ 0 ∧ (0 ≤ f.code ∧ f.code < 256) ∧ cleanB f.text = true
def fieldC (f : FdV) : List UInt8 := putB f.code 1 1 ++ strP f.text
def fieldsC (l : List FdV) : List UInt8 := l.flatMap fieldC
theorem zero_put : ([0] : List UInt8) = putB 0 1 1 := by decide
theorem fieldsP_in : ∀ (l : List FdV) (R : List UInt8), (∀ f ∈ l, RightFd f) → fieldsP (fieldsC l ++ (putB 0 1 1 ++ R)) = some (l, R)
  | [], R, _ => fieldsP_end (numP_in (.inl rfl) (by omega) (by decide) R)
  | f :: l, R, h => by
    obtain ⟨h1, h2, h3⟩ := h f (by simp)
    have e : fieldsC (f :: l) ++ (putB 0 1 1 ++ R) = putB f.code 1 1 ++ (strP f.text ++ (fieldsC l ++ (putB 0 1 1 ++ R))) := by simp [fieldsC, fieldC]
    rw [e, fieldsP_more h1 (numP_in (.inl rfl) h2.1 h2.2 _) (textQ_in h3 _), fieldsP_in l R (fun m hm => h m (by simp [hm]))]
    rfl
theorem fieldsQ_out : ∀ (n : Nat) (L R : List UInt8) (l : List FdV), fieldsQ n L = some (l, R) → L = fieldsC l ++ (putB 0 1 1 ++ R) ∧ ∀ f ∈ l, RightFd f
  | 0, L, R, l, h => by cases h
  | n + 1, L, R, l, h => by
    unfold fieldsQ at h
    obtain ⟨⟨x, L1⟩, e1, h⟩ := bindQ_some h
    obtain ⟨q1, q2, q3⟩ := numP_out (.inl rfl) e1
    dsimp only at h
    split at h
    · rename_i hx
      injection h with h
      injection h with h1 h2
      subst h1 h2 hx
      exact ⟨by rw [q1]; rfl, fun f hf => by cases hf⟩
    · rename_i hx
      obtain ⟨⟨t, L2⟩, e2, h⟩ := bindQ_some h
      obtain ⟨⟨r, L3⟩, e3, h⟩ := bindQ_some h
      injection h with h
      injection h with h1 h2
      dsimp only at h1 h2 e2 e3
      obtain ⟨k1, k2⟩ := textQ_out e2
      obtain ⟨j1, j2⟩ := fieldsQ_out n _ _ _ e3
      subst h1 h2
      refine ⟨?_, fun f hf => ?_⟩
      · rw [q1, k1, j1]
        simp [fieldsC, fieldC]
      · rcases List.mem_cons.1 hf with rfl | hf
        · exact ⟨hx, ⟨q2, q3⟩, k2⟩
        · exact j2 f hf
theorem fieldsP_out {L R : List UInt8} {l : List FdV} (h : fieldsP L = some (l, R)) : L = fieldsC l ++ (putB 0 1 1 ++ R) ∧ ∀ f ∈ l, RightFd f := fieldsQ_out _ _ _ _ h
theorem fieldL_c (b : List UInt8) (l : List FdV) (h : ∀ f ∈ l, RightFd f) : l.foldl fieldW b ++ [0] = b ++ (fieldsC l ++ putB 0 1 1) := by
  have hf : ∀ (l : List FdV) (b : List UInt8), (∀ f ∈ l, RightFd f) → l.foldl fieldW b = b ++ fieldsC l := by
    intro l
    induction l with
    | nil => intro b _; simp [fieldsC]
    | cons f l ih =>
      intro b h
      obtain ⟨h1, h2, h3⟩ := h f (by simp)
      have e : fieldW b f = b ++ fieldC f := by
        unfold fieldW fieldC
        rw [strB_p, byte_put h2.1 h2.2, List.append_assoc]
      rw [List.foldl_cons, e, ih _ (fun m hm => h m (by simp [hm]))]
      simp [fieldsC]
  rw [hf l b h, zero_put, List.append_assoc]

theorem coEq_same (a b : CoV) (h : coEq a b = true) : a = b := by
  obtain ⟨a1, a2, a3, a4, a5, a6, a7⟩ := a
  obtain ⟨c1, c2, c3, c4, c5, c6, c7⟩ := b
  unfold coEq at h
  simp only [Bool.and_eq_true, beq_iff_eq] at h
  obtain ⟨h1, h2, h3, h4, h5, h6, h7⟩ := h
  have e := str_same (a := a1) (b := c1) (by simpa using h1)
  subst e h2 h3 h4 h5 h6 h7
  rfl
theorem fdEq_same (a b : FdV) (h : fdEq a b = true) : a = b := by
  obtain ⟨a1, a2⟩ := a
  obtain ⟨c1, c2⟩ := b
  unfold fdEq at h
  simp only [Bool.and_eq_true, beq_iff_eq] at h
  obtain ⟨h1, h2⟩ := h
  have e := str_same (a := a2) (b := c2) (by simpa using h2)
  subst e h1
  rfl
theorem baEq_same {a b : BaV} (h : baEq a b = true) : a = b := by
  unfold baEq headBa textBa at h
  simp only [Bool.and_eq_true] at h
  obtain ⟨⟨h1, h2, h3, h4⟩, ⟨t1, t2, t3⟩, k1, k2, k3, k4⟩ := h
  obtain ⟨ak, a2, a3, an, av, aa, am, ao, ac, ar, af⟩ := a
  obtain ⟨bk, bs, bt, bn, bv, ba, bm, bo, bc, br, bf⟩ := b
  have e1 := str_same t1
  have e2 := str_same t2
  have e3 := str_same t3
  have q1 := listEq_same (fun a b h => by simpa [intsEq] using h) k1
  have q2 := listEq_same coEq_same k2
  have q3 := listEq_same fdEq_same k3
  have q4 := listEq_same ceEq_same k4
  dsimp only at *
  have f1 : ak = bk := by simpa using h1
  have f2 : a2 = bs := by simpa using h2
  have f3 : aa = ba := by simpa using h3
  have f4 : am = bm := by simpa using h4
  subst e1 e2 e3 q1 q2 q3 q4 f1 f2 f3 f4
  rfl
theorem inR_parts {n lo hi : Int} (h : inR n lo hi = true) : lo ≤ n ∧ n < hi + 1 := by
  unfold inR outside at h
  simp at h
  omega
theorem cols_parts {l : List CoV} (h : colsB l = true) : l.length ≤ 65535 ∧ ∀ c ∈ l, RightCo c := by
  unfold colsB at h
  simp only [Bool.and_eq_true, decide_eq_true_eq, Bool.not_eq_true', List.any_eq_false] at h
  refine ⟨h.1, fun c hc => ?_⟩
  have := h.2 c hc
  have hb : colB c = true := by simpa using this
  unfold colB colNums at hb
  simp only [Bool.and_eq_true] at hb
  obtain ⟨h1, h2, h3, h4, h5, h6, h7⟩ := hb
  exact ⟨h1, inR_parts h2, inR_parts h3, inR_parts h4, inR_parts h5, inR_parts h6, inR_parts h7⟩
theorem fields_parts {l : List FdV} (h : fieldsB l = true) : l.length ≤ 65535 ∧ ∀ f ∈ l, f.code ≠ 0 ∧ cleanB f.text = true := by
  unfold fieldsB at h
  simp only [Bool.and_eq_true, decide_eq_true_eq, Bool.not_eq_true', List.any_eq_false] at h
  refine ⟨h.1, fun f hf => ?_⟩
  have := h.2 f hf
  have hb : fieldB f = true := by simpa using this
  unfold fieldB at hb
  simp only [Bool.and_eq_true, Bool.not_eq_true', beq_eq_false_iff_ne, ne_eq] at hb
  exact hb
/-- What holds of a message that may be. -/
structure OkB (x : BaV) : Prop where
  k : servK x.kind = true
  t : cleanB x.tag = true
  n : cleanB x.name = true
  v : cleanB x.value = true
  cols : x.cols.length ≤ 65535 ∧ ∀ c ∈ x.cols, RightCo c
  fields : x.fields.length ≤ 65535 ∧ ∀ f ∈ x.fields, f.code ≠ 0 ∧ cleanB f.text = true
  row : x.row.length ≤ 65535 ∧ ∀ c ∈ x.row, rightC c
  oids : x.oids.length ≤ 65535 ∧ ∀ n ∈ x.oids, 0 ≤ n ∧ n < 2 ^ (8 * 4)
  nn : 0 ≤ x.n ∧ x.n < 4294967296
  mm : 0 ≤ x.m ∧ x.m < 4294967296
  kept : x = keptB x
theorem checkB_ok {x : BaV} (h : checkB x = 0) : OkB x := by
  unfold checkB at h
  split at h
  · rename_i h1
    split at h
    · rename_i h2
      unfold okB textsB listsB numsB7 at h2
      simp only [Bool.and_eq_true] at h2
      obtain ⟨⟨t1, t2, t3⟩, ⟨l1, l2, l3, l4⟩, ⟨n1, n2⟩, _, k⟩ := h2
      exact ⟨h1, t1, t2, t3, cols_parts l1, fields_parts l2, values_parts l3, between_parts l4, inR_parts n1, inR_parts n2, baEq_same k⟩
    · omega
  · omega
/-- The body of each kind in pieces. -/
def bodyBC (x : BaV) : List UInt8 :=
  if x.kind = 82 then putB 0 4 4
  else if x.kind = 83 then strP x.name ++ strP x.value
  else if x.kind = 75 then putB x.n 4 4 ++ putB x.m 4 4
  else if x.kind = 90 then putB x.status 1 1
  else if x.kind = 67 then strP x.tag
  else if x.kind = 68 then rowC x.row
  else if x.kind = 84 then colLC x.cols
  else if x.kind = 116 then listC 4 x.oids
  else if x.kind = 69 ∨ x.kind = 78 then fieldsC x.fields ++ putB 0 1 1
  else []
/-- The bytes of a field's code. -/
def FdsB (x : BaV) : Prop := ∀ f ∈ x.fields, 0 ≤ f.code ∧ f.code < 256
theorem bodyB_c {x : BaV} (h : OkB x) (hs : 0 ≤ x.status ∧ x.status < 256) (hf : FdsB x) : bodyB x = bodyBC x := by
  have p4 : ∀ (b : List UInt8) (n : Int), 0 ≤ n → n < 4294967296 → putV b n 4 = b ++ putB n 4 4 := fun b n q1 q2 => putV_right (z := 4) (right4 (by omega) q2)
  unfold bodyB bodyBC
  split
  · rw [p4 _ _ (by omega) (by omega), List.nil_append]
  split
  · rw [strB_p, strB_p, List.nil_append]
  split
  · rw [p4 _ _ h.mm.1 h.mm.2, p4 _ _ h.nn.1 h.nn.2, List.nil_append]
  split
  · exact byte_put hs.1 hs.2
  split
  · rw [strB_p, List.nil_append]
  split
  · rw [rowB_c _ _ h.row.1 h.row.2, List.nil_append]
  split
  · rw [colL_c _ _ h.cols.1 h.cols.2, List.nil_append]
  split
  · have := listB_c [] x.oids (z := 4) (.inr (.inr rfl)) h.oids.1 h.oids.2
    rw [List.nil_append] at this
    exact this
  split
  · rw [fieldL_c [] x.fields (fun f hm => ⟨(h.fields.2 f hm).1, hf f hm, (h.fields.2 f hm).2⟩), List.nil_append]
  · rfl
/-- What was made is read. -/
theorem readB_body {x : BaV} (hs : 0 ≤ x.status ∧ x.status < 256) (hf : FdsB x) (hc : checkB x = 0) : readB x.kind (bodyB x) = some (x, []) := by
  have h := checkB_ok hc
  rw [bodyB_c h hs hf]
  have hk := h.kept
  unfold keptB at hk
  unfold readB bodyBC
  by_cases e0 : x.kind = 82
  · rw [if_pos e0, if_pos e0]
    have := numP_in (z := 4) (.inr (.inr rfl)) (n := 0) (by omega) (by decide) []
    rw [List.append_nil] at this
    rw [this]
    show (if (0 : Int) = 0 then some (baZero x.kind, ([] : List UInt8)) else none) = some (x, [])
    rw [if_pos rfl]
    rw [if_neg (by omega), if_neg (by omega), if_neg (by omega), if_neg (by omega), if_neg (by omega), if_neg (by omega), if_neg (by omega), if_neg (by omega)] at hk
    exact congrArg (fun y => some (y, [])) hk.symm
  rw [if_neg e0, if_neg e0]
  by_cases e1 : x.kind = 83
  · rw [if_pos e1, if_pos e1, textQ_in h.n]
    show (textQ (strP x.value)).bind _ = _
    have := textQ_in h.v []
    rw [List.append_nil] at this
    rw [this]
    rw [if_pos e1] at hk
    exact congrArg (fun y => some (y, [])) hk.symm
  rw [if_neg e1, if_neg e1]
  rw [if_neg e1] at hk
  by_cases e2 : x.kind = 75
  · rw [if_pos e2, if_pos e2, numP_in (.inr (.inr rfl)) h.nn.1 h.nn.2]
    simp only [Option.bind_some]
    have := numP_in (z := 4) (.inr (.inr rfl)) h.mm.1 h.mm.2 []
    rw [List.append_nil] at this
    rw [this]
    rw [if_pos e2] at hk
    exact congrArg (fun y => some (y, [])) hk.symm
  rw [if_neg e2, if_neg e2]
  rw [if_neg e2] at hk
  by_cases e3 : x.kind = 90
  · rw [if_pos e3, if_pos e3]
    have := numP_in (z := 1) (.inl rfl) hs.1 hs.2 []
    rw [List.append_nil] at this
    rw [this]
    rw [if_pos e3] at hk
    exact congrArg (fun y => some (y, [])) hk.symm
  rw [if_neg e3, if_neg e3]
  rw [if_neg e3] at hk
  by_cases e4 : x.kind = 67
  · rw [if_pos e4, if_pos e4]
    have := textQ_in h.t []
    rw [List.append_nil] at this
    rw [this]
    rw [if_pos e4] at hk
    exact congrArg (fun y => some (y, [])) hk.symm
  rw [if_neg e4, if_neg e4]
  rw [if_neg e4] at hk
  by_cases e5 : x.kind = 68
  · rw [if_pos e5, if_pos e5]
    have := rowQ_in x.row [] h.row.1 h.row.2
    rw [List.append_nil] at this
    rw [this]
    rw [if_pos e5] at hk
    exact congrArg (fun y => some (y, [])) hk.symm
  rw [if_neg e5, if_neg e5]
  rw [if_neg e5] at hk
  by_cases e6 : x.kind = 84
  · rw [if_pos e6, if_pos e6]
    have := colQ_in x.cols [] h.cols.1 h.cols.2
    rw [List.append_nil] at this
    rw [this]
    rw [if_pos e6] at hk
    exact congrArg (fun y => some (y, [])) hk.symm
  rw [if_neg e6, if_neg e6]
  rw [if_neg e6] at hk
  by_cases e7 : x.kind = 116
  · rw [if_pos e7, if_pos e7]
    have := listQ_in (z := 4) (.inr (.inr rfl)) x.oids [] h.oids.1 h.oids.2
    rw [List.append_nil] at this
    rw [this]
    rw [if_pos e7] at hk
    exact congrArg (fun y => some (y, [])) hk.symm
  rw [if_neg e7, if_neg e7]
  rw [if_neg e7] at hk
  by_cases e8 : x.kind = 69 ∨ x.kind = 78
  · rw [if_pos e8, if_pos e8]
    have := fieldsP_in x.fields [] (fun f hm => ⟨(h.fields.2 f hm).1, hf f hm, (h.fields.2 f hm).2⟩)
    rw [List.append_nil] at this
    rw [this]
    rw [if_pos e8] at hk
    exact congrArg (fun y => some (y, [])) hk.symm
  rw [if_neg e8, if_neg e8]
  rw [if_neg e8] at hk
  exact congrArg (fun y => some (y, [])) hk.symm

/-- What was read of a message. -/
structure ReadB (k : Int) (L : List UInt8) (x : BaV) : Prop where
  kind : x.kind = k
  status : 0 ≤ x.status ∧ x.status < 256
  codes : FdsB x
  body : bodyBC x = L
theorem ReadB.zero {k : Int} {x : BaV} {L : List UInt8} (h1 : x.kind = k) (h2 : x.status = 0) (h3 : x.fields = []) (h4 : bodyBC x = L) : ReadB k L x :=
  ⟨h1, by rw [h2]; decide, (fun f hf => by rw [h3] at hf; cases hf), h4⟩
theorem readB_parts {k : Int} {L : List UInt8} {x : BaV} (h : readB k L = some (x, [])) : ReadB k L x := by
  unfold readB at h
  by_cases e0 : k = 82
  · rw [if_pos e0] at h
    obtain ⟨⟨n, L1⟩, e1, h⟩ := bindQ_some h
    obtain ⟨q1, q2, q3⟩ := numP_out (.inr (.inr rfl)) e1
    dsimp only at h
    split at h
    · rename_i hn
      injection h with h; injection h with h h'
      subst h h' hn
      refine ReadB.zero rfl rfl rfl ?_
      unfold bodyBC baZero
      dsimp only
      rw [if_pos e0, q1, List.append_nil]
    · cases h
  rw [if_neg e0] at h
  by_cases e1 : k = 83
  · rw [if_pos e1] at h
    obtain ⟨⟨a, L1⟩, q1, h⟩ := bindQ_some h
    obtain ⟨⟨b, L2⟩, q2, h⟩ := bindQ_some h
    injection h with h; injection h with h h'
    dsimp only at h h' q2
    subst h h'
    refine ReadB.zero rfl rfl rfl ?_
    have k2 := (textQ_out q2).1
    rw [List.append_nil] at k2
    unfold bodyBC baZero
    dsimp only
    rw [if_neg e0, if_pos e1, (textQ_out q1).1, k2]
  rw [if_neg e1] at h
  by_cases e2 : k = 75
  · rw [if_pos e2] at h
    obtain ⟨⟨a, L1⟩, q1, h⟩ := bindQ_some h
    obtain ⟨⟨b, L2⟩, q2, h⟩ := bindQ_some h
    injection h with h; injection h with h h'
    dsimp only at h h' q2
    subst h h'
    refine ReadB.zero rfl rfl rfl ?_
    have k2 := (numP_out (.inr (.inr rfl)) q2).1
    rw [List.append_nil] at k2
    unfold bodyBC baZero
    dsimp only
    rw [if_neg e0, if_neg e1, if_pos e2, (numP_out (.inr (.inr rfl)) q1).1, k2]
  rw [if_neg e2] at h
  by_cases e3 : k = 90
  · rw [if_pos e3] at h
    obtain ⟨⟨a, L1⟩, q1, h⟩ := bindQ_some h
    injection h with h; injection h with h h'
    dsimp only at h h'
    subst h h'
    obtain ⟨k1, k2, k3⟩ := numP_out (.inl rfl) q1
    rw [List.append_nil] at k1
    refine ⟨rfl, ⟨k2, k3⟩, (fun f hf => by cases hf), ?_⟩
    unfold bodyBC baZero
    dsimp only
    rw [if_neg e0, if_neg e1, if_neg e2, if_pos e3, k1]
  rw [if_neg e3] at h
  by_cases e4 : k = 67
  · rw [if_pos e4] at h
    obtain ⟨⟨a, L1⟩, q1, h⟩ := bindQ_some h
    injection h with h; injection h with h h'
    dsimp only at h h'
    subst h h'
    have k1 := (textQ_out q1).1
    rw [List.append_nil] at k1
    refine ReadB.zero rfl rfl rfl ?_
    unfold bodyBC baZero
    dsimp only
    rw [if_neg e0, if_neg e1, if_neg e2, if_neg e3, if_pos e4, k1]
  rw [if_neg e4] at h
  by_cases e5 : k = 68
  · rw [if_pos e5] at h
    obtain ⟨⟨a, L1⟩, q1, h⟩ := bindQ_some h
    injection h with h; injection h with h h'
    dsimp only at h h'
    subst h h'
    have k1 := (rowQ_out q1).1
    rw [List.append_nil] at k1
    refine ReadB.zero rfl rfl rfl ?_
    unfold bodyBC baZero
    dsimp only
    rw [if_neg e0, if_neg e1, if_neg e2, if_neg e3, if_neg e4, if_pos e5, k1]
  rw [if_neg e5] at h
  by_cases e6 : k = 84
  · rw [if_pos e6] at h
    obtain ⟨⟨a, L1⟩, q1, h⟩ := bindQ_some h
    injection h with h; injection h with h h'
    dsimp only at h h'
    subst h h'
    have k1 := (colQ_out q1).1
    rw [List.append_nil] at k1
    refine ReadB.zero rfl rfl rfl ?_
    unfold bodyBC baZero
    dsimp only
    rw [if_neg e0, if_neg e1, if_neg e2, if_neg e3, if_neg e4, if_neg e5, if_pos e6, k1]
  rw [if_neg e6] at h
  by_cases e7 : k = 116
  · rw [if_pos e7] at h
    obtain ⟨⟨a, L1⟩, q1, h⟩ := bindQ_some h
    injection h with h; injection h with h h'
    dsimp only at h h'
    subst h h'
    have k1 := (listQ_out (.inr (.inr rfl)) q1).1
    rw [List.append_nil] at k1
    refine ReadB.zero rfl rfl rfl ?_
    unfold bodyBC baZero
    dsimp only
    rw [if_neg e0, if_neg e1, if_neg e2, if_neg e3, if_neg e4, if_neg e5, if_neg e6, if_pos e7, k1]
  rw [if_neg e7] at h
  by_cases e8 : k = 69 ∨ k = 78
  · rw [if_pos e8] at h
    obtain ⟨⟨a, L1⟩, q1, h⟩ := bindQ_some h
    injection h with h; injection h with h h'
    dsimp only at h h'
    subst h h'
    obtain ⟨k1, k2⟩ := fieldsP_out q1
    rw [List.append_nil] at k1
    refine ⟨rfl, ⟨Int.le_refl 0, show (0 : Int) < 256 by decide⟩, fun f hf => (k2 f hf).2.1, ?_⟩
    unfold bodyBC baZero
    dsimp only
    rw [if_neg e0, if_neg e1, if_neg e2, if_neg e3, if_neg e4, if_neg e5, if_neg e6, if_neg e7, if_pos e8, k1]
  rw [if_neg e8] at h
  injection h with h; injection h with h h'
  subst h h'
  refine ReadB.zero rfl rfl rfl ?_
  unfold bodyBC baZero
  dsimp only
  rw [if_neg e0, if_neg e1, if_neg e2, if_neg e3, if_neg e4, if_neg e5, if_neg e6, if_neg e7, if_neg e8]

/-- Decode: the message and the error. -/
def decB (k : Int) (L : List UInt8) : BaV × Int :=
  if servK k = true then
    match readB k L with
    | some (f, []) => if checkB f = 0 then (f, 0) else (baZero 0, 4)
    | _ => (baZero 0, 4)
  else (baZero 0, 9)
theorem decB_unknown {k : Int} {L : List UInt8} (h : servK k = false) : decB k L = (baZero 0, 9) := by unfold decB; rw [if_neg (by rw [h]; decide)]
theorem decB_bad {k : Int} {L L' : List UInt8} {f : BaV} {b : Bool} (h : servK k = true) (hs : StepO L false (readB k) f L' b) (hb : (!b && L'.isEmpty) = false) : decB k L = (baZero 0, 4) := by
  unfold decB
  rw [if_pos h]
  cases b with
  | true =>
    rcases hs.2.1 rfl with e | e
    · cases e
    · rw [e]
  | false =>
    rw [(hs.1 rfl).2]
    cases L' with
    | nil => cases hb
    | cons x T => rfl
theorem decB_ok {k : Int} {L : List UInt8} {f : BaV} (h : servK k = true) (hs : StepO L false (readB k) f [] false) : decB k L = (if checkB f = 0 then (f, 0) else (baZero 0, 4)) := by
  unfold decB
  rw [if_pos h, (hs.1 rfl).2]
/-- Decode: nothing, or a message that may be, with just these bytes. -/
theorem decB_cases (k : Int) (L : List UInt8) :
    (∃ x, decB k L = (x, 0) ∧ checkB x = 0 ∧ ReadB k L x ∧ bodyB x = L ∧ encB x = (k, L, 0)) ∨ (∃ e, e ≠ 0 ∧ decB k L = (baZero 0, e)) := by
  unfold decB
  split
  · split
    · rename_i f hf
      split
      · rename_i hc
        have hr := readB_parts hf
        have hb : bodyB f = L := by rw [bodyB_c (checkB_ok hc) hr.status hr.codes]; exact hr.body
        refine .inl ⟨f, rfl, hc, hr, hb, ?_⟩
        unfold encB
        rw [if_pos hc, hb, hr.kind]
      · exact .inr ⟨4, by decide, rfl⟩
    · exact .inr ⟨4, by decide, rfl⟩
  · exact .inr ⟨9, by decide, rfl⟩
theorem decB_enc {x : BaV} (hs : 0 ≤ x.status ∧ x.status < 256) (hf : FdsB x) (hc : checkB x = 0) : decB x.kind (bodyB x) = (x, 0) := by
  unfold decB
  rw [if_pos (checkB_ok hc).k, readB_body hs hf hc]
  dsimp only
  rw [if_pos hc]

end Go.Proofs.Ythhebfknikfleaa

/-
  The contracts of package num (layer 1) and of remudaref01: Right, Signed.
-/
namespace Go.Proofs.Ythhebfknikfleaa
open Go.RowKit

theorem signed_any (n size : Int) (w : World) :
    Calls Try.prog 139 #[.int .i64 n, .int .i64 size] w fun e w' => e = .returned (.int .i64 (signedV n size)) ∧ w = w' := by
  by_cases hs : sizedB size = true
  · unfold signedV
    rcases sizedB_cases hs with rfl | rfl | rfl
    all_goals
      clear hs
      go_enter Try.func139, Try.ntmps139
      go_wp2_with (first | (go_at_call 150; refine (sized_any _ _).mono ?_; rintro e w' ⟨rfl, rfl⟩) | (go_at_call 151; refine (span_any _ _ (by omega)).mono ?_; rintro e w' ⟨rfl, rfl⟩))
      all_goals go_ret
      all_goals (simp_all [sizedB]; try omega)
  · have hs' : sizedB size = false := by simpa using hs
    have hr : signedV n size = n := by unfold signedV; rw [hs']; simp
    have Hs := Lib.hid hs'
    have Hr := Lib.hid hr
    clear hs hs' hr
    go_enter Try.func139, Try.ntmps139
    go_wp2_with (first | (go_at_call 150; refine (sized_any _ _).mono ?_; rintro e w' ⟨rfl, rfl⟩; rw [Hs.out]))
    go_ret
    rw [Hr.out]
    exact ⟨rfl, rfl⟩

end Go.Proofs.Ythhebfknikfleaa

/-
  The contract of remudaref01.Put.
-/
namespace Go.Proofs.Ythhebfknikfleaa
open Go.RowKit

theorem pow_int (i : Int) (w : World) (h0 : 0 ≤ i) (h : i ≤ 7) :
    Calls Try.prog 149 #[.int .i64 i] w fun e w' => e = .returned (.int .i64 (256 ^ i.toNat)) ∧ w = w' := by
  obtain ⟨k, rfl⟩ := Int.eq_ofNat_of_zero_le h0
  rw [Int.toNat_natCast]
  exact pow_any k w (by omega)

theorem rightB_bd {n : Int} {z : Nat} (h : rightB n z = true) (hz : z = 1 ∨ z = 2 ∨ z = 4) : -2147483648 ≤ n ∧ n < 4294967296 ∧ 0 ≤ n + 2 ^ (8 * z) := by
  rcases hz with rfl | rfl | rfl <;> simp [rightB, sizedB] at h <;> omega

theorem putAt_div (n n' : Int) (z j : Nat) (hz : z = 1 ∨ z = 2 ∨ z = 4) (hj : j < z) (h : n' = n ∨ n' = n + 2 ^ (8 * z)) :
    ((putAt n z j).toNat : Int) = n' / 256 ^ (z - 1 - j) % 256 := by
  rw [putAt_shr n z j hz hj]
  have : (z = 1 ∧ j = 0) ∨ (z = 2 ∧ j = 0) ∨ (z = 2 ∧ j = 1) ∨ (z = 4 ∧ j = 0) ∨ (z = 4 ∧ j = 1) ∨ (z = 4 ∧ j = 2) ∨ (z = 4 ∧ j = 3) := by omega
  rcases this with ⟨rfl, rfl⟩ | ⟨rfl, rfl⟩ | ⟨rfl, rfl⟩ | ⟨rfl, rfl⟩ | ⟨rfl, rfl⟩ | ⟨rfl, rfl⟩ | ⟨rfl, rfl⟩ <;> simp at * <;> omega

theorem putAt_tmod (n n' : Int) (z j : Nat) (hz : z = 1 ∨ z = 2 ∨ z = 4) (hj : j < z) (h0 : 0 ≤ n') (h : n' = n ∨ n' = n + 2 ^ (8 * z)) :
    ((putAt n z j).toNat : Int) = (n' / 256 ^ (z - 1 - j)).tmod 256 % 256 := by
  have hq : 0 ≤ n' / 256 ^ (z - 1 - j) := Int.ediv_nonneg h0 (by have := pow_bd (z - 1 - j) 7 (by omega) (by omega); omega)
  rw [putAt_div n n' z j hz hj h, Int.tmod_eq_emod_of_nonneg hq]
  omega

set_option maxHeartbeats 1000000 in
theorem putR_any (p : Option Addr) (l : List UInt8) (cap : Nat) (n size : Int) (w : World) (hl : l.length ≤ 1000000000) (hb : BytesIn w p l) :
    Calls Try.prog 114 #[.slice p l.length cap, .int .i64 n, .int .i64 size] w fun e w' =>
      ∃ v, e = .returned v ∧ OwnB w.heap.size w' v (putV l n size) ∧ Below w.heap.size w w' := by
  by_cases hr : rightB n size = true
  · have hs : sizedB size = true := by unfold rightB at hr; simp at hr; exact hr.1
    have hsz := sizedB_cases hs
    obtain ⟨z, rfl⟩ := Int.eq_ofNat_of_zero_le (show 0 ≤ size by omega)
    have hz : z = 1 ∨ z = 2 ∨ z = 4 := by omega
    have hV : putV l n z = l ++ putB n z z := by unfold putV; rw [if_pos hr]; rfl
    have hbd := rightB_bd hr hz
    obtain ⟨n', hn'⟩ : ∃ n', n' = if n < 0 then n + 2 ^ (8 * z) else n := ⟨_, rfl⟩
    have h0 : 0 ≤ n' := by rw [hn']; split <;> omega
    have hor : n' = n ∨ n' = n + 2 ^ (8 * z) := by rw [hn']; split <;> simp
    have hn'hi : n' < 9000000000 := by rcases hz with rfl | rfl | rfl <;> simp at hor <;> omega
    have HV := Lib.hid hV
    have Hr := Lib.hid hr
    have Hb := Lib.hid hb
    have hz1 : 1 ≤ z := by omega
    have hz4 : z ≤ 4 := by omega
    have Hz := Lib.hid hz
    have Hor := Lib.hid hor
    have Hn' := Lib.hid hn'
    have Hsz := Lib.hid hsz
    have hpb : 2 ^ (8 * z) ≤ (4294967296 : Int) := by rcases hz with rfl | rfl | rfl <;> decide
    have hpb0 : (0 : Int) ≤ 2 ^ (8 * z) := by rcases hz with rfl | rfl | rfl <;> decide
    clear hb hr hs hsz hV hz hor hn'
    by_cases hneg : n < 0
    all_goals
      have hn2 : n' = if n < 0 then n + 2 ^ (8 * z) else n := Hn'.out
      simp only [hneg, if_true, if_false] at hn2
      have Hn2 := Lib.hid hn2
      clear hn2
      go_enter Try.func114, Try.ntmps114
      go_wp2_with (first | (at_builtin; refine step_appendB _ rfl _ _ rfl w.heap.size _ [] rfl (OwnB.none _ _) _ l _ rfl Hb.out (by simp; omega) (by simp) ?_; intro v1 w1 hown1 hb1 _) | (go_at_call 148; refine (rightR_any _ _ _).mono ?_; rintro e w' ⟨rfl, rfl⟩; rw [Hr.out]) | (go_at_call 149; refine (pow_size _ _ Hsz.out).mono ?_; rintro e w' ⟨rfl, rfl⟩; rw [Int.toNat_natCast]))
      try rw [← Hn2.out]
      go_loopw [7, 8] (fun v s wr => ∃ j : Nat, j ≤ z ∧ s = .int .i64 ((z : Int) - 1 - j) ∧ OwnB w.heap.size wr v (l ++ putB n z j) ∧ Below w.heap.size w wr) (fun _ s _ => (intOf s + 1).toNat)
      case atStart => exact ⟨0, Nat.zero_le _, by congr 1; omega, by simpa [putB] using hown1, hb1⟩
      case round =>
        obtain ⟨j, hj, rfl, hown, hbw⟩ := hrel
        have Hown := Lib.hid hown
        have Hbw := Lib.hid hbw
        have hbsz := hbw.size
        clear hown hbw hb1 hown1
        by_cases hlt : j < z
        · have e7 : ((z : Int) - 1 - j).toNat = z - 1 - j := by omega
          have E7 := Lib.hid e7
          have hp7 := pow_bd (z - 1 - j) 7 (by omega) (by omega)
          clear e7
          go_wp2_with (first | (go_at_call 149; refine (pow_int _ _ (by omega) (by omega)).mono ?_; rintro e w' ⟨rfl, rfl⟩; rw [E7.out]) | (at_builtin; refine step_appendB _ rfl _ _ rfl w.heap.size _ _ rfl (Hown.out.alloc _) _ [putAt n z j] 1 rfl (BytesIn.new1 _ _ _ _ (putAt_tmod n n' z j Hz.out hlt h0 Hor.out)) (by simp [putB_length]; omega) (by simp; omega) ?_; intro v2 w2 hown2 hb2 _))
          have hbel2 := (Hbw.out.alloc hbsz _).trans hb2
          rw [List.append_assoc, ← putB_succ] at hown2
          go_roundw
          case rel => exact ⟨j + 1, by omega, by congr 1; omega, hown2, hbel2⟩
          case measure => simp [intOf]; omega
        · go_wp2
          go_ret
          obtain rfl : j = z := by omega
          refine ⟨_, rfl, ?_, Hbw.out⟩
          rw [HV.out]; exact Hown.out
  · have hV : putV l n size = l := by unfold putV; rw [if_neg hr]; simp
    have hr' : rightB n size = false := by simpa using hr
    have HV := Lib.hid hV
    have Hr := Lib.hid hr'
    have Hb := Lib.hid hb
    clear hb hr hr' hV
    go_enter Try.func114, Try.ntmps114
    go_wp2_with (first | (at_builtin; refine step_appendB _ rfl _ _ rfl w.heap.size _ [] rfl (OwnB.none _ _) _ l _ rfl Hb.out (by simp; omega) (by simp) ?_; intro v1 w1 hown1 hb1 _) | (go_at_call 148; refine (rightR_any _ _ _).mono ?_; rintro e w' ⟨rfl, rfl⟩; rw [Hr.out]))
    go_ret
    refine ⟨_, rfl, ?_, hb1⟩
    rw [HV.out]; simpa using hown1

end Go.Proofs.Ythhebfknikfleaa

/-
  Messages of clients (layer 6): the document's Str, List and Put.
-/
namespace Go.Proofs.Ythhebfknikfleaa
open Go.RowKit
set_option linter.unusedVariables false
set_option linter.unusedSimpArgs false

/-- Bytes with the first numbers of a list behind them. -/
def listP (b : List UInt8) (l : List Int) (size : Nat) (k : Nat) : List UInt8 := (l.take k).foldl (fun b n => putV b n size) (putV b l.length 2)
theorem listP_succ {b : List UInt8} {l : List Int} {size k : Nat} (hk : k < l.length) : listP b l size (k + 1) = putV (listP b l size k) l[k] size := by
  unfold listP
  rw [List.take_succ_eq_append_getElem hk, List.foldl_append]
  rfl
theorem listP_all (b : List UInt8) (l : List Int) (size : Nat) : listP b l size l.length = listB b l size := by
  unfold listP listB
  rw [List.take_length]
theorem listP_len (b : List UInt8) (l : List Int) (size : Nat) : ∀ k, k ≤ l.length → (listP b l size k).length ≤ b.length + 4 + 4 * k
  | 0, _ => by
    have := putV_len4 b l.length 2
    unfold listP
    simp
    omega
  | k + 1, hk => by
    have ih := listP_len b l size k (by omega)
    rw [listP_succ (by omega)]
    have := putV_len4 (listP b l size k) l[k] size
    omega
/-- Bytes with the first values of a row behind them. -/
def rowP (b : List UInt8) (l : List CeV) (k : Nat) : List UInt8 := (l.take k).foldl cellB (putV b l.length 2)
theorem rowP_succ {b : List UInt8} {l : List CeV} {k : Nat} (hk : k < l.length) : rowP b l (k + 1) = cellB (rowP b l k) l[k] := by
  unfold rowP
  rw [List.take_succ_eq_append_getElem hk, List.foldl_append]
  rfl
theorem rowP_all (b : List UInt8) (l : List CeV) : rowP b l l.length = rowB b l := by
  unfold rowP rowB
  rw [List.take_length]
theorem cellB_len (b : List UInt8) (c : CeV) : (cellB b c).length ≤ b.length + 4 + c.bytes.length := by
  unfold cellB
  split
  · have := putV_len4 b 4294967295 4
    omega
  · have := putV_len4 b c.bytes.length 4
    rw [List.length_append]
    omega
theorem rowP_len (b : List UInt8) (l : List CeV) (m : Nat) (hm : ∀ c ∈ l, c.bytes.length ≤ m) : ∀ k, k ≤ l.length → (rowP b l k).length ≤ b.length + 4 + (m + 4) * k
  | 0, _ => by
    have := putV_len4 b l.length 2
    unfold rowP
    simp
    omega
  | k + 1, hk => by
    have ih := rowP_len b l m hm k (by omega)
    rw [rowP_succ (by omega)]
    have := cellB_len (rowP b l k) l[k]
    have := hm l[k] (List.getElem_mem _)
    rw [Nat.mul_add]
    omega
theorem strB_len (b : List UInt8) (s : ByteArray) : (strB b s).length = b.length + s.size + 1 := by
  unfold strB
  rw [List.length_append, List.length_append, size_data]
  rfl

theorem putV_null (b : List UInt8) : putV b (-1) 4 = putV b 4294967295 4 := by
  unfold putV
  rw [if_pos (by decide), if_pos (by decide)]
  congr 1

theorem bel_drewN1 (w : World) : Below w.heap.size w (w.drewN 1) := ((Touch.refl (fun _ => False) w).drewN 1).below (Nat.le_refl _) (fun _ e => e.elim)

theorem rstr_any (B : Nat) (v : Value) (l : List UInt8) (s : ByteArray) (w : World) (h : OwnBR B w v l) (hB : B ≤ w.heap.size) (hl : l.length ≤ 1000000) (hs : s.size ≤ 1000000) :
    Calls Try.prog 115 #[v, .string s] w fun e w' => ∃ v', e = .returned v' ∧ OwnBR B w' v' (strB l s) ∧ Below B w w' := by
  have H := Lib.hid h
  have hsd : s.data.toList.length ≤ 1000000 := by rw [← size_data]; exact hs
  have hr2 : (l ++ s.data.toList).length + 1 ≤ 3000000 := by rw [List.length_append]; omega
  clear h hs
  go_enter Try.func115, Try.ntmps115
  go_wp2_with (first
    | (at_builtin; refine step_appendStr _ rfl (.tmp 5) (.tmp 6) rfl B v l rfl H.out s rfl (by omega) hB ?_; intro v5 w5 ho5 hg5 hn5; have Ho5 := Lib.hid ho5; have hz5 := hg5.size; have HB5 : Hid (Below B w w5) := Lib.hid (Below.of_row hg5 hB (fun k hk => (H.out.row k hk).1)); clear ho5 hg5 hn5)
    | (at_builtin; refine step_appendBR _ rfl (.tmp 7) (.tmp 8) rfl B v5 _ rfl (Ho5.out.alloc _) (some ⟨w5.heap.size, 0, none⟩) [0] 1 1 rfl rfl (BytesIn.new1 w5 0 0 _ rfl) (by rw [List.length_singleton]; omega) (by rw [World.size_alloc]; omega) ?_; intro v6 w6 ho6 hg6 hn6; have Ho6 := Lib.hid ho6; have HB6 : Hid (Below B w w6) := Lib.hid ((HB5.out.alloc (by omega) _).trans (Below.of_row hg6 (by rw [World.size_alloc]; omega) (fun k hk => (Ho5.out.row k hk).1))); clear ho6 hg6 hn6))
  go_ret
  exact ⟨_, rfl, Ho6.out, HB6.out⟩

set_option maxRecDepth 100000 in
set_option maxHeartbeats 4000000 in
theorem rlist_any (S : Nat → Prop) (p : Option Addr) (l : List UInt8) (cap : Nat) (q : Option Addr) (n c : Nat) (xs : List Int) (z : Int) (zn : Nat) (hz : (zn : Int) = z) (w : World) (hin : BytesIn w p l) (hx : SliceS 1 IntU S w [.slice q n c] xs) (hl : l.length ≤ 100000000) (hxl : xs.length ≤ 1000000) :
    Calls Try.prog 118 #[.slice p l.length cap, .slice q n c, .int .i64 z] w fun e w' => ∃ v', e = .returned v' ∧ OwnBR w.heap.size w' v' (listB l xs zn) ∧ Below w.heap.size w w' := by
  subst hz
  obtain ⟨rfl, hlc, hcm⟩ := hx.len
  unfold maxLen at hcm
  have Hx := Lib.hid hx
  have Hp := Lib.hid (putR_any p l cap (xs.length : Int) 2 w (by omega) hin)
  have Hall := Lib.hid (listP_all l xs zn)
  have Hlen := Lib.hid (fun k hk => listP_len l xs zn k hk)
  clear hx hin
  go_enter Try.func118, Try.ntmps118
  go_wp2_with fail
  refine Hp.out.mono ?_
  rintro e w1 ⟨v1, rfl, ho1, hb1⟩
  have Ho1 : Hid (OwnBR w.heap.size w1 v1 (listP l xs zn 0)) := Lib.hid (OwnBR.of ho1)
  have HB1 := Lib.hid hb1
  clear ho1 hb1 Hp
  go_wp2_with fail
  go_loopw [0, 7] (fun v i wr => ∃ k : Nat, k ≤ xs.length ∧ i = .int .i64 k ∧ OwnBR w.heap.size wr v (listP l xs zn k) ∧ Below w.heap.size w wr) (fun _ i _ => xs.length - (intOf i).toNat)
  case atStart => exact ⟨0, Nat.zero_le _, rfl, Ho1.out, HB1.out⟩
  case round =>
    obtain ⟨k, hk, rfl, ho, hb⟩ := hrel
    have hsz := hb.size
    have Hb := Lib.hid hb
    have Ho := Lib.hid ho
    by_cases hlt : k < xs.length
    · obtain ⟨b, o, rfl, hS, hbl, c0⟩ := int_at (Hx.out.below IntU.still hb) hlt
      have hlk := Hlen.out k hk
      have Hstep := Lib.hid (listP_succ (b := l) (size := zn) hlt)
      obtain ⟨p2, c2, hv2, k2, m2, q2, -⟩ := ho.slice
      subst hv2
      have Hp2 := Lib.hid (putR_any p2 (listP l xs zn k) c2 xs[k] (zn : Int) wr (by omega) q2)
      clear ho hb hS q2
      rw [← Hstep.out] at Hp2
      generalize xs[k] = x at *
      generalize (listP l xs zn k).length = nl at *
      have hlti : (k : Int) < (xs.length : Int) := by omega
      go_wp2_with fail
      refine Hp2.out.mono ?_
      rintro e w2 ⟨v3, rfl, ho3, hb3⟩
      have Ho3 : Hid (OwnBR w.heap.size w2 v3 (listP l xs zn (k + 1))) := Lib.hid (OwnR.base (OwnBR.of ho3) hsz)
      have HB3 := Lib.hid (Hb.out.trans (hb3.mono hsz))
      clear ho3 hb3 Hp2
      go_wp2_with fail
      go_roundw
      case rel => exact ⟨k + 1, by omega, by go_num, Ho3.out, HB3.out⟩
      case measure => simp [intOf]; omega
    · obtain rfl : k = xs.length := by omega
      rw [Hall.out] at ho
      have Hoe := Lib.hid ho
      clear ho hb Ho
      go_wp2_with fail
      go_ret
      exact ⟨_, rfl, Hoe.out, Hb.out⟩

set_option maxRecDepth 100000 in
set_option maxHeartbeats 4000000 in
theorem rrow_any (S : Nat → Prop) (p : Option Addr) (l : List UInt8) (cap : Nat) (q : Option Addr) (n c : Nat) (xs : List CeV) (w : World) (hin : BytesIn w p l) (hx : SliceS 2 CeS S w [.slice q n c] xs) (hl : l.length ≤ 1000000) (hxl : xs.length ≤ 10000) (hm : ∀ c ∈ xs, c.bytes.length ≤ 10000) :
    Calls Try.prog 116 #[.slice p l.length cap, .slice q n c] w fun e w' => ∃ v', e = .returned v' ∧ OwnBR w.heap.size w' v' (rowB l xs) ∧ Below w.heap.size w w' := by
  obtain ⟨rfl, hlc, hcm⟩ := hx.len
  unfold maxLen at hcm
  have Hx := Lib.hid hx
  have Hp := Lib.hid (putR_any p l cap (xs.length : Int) 2 w (by omega) hin)
  have Hall := Lib.hid (rowP_all l xs)
  have Hlen := Lib.hid (fun k hk => rowP_len l xs 10000 hm k hk)
  have Hm := Lib.hid hm
  clear hx hin hm
  go_enter Try.func116, Try.ntmps116
  go_wp2_with fail
  refine Hp.out.mono ?_
  rintro e w1 ⟨v1, rfl, ho1, hb1⟩
  have Ho1 : Hid (OwnBR w.heap.size w1 v1 (rowP l xs 0)) := Lib.hid (OwnBR.of ho1)
  have HB1 := Lib.hid hb1
  clear ho1 hb1 Hp
  go_wp2_with fail
  go_loopw [0, 5] (fun v i wr => ∃ k : Nat, k ≤ xs.length ∧ i = .int .i64 k ∧ OwnBR w.heap.size wr v (rowP l xs k) ∧ Below w.heap.size w wr) (fun _ i _ => xs.length - (intOf i).toNat)
  case atStart => exact ⟨0, Nat.zero_le _, rfl, Ho1.out, HB1.out⟩
  case round =>
    obtain ⟨k, hk, rfl, ho, hb⟩ := hrel
    have hsz := hb.size
    have Hb := Lib.hid hb
    have Ho := Lib.hid ho
    by_cases hlt : k < xs.length
    · obtain ⟨b, o, qx, dx, rfl, hS, hbl, c0, c1, hqx⟩ := ce_at (Hx.out.below CeS.still hb) hlt
      have hlk := Hlen.out k hk
      have hbk := Hm.out xs[k] (List.getElem_mem hlt)
      have Hstep := Lib.hid (rowP_succ (b := l) hlt)
      have Hcb : Hid (∀ b0, cellB b0 xs[k] = if xs[k].null then putV b0 4294967295 4 else putV b0 xs[k].bytes.length 4 ++ xs[k].bytes) := Lib.hid (fun _ => rfl)
      have Hqx := Lib.hid hqx.parts.2.2.2
      obtain ⟨p2, c2, hv2, k2, m2, q2, -⟩ := ho.slice
      subst hv2
      have Hq2 := Lib.hid q2
      have hl9 : (rowP l xs k).length ≤ 200000000 := by
        have : 10004 * k ≤ 10004 * 10000 := Nat.mul_le_mul (Nat.le_refl _) (by omega)
        omega
      clear ho hb hS hqx q2
      generalize xs[k] = x at *
      obtain ⟨xn, xb⟩ := x
      dsimp only at *
      have hlti : (k : Int) < (xs.length : Int) := by omega
      cases xn with
      | true =>
        have Hp2 := Lib.hid (putR_any p2 (rowP l xs k) c2 (-1) 4 wr (by omega) Hq2.out)
        rw [putV_null] at Hp2
        generalize (rowP l xs k).length = nl at *
        go_wp2_with fail
        refine Hp2.out.mono ?_
        rintro e w2 ⟨v3, rfl, ho3, hb3⟩
        have Ho3 : Hid (OwnBR w.heap.size w2 v3 (rowP l xs (k + 1))) := Lib.hid (by rw [Hstep.out, Hcb.out]; exact OwnR.base (OwnBR.of ho3) hsz)
        have HB3 := Lib.hid (Hb.out.trans (hb3.mono hsz))
        clear ho3 hb3 Hp2
        go_wp2_with fail
        go_roundw
        case rel => exact ⟨k + 1, by omega, by go_num, Ho3.out, HB3.out⟩
        case measure => simp [intOf]; omega
      | false =>
        have hpl4 := putV_len4 (rowP l xs k) (xb.length : Int) 4
        have Hp2 := Lib.hid (putR_any p2 (rowP l xs k) c2 (xb.length : Int) 4 (wr.drewN 1) (by omega) (Hq2.out.drewN 1))
        have Hqd := Lib.hid (Hqx.out.drewN 1)
        have Hnx : Hid (rowP l xs (k + 1) = putV (rowP l xs k) (xb.length : Int) 4 ++ xb) := Lib.hid (by rw [Hstep.out, Hcb.out]; rfl)
        generalize putV (rowP l xs k) (xb.length : Int) 4 = Q at *
        generalize (rowP l xs k).length = nl at *
        have hS0 : wr.cell? ⟨b, o + k * 2 + 1, none⟩ = some (.slice qx xb.length dx) := c1
        go_upto_region 7 with fail
        go_region_held3 (fun w' => w'.cell? ⟨b, o + k * 2 + 1, none⟩ = some (.slice qx xb.length dx))
          (first | exact hS0 | exact hS3 | exact hS4 | go_keep)
          (first
            | (go_at_call 114; refine Hp2.out.mono ?_; rintro e w3 ⟨v3, rfl, ho3, hb3⟩; have Ho3 : Hid (OwnBR wr.heap.size w3 v3 Q) := Lib.hid (OwnBR.of ho3); have hb3' : Below wr.heap.size wr w3 := (bel_drewN1 wr).trans hb3; have HB3 := Lib.hid hb3'; have Hq3 := Lib.hid (Hqx.out.below hb3'); have hS3 : w3.cell? ⟨b, o + k * 2 + 1, none⟩ = some (.slice qx xb.length dx) := (hb3'.cell (p := ⟨b, o + k * 2 + 1, none⟩) hbl).trans hS0; have hz3 : wr.heap.size ≤ w3.heap.size := hb3'.size; clear ho3 hb3 hb3')
            | (refine rgn_appendBR rfl (.tmp 30) (.tmp 35) rfl wr.heap.size _ _ rfl Ho3.out _ xb _ _ rfl rfl Hq3.out (by omega) hz3 ?_; intro v4 w4 ho4 hg4 _; have Ho4 := Lib.hid ho4; have hb4 : Below wr.heap.size wr w4 := HB3.out.trans (Below.of_row hg4 hz3 (fun k hk => (Ho3.out.row k hk).1)); have HB4 := Lib.hid hb4; have hS4 : w4.cell? ⟨b, o + k * 2 + 1, none⟩ = some (.slice qx xb.length dx) := (hb4.cell (p := ⟨b, o + k * 2 + 1, none⟩) hbl).trans hS0; clear ho4 hg4 hb4))
        clear hS0 hS3 hS4
        have Ho5 : Hid (OwnBR w.heap.size w4 v4 (rowP l xs (k + 1))) := Lib.hid (by rw [Hnx.out]; exact OwnR.base Ho4.out hsz)
        have HB5 := Lib.hid (Hb.out.trans (HB4.out.mono hsz))
        go_wp2_with fail
        go_roundw
        case rel => exact ⟨k + 1, by omega, by go_num, Ho5.out, HB5.out⟩
        case measure => simp [intOf]; omega
    · obtain rfl : k = xs.length := by omega
      rw [Hall.out] at ho
      have Hoe := Lib.hid ho
      clear ho hb Ho
      go_wp2_with fail
      go_ret
      exact ⟨_, rfl, Hoe.out, Hb.out⟩

end Go.Proofs.Ythhebfknikfleaa

/-
  Messages of clients (layer 6): the program's writer: text, list, row.
-/
namespace Go.Proofs.Ythhebfknikfleaa
open Go.RowKit
set_option linter.unusedVariables false
set_option linter.unusedSimpArgs false

/-- A call of a Go function as a step of a region that draws its order. -/
theorem rgn_callF {ops : Array Oper} {o : Oper} {a : Act} {w : World} {K : Act → World → Prop} {Q : Exit → Act → World → Prop} {F : Prop} (hgd : o.guard = none) (f : FuncId) (vs : Array Value) (R : Ending → World → Prop) (hC : Calls Try.prog f vs w R)
    (hr : (execOp a.eval o).run Try.prog w = .ok (.enter f vs) w) (h : ∀ e w', R e w' → ∃ v, e = .returned v ∧ K (a.put o.dst v) w') :
    if Region.wanted o (yielded ops a.tmps) = true then Oper.wp Try.prog o a w K Q else F := by
  have hw : Region.wanted o (yielded ops a.tmps) = true := by simp [Region.wanted, hgd]
  rw [if_pos hw]
  unfold Oper.wp
  rw [hr, Oper.upon_enter]
  refine hC.mono ?_
  intro e w' hR
  obtain ⟨v, rfl, hK⟩ := h e w' hR
  exact hK
theorem bel_drew (w : World) : Below w.heap.size w w.drew := ((Touch.refl (fun _ => False) w).drew).below (Nat.le_refl _) (fun _ e => e.elim)

/-- What a writer's step turns. -/
def wrT (wb : Nat) (v : Value) (k : Nat) : Prop := k = wb ∨ rowOf v = some k
/-- Where the row lies behind it. -/
def wrN (w : World) (v v' : Value) : Prop := ∀ k, rowOf v' = some k → rowOf v = some k ∨ w.heap.size ≤ k
section
variable {B : Nat} {w w' : World} {wb : Nat} {v v' : Value} {l l' : List UInt8}
end

/-- Bytes with the first texts behind them. -/
def textP (b : List UInt8) (ss : List ByteArray) (k : Nat) : List UInt8 := (ss.take k).foldl strB b
theorem textP_succ {b : List UInt8} {ss : List ByteArray} {k : Nat} (hk : k < ss.length) : textP b ss (k + 1) = strB (textP b ss k) ss[k] := by
  unfold textP
  rw [List.take_succ_eq_append_getElem hk, List.foldl_append]
  rfl
theorem textP_all (b : List UInt8) (ss : List ByteArray) : textP b ss ss.length = ss.foldl strB b := by
  unfold textP
  rw [List.take_length]
theorem textP_len (b : List UInt8) (ss : List ByteArray) (m : Nat) (hm : ∀ s ∈ ss, s.size ≤ m) : ∀ k, k ≤ ss.length → (textP b ss k).length ≤ b.length + (m + 1) * k
  | 0, _ => by simp [textP]
  | k + 1, hk => by
    have ih := textP_len b ss m hm k (by omega)
    rw [textP_succ (by omega), strB_len]
    have := hm ss[k] (List.getElem_mem _)
    rw [Nat.mul_add]
    omega

end Go.Proofs.Ythhebfknikfleaa

