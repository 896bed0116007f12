/-
  Ground: BbA, BbB, NumB, NumE.
-/
import Derived.Test.YthhebfknikfleaaGreatPbDP2
import Derived.Test.YthhebfknikfleaaGreatPbDP4
import Derived.Test.YthhebfknikfleaaGreatPbDP1
/-
  Messages of servers (layer 7): what a body says, as a plain law; the laws of the loops that read.
-/
namespace Go.Proofs.YthhebfknikfleaaGreat
open Go.RowKit
set_option linter.unusedVariables false
set_option linter.unusedSimpArgs false

/-- So many of a thing. -/
def manyP {α : Type} (P : List UInt8 → Option (α × List UInt8)) : Nat → List UInt8 → Option (List α × List UInt8)
  | 0, L => some ([], L)
  | n + 1, L => (P L).bind fun a => (manyP P n a.2).bind fun b => some (a.1 :: b.1, b.2)
/-- As many as are told. -/
def countP {α : Type} (P : List UInt8 → Option (α × List UInt8)) (L : List UInt8) : Option (List α × List UInt8) := (numP 2 L).bind fun a => manyP P a.1.toNat a.2
theorem manyP_num (z : Nat) : ∀ (n : Nat) (L : List UInt8), manyP (numP z) n L = numsP z n L
  | 0, L => rfl
  | n + 1, L => by
    unfold manyP numsP
    congr 1
    funext a
    rw [manyP_num z n a.2]
theorem manyP_cell : ∀ (n : Nat) (L : List UInt8), manyP cellP n L = cellsP n L
  | 0, L => rfl
  | n + 1, L => by
    unfold manyP cellsP
    congr 1
    funext a
    rw [manyP_cell n a.2]
theorem countP_num (z : Nat) (L : List UInt8) : countP (numP z) L = listQ z L := by
  unfold countP listQ
  congr 1
  funext a
  exact manyP_num z _ _
theorem countP_cell (L : List UInt8) : countP cellP L = rowQ L := by
  unfold countP rowQ
  congr 1
  funext a
  exact manyP_cell _ _

/-- A column. -/
def cp7 (n : ByteArray) (t a o s m : Int) (L : List UInt8) : Option (CoV × List UInt8) := (numP 2 L).bind fun f => some (⟨n, t, a, o, signedV s 2, signedV m 4, f.1⟩, f.2)
def cp6 (n : ByteArray) (t a o s : Int) (L : List UInt8) : Option (CoV × List UInt8) := (numP 4 L).bind fun m => cp7 n t a o s m.1 m.2
def cp5 (n : ByteArray) (t a o : Int) (L : List UInt8) : Option (CoV × List UInt8) := (numP 2 L).bind fun s => cp6 n t a o s.1 s.2
def cp4 (n : ByteArray) (t a : Int) (L : List UInt8) : Option (CoV × List UInt8) := (numP 4 L).bind fun o => cp5 n t a o.1 o.2
def cp3 (n : ByteArray) (t : Int) (L : List UInt8) : Option (CoV × List UInt8) := (numP 2 L).bind fun a => cp4 n t a.1 a.2
def cp2 (n : ByteArray) (L : List UInt8) : Option (CoV × List UInt8) := (numP 4 L).bind fun t => cp3 n t.1 t.2
def coRd (L : List UInt8) : Option (CoV × List UInt8) := (textQ L).bind fun n => cp2 n.1 n.2
/-- Fields up to their end. -/
def fieldsQ : Nat → List UInt8 → Option (List FdV × List UInt8)
  | 0, _ => none
  | n + 1, L => (numP 1 L).bind fun a => if a.1 = 0 then some ([], a.2) else (textQ a.2).bind fun t => (fieldsQ n t.2).bind fun r => some (⟨a.1, t.1⟩ :: r.1, r.2)
def fieldsP (L : List UInt8) : Option (List FdV × List UInt8) := fieldsQ (L.length + 1) L
theorem textQ_len {L T : List UInt8} {t : ByteArray} (h : textQ L = some (t, T)) : t.size + T.length < L.length := by
  have := (textQ_out h).1
  rw [this, List.length_append]
  unfold strP
  simp only [List.length_append, List.length_cons, List.length_nil]
  have : t.data.toList.length = t.size := Array.length_toList
  omega
theorem numP_len {z : Nat} (hz : Sz z) {L T : List UInt8} {n : Int} (h : numP z L = some (n, T)) : T.length + z = L.length := by
  have := (numP_out hz h).1
  rw [this, List.length_append, putB_length]
  omega
theorem fieldsQ_fuel : ∀ (n : Nat) (L : List UInt8) (m : Nat), L.length < n → L.length < m → fieldsQ n L = fieldsQ m L
  | 0, L, m, h, _ => by omega
  | n + 1, L, 0, _, h => by omega
  | n + 1, L, m + 1, h1, h2 => by
    unfold fieldsQ
    cases e : numP 1 L with
    | none => rfl
    | some a =>
      obtain ⟨x, L1⟩ := a
      have q := numP_len (.inl rfl) e
      show (if x = 0 then _ else _) = (if x = 0 then _ else _)
      split
      · rfl
      · show (textQ L1).bind _ = (textQ L1).bind _
        cases e2 : textQ L1 with
        | none => rfl
        | some t =>
          obtain ⟨s, L2⟩ := t
          have q2 := textQ_len e2
          show (fieldsQ n L2).bind _ = (fieldsQ m L2).bind _
          rw [fieldsQ_fuel n L2 m (by omega) (by omega)]
theorem fieldsP_end {L L1 : List UInt8} (h : numP 1 L = some (0, L1)) : fieldsP L = some ([], L1) := by
  unfold fieldsP fieldsQ
  rw [h]
  rfl
theorem fieldsP_none {L : List UInt8} (h : numP 1 L = none) : fieldsP L = none := by
  unfold fieldsP fieldsQ
  rw [h]
  rfl
theorem fieldsP_cut {L L1 : List UInt8} {x : Int} (hx : x ≠ 0) (h : numP 1 L = some (x, L1)) (h2 : textQ L1 = none) : fieldsP L = none := by
  unfold fieldsP fieldsQ
  rw [h]
  show (if x = 0 then _ else _) = _
  rw [if_neg hx]
  show (textQ L1).bind _ = _
  rw [h2]
  rfl
theorem fieldsP_more {L L1 L2 : List UInt8} {x : Int} {t : ByteArray} (hx : x ≠ 0) (h : numP 1 L = some (x, L1)) (h2 : textQ L1 = some (t, L2)) : fieldsP L = (fieldsP L2).map fun r => (⟨x, t⟩ :: r.1, r.2) := by
  have q := numP_len (.inl rfl) h
  have q2 := textQ_len h2
  have e : fieldsP L = fieldsQ (L.length + 1) L := rfl
  rw [e]
  unfold fieldsQ
  rw [h]
  show (if x = 0 then _ else _) = _
  rw [if_neg hx]
  show (textQ L1).bind _ = _
  rw [h2]
  show (fieldsQ L.length L2).bind _ = _
  rw [fieldsQ_fuel L.length L2 (L2.length + 1) (by omega) (by omega)]
  show (fieldsP L2).bind _ = _
  cases fieldsP L2 <;> rfl

/-- What a body says, by its kind, and what is left behind it. -/
def readB (k : Int) (L : List UInt8) : Option (BaV × List UInt8) :=
  if k = 82 then (numP 4 L).bind fun a => if a.1 = 0 then some (baZero k, a.2) else none
  else if k = 83 then (textQ L).bind fun a => (textQ a.2).bind fun b => some ({ baZero k with name := a.1, value := b.1 }, b.2)
  else if k = 75 then (numP 4 L).bind fun a => (numP 4 a.2).bind fun b => some ({ baZero k with n := a.1, m := b.1 }, b.2)
  else if k = 90 then (numP 1 L).bind fun a => some ({ baZero k with status := a.1 }, a.2)
  else if k = 67 then (textQ L).bind fun a => some ({ baZero k with tag := a.1 }, a.2)
  else if k = 68 then (rowQ L).bind fun a => some ({ baZero k with row := a.1 }, a.2)
  else if k = 84 then (countP coRd L).bind fun a => some ({ baZero k with cols := a.1 }, a.2)
  else if k = 116 then (listQ 4 L).bind fun a => some ({ baZero k with oids := a.1 }, a.2)
  else if k = 69 ∨ k = 78 then (fieldsP L).bind fun a => some ({ baZero k with fields := a.1 }, a.2)
  else some (baZero k, L)

section
variable {L L1 L2 L3 L4 L5 L6 L7 : List UInt8} {bad b1 b2 b3 b4 b5 b6 b7 : Bool}
theorem coRd_o {n : ByteArray} {t a o s m f : Int} (h1 : StepO L bad textQ n L1 b1) (h2 : StepO L1 b1 (numP 4) t L2 b2) (h3 : StepO L2 b2 (numP 2) a L3 b3) (h4 : StepO L3 b3 (numP 4) o L4 b4) (h5 : StepO L4 b4 (numP 2) s L5 b5)
    (h6 : StepO L5 b5 (numP 4) m L6 b6) (h7 : StepO L6 b6 (numP 2) f L7 b7) : StepO L bad coRd ⟨n, t, a, o, signedV s 2, signedV m 4, f⟩ L7 b7 :=
  h1.bind (Q := cp2) (h2.bind (Q := cp3 n) (h3.bind (Q := cp4 n t) (h4.bind (Q := cp5 n t a) (h5.bind (Q := cp6 n t a o) (h6.bind (Q := cp7 n t a o s) ((h7.bind (Q := fun (f : Int) (l : List UInt8) => some ((⟨n, t, a, o, signedV s 2, signedV m 4, f⟩ : CoV), l)) (StepO.ret _) : StepO L6 b6 (cp7 n t a o s m) _ L7 b7)))))))
theorem readB_R {x : Int} (h : StepO L bad (numP 4) x L1 b1) : StepO L bad (readB 82) (baZero 82) L1 (b1 || !(x == 0)) := by
  have e : readB 82 L = (numP 4 L).bind fun a => if a.1 = 0 then some (baZero 82, a.2) else none := by unfold readB; rw [if_pos rfl]
  refine ⟨fun hb => ?_, fun hb => ?_, h.2.2⟩
  · simp only [Bool.or_eq_false_iff, Bool.not_eq_false', beq_iff_eq] at hb
    obtain ⟨h1, h2⟩ := h.1 hb.1
    refine ⟨h1, ?_⟩
    rw [e, h2]
    show (if x = 0 then _ else _) = _
    rw [if_pos hb.2]
  · cases hb1 : b1 with
    | true =>
      rcases h.2.1 hb1 with q | q
      · exact .inl q
      · right
        rw [e, q]
        rfl
    | false =>
      rw [hb1] at hb
      simp only [Bool.false_or, Bool.not_eq_true', beq_eq_false_iff_ne, ne_eq] at hb
      obtain ⟨h1, h2⟩ := h.1 hb1
      right
      rw [e, h2]
      show (if x = 0 then _ else _) = _
      rw [if_neg hb]
theorem readB_S {n v : ByteArray} (h1 : StepO L bad textQ n L1 b1) (h2 : StepO L1 b1 textQ v L2 b2) : StepO L bad (readB 83) { baZero 83 with name := n, value := v } L2 b2 :=
  (h1.bind (Q := fun n l => (textQ l).bind fun b => some ({ baZero 83 with name := n, value := b.1 }, b.2))
    (h2.bind (Q := fun v l => some ({ baZero 83 with name := n, value := v }, l)) (StepO.ret _))).of_eq fun l => by unfold readB; rw [if_neg (by decide), if_pos rfl]
theorem readB_K {n m : Int} (h1 : StepO L bad (numP 4) n L1 b1) (h2 : StepO L1 b1 (numP 4) m L2 b2) : StepO L bad (readB 75) { baZero 75 with n := n, m := m } L2 b2 :=
  (h1.bind (Q := fun n l => (numP 4 l).bind fun b => some ({ baZero 75 with n := n, m := b.1 }, b.2))
    (h2.bind (Q := fun m l => some ({ baZero 75 with n := n, m := m }, l)) (StepO.ret _))).of_eq fun l => by unfold readB; rw [if_neg (by decide), if_neg (by decide), if_pos rfl]
theorem readB_Z {x : Int} (h1 : StepO L bad (numP 1) x L1 b1) : StepO L bad (readB 90) { baZero 90 with status := x } L1 b1 :=
  (h1.bind (Q := fun x l => some ({ baZero 90 with status := x }, l)) (StepO.ret _)).of_eq fun l => by unfold readB; rw [if_neg (by decide), if_neg (by decide), if_neg (by decide), if_pos rfl]
theorem readB_C {x : ByteArray} (h1 : StepO L bad textQ x L1 b1) : StepO L bad (readB 67) { baZero 67 with tag := x } L1 b1 :=
  (h1.bind (Q := fun x l => some ({ baZero 67 with tag := x }, l)) (StepO.ret _)).of_eq fun l => by unfold readB; rw [if_neg (by decide), if_neg (by decide), if_neg (by decide), if_neg (by decide), if_pos rfl]
theorem readB_D {x : List CeV} (h1 : StepO L bad rowQ x L1 b1) : StepO L bad (readB 68) { baZero 68 with row := x } L1 b1 :=
  (h1.bind (Q := fun x l => some ({ baZero 68 with row := x }, l)) (StepO.ret _)).of_eq fun l => by unfold readB; rw [if_neg (by decide), if_neg (by decide), if_neg (by decide), if_neg (by decide), if_neg (by decide), if_pos rfl]
theorem readB_T {x : List CoV} (h1 : StepO L bad (countP coRd) x L1 b1) : StepO L bad (readB 84) { baZero 84 with cols := x } L1 b1 :=
  (h1.bind (Q := fun x l => some ({ baZero 84 with cols := x }, l)) (StepO.ret _)).of_eq fun l => by unfold readB; rw [if_neg (by decide), if_neg (by decide), if_neg (by decide), if_neg (by decide), if_neg (by decide), if_neg (by decide), if_pos rfl]
theorem readB_t {x : List Int} (h1 : StepO L bad (listQ 4) x L1 b1) : StepO L bad (readB 116) { baZero 116 with oids := x } L1 b1 :=
  (h1.bind (Q := fun x l => some ({ baZero 116 with oids := x }, l)) (StepO.ret _)).of_eq fun l => by unfold readB; rw [if_neg (by decide), if_neg (by decide), if_neg (by decide), if_neg (by decide), if_neg (by decide), if_neg (by decide), if_neg (by decide), if_pos rfl]
theorem readB_E {k : Int} (hk : k = 69 ∨ k = 78) {x : List FdV} (h1 : StepO L bad fieldsP x L1 b1) : StepO L bad (readB k) { baZero k with fields := x } L1 b1 :=
  (h1.bind (Q := fun x l => some ({ baZero k with fields := x }, l)) (StepO.ret _)).of_eq fun l => by unfold readB; rw [if_neg (by omega), if_neg (by omega), if_neg (by omega), if_neg (by omega), if_neg (by omega), if_neg (by omega), if_neg (by omega), if_neg (by omega), if_pos hk]
theorem readB_other {k : Int} (h0 : k ≠ 82) (h1 : k ≠ 83) (h2 : k ≠ 75) (h3 : k ≠ 90) (h4 : k ≠ 67) (h5 : k ≠ 68) (h6 : k ≠ 84) (h7 : k ≠ 116) (h8 : ¬ (k = 69 ∨ k = 78)) : StepO L bad (readB k) (baZero k) L bad :=
  (StepO.ret (baZero k)).of_eq fun l => by unfold readB; rw [if_neg h0, if_neg h1, if_neg h2, if_neg h3, if_neg h4, if_neg h5, if_neg h6, if_neg h7, if_neg h8]
end

/-- What holds in the loop over things that are told. -/
structure MnI {α : Type} (P : List UInt8 → Option (α × List UInt8)) (R : Option (List α × List UInt8)) (bad1 : Bool) (m : Nat) (T : List UInt8) (b : Bool) (xs : List α) : Prop where
  good : b = false → bad1 = false ∧ R = (manyP P m T).map (fun q => (xs ++ q.1, q.2))
  bad : b = true → bad1 = true ∨ R = none
section
variable {α : Type} {P : List UInt8 → Option (α × List UInt8)} {R : Option (List α × List UInt8)} {bad bad1 b b' : Bool} {m : Nat} {L L1 T T' : List UInt8} {x : α} {xs : List α}
theorem MnI.start (n : Nat) : MnI P (manyP P n L1) bad1 n L1 bad1 [] := ⟨fun e => ⟨e, by cases manyP P n L1 <;> simp⟩, fun e => .inl e⟩
theorem MnI.step (h : MnI P R bad1 (m + 1) T false xs) (hs : StepO T false P x T' b') : MnI P R bad1 m T' b' (xs ++ [x]) := by
  obtain ⟨h1, h2⟩ := h.good rfl
  refine ⟨fun e => ⟨h1, ?_⟩, fun e => ?_⟩
  · rw [h2, manyP, (hs.1 e).2]
    simp only [Option.bind_some]
    cases manyP P m T' with
    | none => rfl
    | some q => simp
  · rcases hs.2.1 e with q | q
    · cases q
    · right
      rw [h2, manyP, q]
      rfl
theorem MnI.fin {x : Int} {n : Nat} {b1 : Bool} (h0 : StepO L bad (numP 2) x L1 b1) (hx : x = n) (h : MnI P (manyP P n L1) b1 m T b xs) (hm : m = 0 ∨ b = true) (hT : T.length ≤ L1.length) : StepO L bad (countP P) xs T b := by
  have e1 : ∀ y M, numP 2 L = some (y, M) → countP P L = manyP P y.toNat M := fun y M e => by unfold countP; rw [e]; rfl
  have e2 : numP 2 L = none → countP P L = none := fun e => by unfold countP; rw [e]; rfl
  have hxn : x.toNat = n := by omega
  refine ⟨fun hb => ?_, fun hb => ?_, Nat.le_trans hT h0.2.2⟩
  · obtain ⟨h1, h2⟩ := h.good hb
    obtain ⟨h3, h4⟩ := h0.1 h1
    refine ⟨h3, ?_⟩
    rw [e1 _ _ h4, hxn, h2]
    rcases hm with rfl | q
    · simp [manyP]
    · rw [hb] at q; cases q
  · cases hb1 : b1 with
    | true =>
      rcases h0.2.1 hb1 with q | q
      · exact .inl q
      · exact .inr (e2 q)
    | false =>
      rcases h.bad hb with q | q
      · rw [hb1] at q; cases q
      · obtain ⟨h3, h4⟩ := h0.1 hb1
        exact .inr (by rw [e1 _ _ h4, hxn]; exact q)
end

/-- What holds in the loop over fields. -/
structure FsI (R : Option (List FdV × List UInt8)) (bad0 : Bool) (T : List UInt8) (b : Bool) (xs : List FdV) : Prop where
  good : b = false → bad0 = false ∧ R = (fieldsP T).map (fun q => (xs ++ q.1, q.2))
  bad : b = true → bad0 = true ∨ R = none
section
variable {R : Option (List FdV × List UInt8)} {bad0 b b1 b2 : Bool} {L T T1 T2 : List UInt8} {x : Int} {t : ByteArray} {xs : List FdV}
theorem FsI.start : FsI (fieldsP L) bad0 L bad0 [] := ⟨fun e => ⟨e, by cases fieldsP L <;> simp⟩, fun e => .inl e⟩
theorem FsI.more (h : FsI R bad0 T false xs) (h1 : StepO T false (numP 1) x T1 b1) (hx : x ≠ 0) (h2 : StepO T1 b1 textQ t T2 b2) : FsI R bad0 T2 b2 (xs ++ [⟨x, t⟩]) := by
  obtain ⟨g1, g2⟩ := h.good rfl
  refine ⟨fun e => ⟨g1, ?_⟩, fun e => ?_⟩
  · obtain ⟨e1, q2⟩ := h2.1 e
    obtain ⟨_, q1⟩ := h1.1 e1
    rw [g2, fieldsP_more hx q1 q2]
    cases fieldsP T2 with
    | none => rfl
    | some q => simp
  · right
    rw [g2]
    cases hb1 : b1 with
    | true =>
      rcases h1.2.1 hb1 with q | q
      · cases q
      · rw [fieldsP_none q]; rfl
    | false =>
      obtain ⟨_, q1⟩ := h1.1 hb1
      rcases h2.2.1 e with q | q
      · rw [hb1] at q; cases q
      · rw [fieldsP_cut hx q1 q]; rfl
theorem FsI.fin (h : FsI (fieldsP L) bad0 T b xs) (h1 : StepO T b (numP 1) 0 T1 b1) (hT : T.length ≤ L.length) : StepO L bad0 fieldsP xs T1 b1 := by
  refine ⟨fun e => ?_, fun e => ?_, Nat.le_trans h1.2.2 hT⟩
  · obtain ⟨e1, q1⟩ := h1.1 e
    obtain ⟨g1, g2⟩ := h.good e1
    refine ⟨g1, ?_⟩
    rw [g2, fieldsP_end q1]
    simp
  · cases hb : b with
    | true => exact h.bad hb
    | false =>
      obtain ⟨g1, g2⟩ := h.good hb
      rcases h1.2.1 e with q | q
      · rw [hb] at q; cases q
      · right
        rw [g2, fieldsP_none q]
        rfl
/-- The loop of the document: it may end where the scan is bad. -/
theorem FsI.finBad (h : FsI (fieldsP L) bad0 T true xs) (hT : T.length ≤ L.length) : StepO L bad0 fieldsP xs T true := ⟨(fun e => by cases e), fun _ => h.bad rfl, hT⟩
end
/-- A number that is not 0 was there. -/
theorem num_there {T : List UInt8} {b : Bool} (h : numV T b 1 ≠ 0) : b = false ∧ numOk T b 1 = true ∧ 0 < T.length := by
  unfold numV at h
  split at h
  · rename_i hok
    have h2 := hok
    unfold numOk at h2
    simp only [Bool.and_eq_true, Bool.not_eq_true', decide_eq_true_eq] at h2
    exact ⟨h2.1.1, hok, by have := h2.2; omega⟩
  · exact absurd rfl h

end Go.Proofs.YthhebfknikfleaaGreat

/-
  Messages of servers (layer 7): plain laws: what was made is read, what is read has just these bytes; Decode as a plain law.
-/
namespace Go.Proofs.YthhebfknikfleaaGreat
open Go.RowKit
set_option linter.unusedVariables false
set_option linter.unusedSimpArgs false

/-- A column that may be; its bytes. -/
structure RightCo (c : CoV) : Prop where
  n : cleanB c.name = true
  t : 0 ≤ c.table ∧ c.table < 4294967296
  a : 0 ≤ c.attr ∧ c.attr < 65536
  o : 0 ≤ c.oid ∧ c.oid < 4294967296
  s : -32768 ≤ c.size ∧ c.size < 32768
  m : -2147483648 ≤ c.mod ∧ c.mod < 2147483648
  f : 0 ≤ c.format ∧ c.format < 65536
def colC (c : CoV) : List UInt8 := strP c.name ++ (putB c.table 4 4 ++ (putB c.attr 2 2 ++ (putB c.oid 4 4 ++ (putB c.size 2 2 ++ (putB c.mod 4 4 ++ putB c.format 2 2)))))
theorem right4 {n : Int} (h0 : -2147483648 ≤ n) (h1 : n < 4294967296) : rightB n (4 : Nat) = true := by simp [rightB, sizedB]; omega
theorem right2 {n : Int} (h0 : -32768 ≤ n) (h1 : n < 65536) : rightB n (2 : Nat) = true := by simp [rightB, sizedB]; omega
theorem colW_c (b : List UInt8) {c : CoV} (h : RightCo c) : colW b c = b ++ colC c := by
  obtain ⟨h1, h2, h3, h4, h5, h6, h7⟩ := h
  have p4 : ∀ (b : List UInt8) (n : Int), -2147483648 ≤ n → n < 4294967296 → putV b n 4 = b ++ putB n 4 4 := fun b n q1 q2 => putV_right (z := 4) (right4 q1 q2)
  have p2 : ∀ (b : List UInt8) (n : Int), -32768 ≤ n → n < 65536 → putV b n 2 = b ++ putB n 2 2 := fun b n q1 q2 => putV_right (z := 2) (right2 q1 q2)
  unfold colW colC
  rw [p2 _ _ (by omega) (by omega), p4 _ _ (by omega) (by omega), p2 _ _ (by omega) (by omega), p4 _ _ (by omega) (by omega), p2 _ _ (by omega) (by omega), p4 _ _ (by omega) (by omega), strB_p]
  simp only [List.append_assoc]
theorem signed2_back {n : Int} (h0 : -32768 ≤ n) (h1 : n < 32768) : signedV (n % 2 ^ (8 * 2)) 2 = n := by
  unfold signedV
  have hs : sizedB 2 = true := by decide
  rw [hs]
  have e1 : (2 : Int) ^ (8 * (2 : Int).toNat) = 65536 := by decide
  have e2 : (2 : Int) ^ (8 * 2) = 65536 := by decide
  rw [e1, e2]
  simp only [true_and]
  split <;> omega
theorem signed4_in (n : Int) (h0 : 0 ≤ n) (h1 : n < 4294967296) : -2147483648 ≤ signedV n 4 ∧ signedV n 4 < 2147483648 := by
  unfold signedV
  have hs : sizedB 4 = true := by decide
  rw [hs]
  have e1 : (2 : Int) ^ (8 * (4 : Int).toNat) = 4294967296 := by decide
  rw [e1]
  simp only [true_and]
  split <;> omega
theorem signed2_in (n : Int) (h0 : 0 ≤ n) (h1 : n < 65536) : -32768 ≤ signedV n 2 ∧ signedV n 2 < 32768 := by
  unfold signedV
  have hs : sizedB 2 = true := by decide
  rw [hs]
  have e1 : (2 : Int) ^ (8 * (2 : Int).toNat) = 65536 := by decide
  rw [e1]
  simp only [true_and]
  split <;> omega
theorem put_signed4 {m : Int} (h0 : 0 ≤ m) (h1 : m < 4294967296) : putB (signedV m 4) 4 4 = putB m 4 4 := by
  have e1 : (2 : Int) ^ (8 * (4 : Int).toNat) = 4294967296 := by decide
  have hq : (signedV m 4) % 4294967296 = m % 4294967296 := by
    unfold signedV
    rw [e1]
    split <;> omega
  unfold putB
  congr 1
  funext j
  unfold putAt
  rw [hq]
theorem put_signed2 {m : Int} (h0 : 0 ≤ m) (h1 : m < 65536) : putB (signedV m 2) 2 2 = putB m 2 2 := by
  have e1 : (2 : Int) ^ (8 * (2 : Int).toNat) = 65536 := by decide
  have hq : (signedV m 2) % 65536 = m % 65536 := by
    unfold signedV
    rw [e1]
    split <;> omega
  have hj : ∀ j, j < 2 → putAt (signedV m 2) 2 j = putAt m 2 j := by
    intro j hj
    apply UInt8.toNat_inj.1
    have a1 := putAt_shr (signedV m 2) 2 j (by omega) hj
    have a2 := putAt_shr m 2 j (by omega) hj
    have : j = 0 ∨ j = 1 := by omega
    rcases this with rfl | rfl <;> (simp at a1 a2; omega)
  unfold putB
  simp only [List.range_succ, List.range_zero, List.nil_append, List.map_append, List.map_cons, List.map_nil, hj 0 (by omega), hj 1 (by omega)]
theorem coRd_in {c : CoV} (h : RightCo c) (R : List UInt8) : coRd (colC c ++ R) = some (c, R) := by
  obtain ⟨h1, h2, h3, h4, h5, h6, h7⟩ := h
  obtain ⟨n, t, a, o, s, m, f⟩ := c
  dsimp only at *
  unfold colC
  simp only [List.append_assoc]
  unfold coRd
  rw [textQ_in h1]
  show cp2 n _ = _
  unfold cp2
  rw [numP_in (.inr (.inr rfl)) h2.1 h2.2]
  show cp3 n t _ = _
  unfold cp3
  rw [numP_in (.inr (.inl rfl)) h3.1 h3.2]
  show cp4 n t a _ = _
  unfold cp4
  rw [numP_in (.inr (.inr rfl)) h4.1 h4.2]
  show cp5 n t a o _ = _
  unfold cp5
  rw [numP_put (.inr (.inl rfl))]
  show cp6 n t a o (s % 2 ^ (8 * 2)) _ = _
  unfold cp6
  rw [numP_put (.inr (.inr rfl))]
  show cp7 n t a o (s % 2 ^ (8 * 2)) (m % 2 ^ (8 * 4)) _ = _
  unfold cp7
  rw [numP_in (.inr (.inl rfl)) h7.1 h7.2, signed2_back h5.1 h5.2, signed_back h6.1 h6.2]
  rfl
theorem coRd_out {L R : List UInt8} {c : CoV} (h : coRd L = some (c, R)) : L = colC c ++ R ∧ RightCo c := by
  unfold coRd cp2 cp3 cp4 cp5 cp6 cp7 at h
  obtain ⟨⟨n, L1⟩, e1, h⟩ := bindQ_some h
  obtain ⟨⟨t, L2⟩, e2, h⟩ := bindQ_some h
  obtain ⟨⟨a, L3⟩, e3, h⟩ := bindQ_some h
  obtain ⟨⟨o, L4⟩, e4, h⟩ := bindQ_some h
  obtain ⟨⟨s, L5⟩, e5, h⟩ := bindQ_some h
  obtain ⟨⟨m, L6⟩, e6, h⟩ := bindQ_some h
  obtain ⟨⟨f, L7⟩, e7, h⟩ := bindQ_some h
  injection h with h; injection h with h h'
  dsimp only at h h' e2 e3 e4 e5 e6 e7
  subst h h'
  obtain ⟨q1, k1⟩ := textQ_out e1
  obtain ⟨q2, k2, l2⟩ := numP_out (.inr (.inr rfl)) e2
  obtain ⟨q3, k3, l3⟩ := numP_out (.inr (.inl rfl)) e3
  obtain ⟨q4, k4, l4⟩ := numP_out (.inr (.inr rfl)) e4
  obtain ⟨q5, k5, l5⟩ := numP_out (.inr (.inl rfl)) e5
  obtain ⟨q6, k6, l6⟩ := numP_out (.inr (.inr rfl)) e6
  obtain ⟨q7, k7, l7⟩ := numP_out (.inr (.inl rfl)) e7
  refine ⟨?_, k1, ⟨k2, l2⟩, ⟨k3, l3⟩, ⟨k4, l4⟩, signed2_in _ k5 l5, signed4_in _ k6 l6, ⟨k7, l7⟩⟩
  unfold colC
  dsimp only
  rw [put_signed2 k5 l5, put_signed4 k6 l6]
  simp only [List.append_assoc]
  rw [q1, q2, q3, q4, q5, q6, q7]

def colsC (l : List CoV) : List UInt8 := l.flatMap colC
theorem colsP_in : ∀ (l : List CoV) (R : List UInt8), (∀ c ∈ l, RightCo c) → manyP coRd l.length (colsC l ++ R) = some (l, R)
  | [], R, _ => rfl
  | c :: l, R, h => by
    have e : colsC (c :: l) ++ R = colC c ++ (colsC l ++ R) := by simp [colsC]
    rw [e, List.length_cons, manyP, coRd_in (h c (by simp))]
    show (manyP coRd l.length (colsC l ++ R)).bind _ = _
    rw [colsP_in l R (fun m hm => h m (by simp [hm]))]
    rfl
theorem colsP_out : ∀ (n : Nat) (L R : List UInt8) (l : List CoV), manyP coRd n L = some (l, R) → L = colsC l ++ R ∧ l.length = n ∧ ∀ c ∈ l, RightCo c
  | 0, L, R, l, h => by
    injection h with h
    injection h with h1 h2
    subst h1 h2
    exact ⟨rfl, rfl, fun m hm => by cases hm⟩
  | n + 1, L, R, l, h => by
    obtain ⟨⟨a, L1⟩, e1, h⟩ := bindQ_some h
    obtain ⟨⟨b, L2⟩, e2, h⟩ := bindQ_some h
    injection h with h
    injection h with h1 h2
    obtain ⟨q1, q2⟩ := coRd_out e1
    obtain ⟨k1, k2, k3⟩ := colsP_out n _ _ _ e2
    dsimp only at h1 h2 k1
    subst h1 h2
    refine ⟨?_, by rw [List.length_cons, k2], fun m hm => ?_⟩
    · rw [q1, k1]
      simp [colsC]
    · rcases List.mem_cons.1 hm with rfl | hm
      · exact q2
      · exact k3 m hm
def colLC (l : List CoV) : List UInt8 := putB l.length 2 2 ++ colsC l
theorem colQ_in (l : List CoV) (R : List UInt8) (hl : l.length ≤ 65535) (h : ∀ c ∈ l, RightCo c) : countP coRd (colLC l ++ R) = some (l, R) := by
  unfold countP colLC
  rw [List.append_assoc, numP_in (.inr (.inl rfl)) (by omega) (by show (l.length : Int) < 65536; omega)]
  show manyP coRd ((l.length : Int)).toNat _ = _
  rw [Int.toNat_natCast]
  exact colsP_in l R h
theorem colQ_out {L R : List UInt8} {l : List CoV} (h : countP coRd L = some (l, R)) : L = colLC l ++ R ∧ l.length ≤ 65535 ∧ ∀ c ∈ l, RightCo c := by
  unfold countP at h
  obtain ⟨⟨a, L1⟩, e1, h⟩ := bindQ_some h
  obtain ⟨q1, q2, q3⟩ := numP_out (.inr (.inl rfl)) e1
  obtain ⟨k1, k2, k3⟩ := colsP_out _ _ _ _ h
  dsimp only at k1 k2
  have q3' : a < 65536 := q3
  refine ⟨?_, by omega, k3⟩
  unfold colLC
  rw [q1, k1, List.append_assoc, show (l.length : Int) = a by omega]
theorem colL_c (b : List UInt8) (l : List CoV) (hl : l.length ≤ 65535) (h : ∀ c ∈ l, RightCo c) : l.foldl colW (putV b l.length 2) = b ++ colLC l := by
  have hf : ∀ (l : List CoV) (b : List UInt8), (∀ c ∈ l, RightCo c) → l.foldl colW b = b ++ colsC l := by
    intro l
    induction l with
    | nil => intro b _; simp [colsC]
    | cons c l ih =>
      intro b h
      rw [List.foldl_cons, colW_c b (h c (by simp)), ih _ (fun m hm => h m (by simp [hm]))]
      simp [colsC]
  unfold colLC
  have e2 : putV b l.length 2 = b ++ putB l.length 2 2 := putV_right (z := 2) (rightB_2 (by omega) (by omega))
  rw [e2, hf l _ h, List.append_assoc]

/-- A field that may be; its bytes. -/
def RightFd (f : FdV) : Prop := f.code ≠ 0 ∧ (0 ≤ f.code ∧ f.code < 256) ∧ cleanB f.text = true
def fieldC (f : FdV) : List UInt8 := putB f.code 1 1 ++ strP f.text
def fieldsC (l : List FdV) : List UInt8 := l.flatMap fieldC
theorem zero_put : ([0] : List UInt8) = putB 0 1 1 := by decide
theorem fieldsP_in : ∀ (l : List FdV) (R : List UInt8), (∀ f ∈ l, RightFd f) → fieldsP (fieldsC l ++ (putB 0 1 1 ++ R)) = some (l, R)
  | [], R, _ => fieldsP_end (numP_in (.inl rfl) (by omega) (by decide) R)
  | f :: l, R, h => by
    obtain ⟨h1, h2, h3⟩ := h f (by simp)
    have e : fieldsC (f :: l) ++ (putB 0 1 1 ++ R) = putB f.code 1 1 ++ (strP f.text ++ (fieldsC l ++ (putB 0 1 1 ++ R))) := by simp [fieldsC, fieldC]
    rw [e, fieldsP_more h1 (numP_in (.inl rfl) h2.1 h2.2 _) (textQ_in h3 _), fieldsP_in l R (fun m hm => h m (by simp [hm]))]
    rfl
theorem fieldsQ_out : ∀ (n : Nat) (L R : List UInt8) (l : List FdV), fieldsQ n L = some (l, R) → L = fieldsC l ++ (putB 0 1 1 ++ R) ∧ ∀ f ∈ l, RightFd f
  | 0, L, R, l, h => by cases h
  | n + 1, L, R, l, h => by
    unfold fieldsQ at h
    obtain ⟨⟨x, L1⟩, e1, h⟩ := bindQ_some h
    obtain ⟨q1, q2, q3⟩ := numP_out (.inl rfl) e1
    dsimp only at h
    split at h
    · rename_i hx
      injection h with h
      injection h with h1 h2
      subst h1 h2 hx
      exact ⟨by rw [q1]; rfl, fun f hf => by cases hf⟩
    · rename_i hx
      obtain ⟨⟨t, L2⟩, e2, h⟩ := bindQ_some h
      obtain ⟨⟨r, L3⟩, e3, h⟩ := bindQ_some h
      injection h with h
      injection h with h1 h2
      dsimp only at h1 h2 e2 e3
      obtain ⟨k1, k2⟩ := textQ_out e2
      obtain ⟨j1, j2⟩ := fieldsQ_out n _ _ _ e3
      subst h1 h2
      refine ⟨?_, fun f hf => ?_⟩
      · rw [q1, k1, j1]
        simp [fieldsC, fieldC]
      · rcases List.mem_cons.1 hf with rfl | hf
        · exact ⟨hx, ⟨q2, q3⟩, k2⟩
        · exact j2 f hf
theorem fieldsP_out {L R : List UInt8} {l : List FdV} (h : fieldsP L = some (l, R)) : L = fieldsC l ++ (putB 0 1 1 ++ R) ∧ ∀ f ∈ l, RightFd f := fieldsQ_out _ _ _ _ h
theorem fieldL_c (b : List UInt8) (l : List FdV) (h : ∀ f ∈ l, RightFd f) : l.foldl fieldW b ++ [0] = b ++ (fieldsC l ++ putB 0 1 1) := by
  have hf : ∀ (l : List FdV) (b : List UInt8), (∀ f ∈ l, RightFd f) → l.foldl fieldW b = b ++ fieldsC l := by
    intro l
    induction l with
    | nil => intro b _; simp [fieldsC]
    | cons f l ih =>
      intro b h
      obtain ⟨h1, h2, h3⟩ := h f (by simp)
      have e : fieldW b f = b ++ fieldC f := by
        unfold fieldW fieldC
        rw [strB_p, byte_put h2.1 h2.2, List.append_assoc]
      rw [List.foldl_cons, e, ih _ (fun m hm => h m (by simp [hm]))]
      simp [fieldsC]
  rw [hf l b h, zero_put, List.append_assoc]

theorem coEq_same (a b : CoV) (h : coEq a b = true) : a = b := by
  obtain ⟨a1, a2, a3, a4, a5, a6, a7⟩ := a
  obtain ⟨c1, c2, c3, c4, c5, c6, c7⟩ := b
  unfold coEq at h
  simp only [Bool.and_eq_true, beq_iff_eq] at h
  obtain ⟨h1, h2, h3, h4, h5, h6, h7⟩ := h
  have e := str_same (a := a1) (b := c1) (by simpa using h1)
  subst e h2 h3 h4 h5 h6 h7
  rfl
theorem fdEq_same (a b : FdV) (h : fdEq a b = true) : a = b := by
  obtain ⟨a1, a2⟩ := a
  obtain ⟨c1, c2⟩ := b
  unfold fdEq at h
  simp only [Bool.and_eq_true, beq_iff_eq] at h
  obtain ⟨h1, h2⟩ := h
  have e := str_same (a := a2) (b := c2) (by simpa using h2)
  subst e h1
  rfl
theorem baEq_same {a b : BaV} (h : baEq a b = true) : a = b := by
  unfold baEq headBa textBa at h
  simp only [Bool.and_eq_true] at h
  obtain ⟨⟨h1, h2, h3, h4⟩, ⟨t1, t2, t3⟩, k1, k2, k3, k4⟩ := h
  obtain ⟨ak, a2, a3, an, av, aa, am, ao, ac, ar, af⟩ := a
  obtain ⟨bk, bs, bt, bn, bv, ba, bm, bo, bc, br, bf⟩ := b
  have e1 := str_same t1
  have e2 := str_same t2
  have e3 := str_same t3
  have q1 := listEq_same (fun a b h => by simpa [intsEq] using h) k1
  have q2 := listEq_same coEq_same k2
  have q3 := listEq_same fdEq_same k3
  have q4 := listEq_same ceEq_same k4
  dsimp only at *
  have f1 : ak = bk := by simpa using h1
  have f2 : a2 = bs := by simpa using h2
  have f3 : aa = ba := by simpa using h3
  have f4 : am = bm := by simpa using h4
  subst e1 e2 e3 q1 q2 q3 q4 f1 f2 f3 f4
  rfl
theorem inR_parts {n lo hi : Int} (h : inR n lo hi = true) : lo ≤ n ∧ n < hi + 1 := by
  unfold inR outside at h
  simp at h
  omega
theorem cols_parts {l : List CoV} (h : colsB l = true) : l.length ≤ 65535 ∧ ∀ c ∈ l, RightCo c := by
  unfold colsB at h
  simp only [Bool.and_eq_true, decide_eq_true_eq, Bool.not_eq_true', List.any_eq_false] at h
  refine ⟨h.1, fun c hc => ?_⟩
  have := h.2 c hc
  have hb : colB c = true := by simpa using this
  unfold colB colNums at hb
  simp only [Bool.and_eq_true] at hb
  obtain ⟨h1, h2, h3, h4, h5, h6, h7⟩ := hb
  exact ⟨h1, inR_parts h2, inR_parts h3, inR_parts h4, inR_parts h5, inR_parts h6, inR_parts h7⟩
theorem fields_parts {l : List FdV} (h : fieldsB l = true) : l.length ≤ 65535 ∧ ∀ f ∈ l, f.code ≠ 0 ∧ cleanB f.text = true := by
  unfold fieldsB at h
  simp only [Bool.and_eq_true, decide_eq_true_eq, Bool.not_eq_true', List.any_eq_false] at h
  refine ⟨h.1, fun f hf => ?_⟩
  have := h.2 f hf
  have hb : fieldB f = true := by simpa using this
  unfold fieldB at hb
  simp only [Bool.and_eq_true, Bool.not_eq_true', beq_eq_false_iff_ne, ne_eq] at hb
  exact hb
/-- What holds of a message that may be. -/
structure OkB (x : BaV) : Prop where
  k : servK x.kind = true
  t : cleanB x.tag = true
  n : cleanB x.name = true
  v : cleanB x.value = true
  cols : x.cols.length ≤ 65535 ∧ ∀ c ∈ x.cols, RightCo c
  fields : x.fields.length ≤ 65535 ∧ ∀ f ∈ x.fields, f.code ≠ 0 ∧ cleanB f.text = true
  row : x.row.length ≤ 65535 ∧ ∀ c ∈ x.row, rightC c
  oids : x.oids.length ≤ 65535 ∧ ∀ n ∈ x.oids, 0 ≤ n ∧ n < 2 ^ (8 * 4)
  nn : 0 ≤ x.n ∧ x.n < 4294967296
  mm : 0 ≤ x.m ∧ x.m < 4294967296
  kept : x = keptB x
theorem checkB_ok {x : BaV} (h : checkB x = 0) : OkB x := by
  unfold checkB at h
  split at h
  · rename_i h1
    split at h
    · rename_i h2
      unfold okB textsB listsB numsB7 at h2
      simp only [Bool.and_eq_true] at h2
      obtain ⟨⟨t1, t2, t3⟩, ⟨l1, l2, l3, l4⟩, ⟨n1, n2⟩, _, k⟩ := h2
      exact ⟨h1, t1, t2, t3, cols_parts l1, fields_parts l2, values_parts l3, between_parts l4, inR_parts n1, inR_parts n2, baEq_same k⟩
    · omega
  · omega
/-- The body of each kind in pieces. -/
def bodyBC (x : BaV) : List UInt8 :=
  if x.kind = 82 then putB 0 4 4
  else if x.kind = 83 then strP x.name ++ strP x.value
  else if x.kind = 75 then putB x.n 4 4 ++ putB x.m 4 4
  else if x.kind = 90 then putB x.status 1 1
  else if x.kind = 67 then strP x.tag
  else if x.kind = 68 then rowC x.row
  else if x.kind = 84 then colLC x.cols
  else if x.kind = 116 then listC 4 x.oids
  else if x.kind = 69 ∨ x.kind = 78 then fieldsC x.fields ++ putB 0 1 1
  else []
/-- The bytes of a field's code. -/
def FdsB (x : BaV) : Prop := ∀ f ∈ x.fields, 0 ≤ f.code ∧ f.code < 256
theorem bodyB_c {x : BaV} (h : OkB x) (hs : 0 ≤ x.status ∧ x.status < 256) (hf : FdsB x) : bodyB x = bodyBC x := by
  have p4 : ∀ (b : List UInt8) (n : Int), 0 ≤ n → n < 4294967296 → putV b n 4 = b ++ putB n 4 4 := fun b n q1 q2 => putV_right (z := 4) (right4 (by omega) q2)
  unfold bodyB bodyBC
  split
  · rw [p4 _ _ (by omega) (by omega), List.nil_append]
  split
  · rw [strB_p, strB_p, List.nil_append]
  split
  · rw [p4 _ _ h.mm.1 h.mm.2, p4 _ _ h.nn.1 h.nn.2, List.nil_append]
  split
  · exact byte_put hs.1 hs.2
  split
  · rw [strB_p, List.nil_append]
  split
  · rw [rowB_c _ _ h.row.1 h.row.2, List.nil_append]
  split
  · rw [colL_c _ _ h.cols.1 h.cols.2, List.nil_append]
  split
  · have := listB_c [] x.oids (z := 4) (.inr (.inr rfl)) h.oids.1 h.oids.2
    rw [List.nil_append] at this
    exact this
  split
  · rw [fieldL_c [] x.fields (fun f hm => ⟨(h.fields.2 f hm).1, hf f hm, (h.fields.2 f hm).2⟩), List.nil_append]
  · rfl
/-- What was made is read. -/
theorem readB_body {x : BaV} (hs : 0 ≤ x.status ∧ x.status < 256) (hf : FdsB x) (hc : checkB x = 0) : readB x.kind (bodyB x) = some (x, []) := by
  have h := checkB_ok hc
  rw [bodyB_c h hs hf]
  have hk := h.kept
  unfold keptB at hk
  unfold readB bodyBC
  by_cases e0 : x.kind = 82
  · rw [if_pos e0, if_pos e0]
    have := numP_in (z := 4) (.inr (.inr rfl)) (n := 0) (by omega) (by decide) []
    rw [List.append_nil] at this
    rw [this]
    show (if (0 : Int) = 0 then some (baZero x.kind, ([] : List UInt8)) else none) = some (x, [])
    rw [if_pos rfl]
    rw [if_neg (by omega), if_neg (by omega), if_neg (by omega), if_neg (by omega), if_neg (by omega), if_neg (by omega), if_neg (by omega), if_neg (by omega)] at hk
    exact congrArg (fun y => some (y, [])) hk.symm
  rw [if_neg e0, if_neg e0]
  by_cases e1 : x.kind = 83
  · rw [if_pos e1, if_pos e1, textQ_in h.n]
    show (textQ (strP x.value)).bind _ = _
    have := textQ_in h.v []
    rw [List.append_nil] at this
    rw [this]
    rw [if_pos e1] at hk
    exact congrArg (fun y => some (y, [])) hk.symm
  rw [if_neg e1, if_neg e1]
  rw [if_neg e1] at hk
  by_cases e2 : x.kind = 75
  · rw [if_pos e2, if_pos e2, numP_in (.inr (.inr rfl)) h.nn.1 h.nn.2]
    simp only [Option.bind_some]
    have := numP_in (z := 4) (.inr (.inr rfl)) h.mm.1 h.mm.2 []
    rw [List.append_nil] at this
    rw [this]
    rw [if_pos e2] at hk
    exact congrArg (fun y => some (y, [])) hk.symm
  rw [if_neg e2, if_neg e2]
  rw [if_neg e2] at hk
  by_cases e3 : x.kind = 90
  · rw [if_pos e3, if_pos e3]
    have := numP_in (z := 1) (.inl rfl) hs.1 hs.2 []
    rw [List.append_nil] at this
    rw [this]
    rw [if_pos e3] at hk
    exact congrArg (fun y => some (y, [])) hk.symm
  rw [if_neg e3, if_neg e3]
  rw [if_neg e3] at hk
  by_cases e4 : x.kind = 67
  · rw [if_pos e4, if_pos e4]
    have := textQ_in h.t []
    rw [List.append_nil] at this
    rw [this]
    rw [if_pos e4] at hk
    exact congrArg (fun y => some (y, [])) hk.symm
  rw [if_neg e4, if_neg e4]
  rw [if_neg e4] at hk
  by_cases e5 : x.kind = 68
  · rw [if_pos e5, if_pos e5]
    have := rowQ_in x.row [] h.row.1 h.row.2
    rw [List.append_nil] at this
    rw [this]
    rw [if_pos e5] at hk
    exact congrArg (fun y => some (y, [])) hk.symm
  rw [if_neg e5, if_neg e5]
  rw [if_neg e5] at hk
  by_cases e6 : x.kind = 84
  · rw [if_pos e6, if_pos e6]
    have := colQ_in x.cols [] h.cols.1 h.cols.2
    rw [List.append_nil] at this
    rw [this]
    rw [if_pos e6] at hk
    exact congrArg (fun y => some (y, [])) hk.symm
  rw [if_neg e6, if_neg e6]
  rw [if_neg e6] at hk
  by_cases e7 : x.kind = 116
  · rw [if_pos e7, if_pos e7]
    have := listQ_in (z := 4) (.inr (.inr rfl)) x.oids [] h.oids.1 h.oids.2
    rw [List.append_nil] at this
    rw [this]
    rw [if_pos e7] at hk
    exact congrArg (fun y => some (y, [])) hk.symm
  rw [if_neg e7, if_neg e7]
  rw [if_neg e7] at hk
  by_cases e8 : x.kind = 69 ∨ x.kind = 78
  · rw [if_pos e8, if_pos e8]
    have := fieldsP_in x.fields [] (fun f hm => ⟨(h.fields.2 f hm).1, hf f hm, (h.fields.2 f hm).2⟩)
    rw [List.append_nil] at this
    rw [this]
    rw [if_pos e8] at hk
    exact congrArg (fun y => some (y, [])) hk.symm
  rw [if_neg e8, if_neg e8]
  rw [if_neg e8] at hk
  exact congrArg (fun y => some (y, [])) hk.symm

/-- What was read of a message. -/
structure ReadB (k : Int) (L : List UInt8) (x : BaV) : Prop where
  kind : x.kind = k
  status : 0 ≤ x.status ∧ x.status < 256
  codes : FdsB x
  body : bodyBC x = L
theorem ReadB.zero {k : Int} {x : BaV} {L : List UInt8} (h1 : x.kind = k) (h2 : x.status = 0) (h3 : x.fields = []) (h4 : bodyBC x = L) : ReadB k L x :=
  ⟨h1, by rw [h2]; decide, (fun f hf => by rw [h3] at hf; cases hf), h4⟩
theorem readB_parts {k : Int} {L : List UInt8} {x : BaV} (h : readB k L = some (x, [])) : ReadB k L x := by
  unfold readB at h
  by_cases e0 : k = 82
  · rw [if_pos e0] at h
    obtain ⟨⟨n, L1⟩, e1, h⟩ := bindQ_some h
    obtain ⟨q1, q2, q3⟩ := numP_out (.inr (.inr rfl)) e1
    dsimp only at h
    split at h
    · rename_i hn
      injection h with h; injection h with h h'
      subst h h' hn
      refine ReadB.zero rfl rfl rfl ?_
      unfold bodyBC baZero
      dsimp only
      rw [if_pos e0, q1, List.append_nil]
    · cases h
  rw [if_neg e0] at h
  by_cases e1 : k = 83
  · rw [if_pos e1] at h
    obtain ⟨⟨a, L1⟩, q1, h⟩ := bindQ_some h
    obtain ⟨⟨b, L2⟩, q2, h⟩ := bindQ_some h
    injection h with h; injection h with h h'
    dsimp only at h h' q2
    subst h h'
    refine ReadB.zero rfl rfl rfl ?_
    have k2 := (textQ_out q2).1
    rw [List.append_nil] at k2
    unfold bodyBC baZero
    dsimp only
    rw [if_neg e0, if_pos e1, (textQ_out q1).1, k2]
  rw [if_neg e1] at h
  by_cases e2 : k = 75
  · rw [if_pos e2] at h
    obtain ⟨⟨a, L1⟩, q1, h⟩ := bindQ_some h
    obtain ⟨⟨b, L2⟩, q2, h⟩ := bindQ_some h
    injection h with h; injection h with h h'
    dsimp only at h h' q2
    subst h h'
    refine ReadB.zero rfl rfl rfl ?_
    have k2 := (numP_out (.inr (.inr rfl)) q2).1
    rw [List.append_nil] at k2
    unfold bodyBC baZero
    dsimp only
    rw [if_neg e0, if_neg e1, if_pos e2, (numP_out (.inr (.inr rfl)) q1).1, k2]
  rw [if_neg e2] at h
  by_cases e3 : k = 90
  · rw [if_pos e3] at h
    obtain ⟨⟨a, L1⟩, q1, h⟩ := bindQ_some h
    injection h with h; injection h with h h'
    dsimp only at h h'
    subst h h'
    obtain ⟨k1, k2, k3⟩ := numP_out (.inl rfl) q1
    rw [List.append_nil] at k1
    refine ⟨rfl, ⟨k2, k3⟩, (fun f hf => by cases hf), ?_⟩
    unfold bodyBC baZero
    dsimp only
    rw [if_neg e0, if_neg e1, if_neg e2, if_pos e3, k1]
  rw [if_neg e3] at h
  by_cases e4 : k = 67
  · rw [if_pos e4] at h
    obtain ⟨⟨a, L1⟩, q1, h⟩ := bindQ_some h
    injection h with h; injection h with h h'
    dsimp only at h h'
    subst h h'
    have k1 := (textQ_out q1).1
    rw [List.append_nil] at k1
    refine ReadB.zero rfl rfl rfl ?_
    unfold bodyBC baZero
    dsimp only
    rw [if_neg e0, if_neg e1, if_neg e2, if_neg e3, if_pos e4, k1]
  rw [if_neg e4] at h
  by_cases e5 : k = 68
  · rw [if_pos e5] at h
    obtain ⟨⟨a, L1⟩, q1, h⟩ := bindQ_some h
    injection h with h; injection h with h h'
    dsimp only at h h'
    subst h h'
    have k1 := (rowQ_out q1).1
    rw [List.append_nil] at k1
    refine ReadB.zero rfl rfl rfl ?_
    unfold bodyBC baZero
    dsimp only
    rw [if_neg e0, if_neg e1, if_neg e2, if_neg e3, if_neg e4, if_pos e5, k1]
  rw [if_neg e5] at h
  by_cases e6 : k = 84
  · rw [if_pos e6] at h
    obtain ⟨⟨a, L1⟩, q1, h⟩ := bindQ_some h
    injection h with h; injection h with h h'
    dsimp only at h h'
    subst h h'
    have k1 := (colQ_out q1).1
    rw [List.append_nil] at k1
    refine ReadB.zero rfl rfl rfl ?_
    unfold bodyBC baZero
    dsimp only
    rw [if_neg e0, if_neg e1, if_neg e2, if_neg e3, if_neg e4, if_neg e5, if_pos e6, k1]
  rw [if_neg e6] at h
  by_cases e7 : k = 116
  · rw [if_pos e7] at h
    obtain ⟨⟨a, L1⟩, q1, h⟩ := bindQ_some h
    injection h with h; injection h with h h'
    dsimp only at h h'
    subst h h'
    have k1 := (listQ_out (.inr (.inr rfl)) q1).1
    rw [List.append_nil] at k1
    refine ReadB.zero rfl rfl rfl ?_
    unfold bodyBC baZero
    dsimp only
    rw [if_neg e0, if_neg e1, if_neg e2, if_neg e3, if_neg e4, if_neg e5, if_neg e6, if_pos e7, k1]
  rw [if_neg e7] at h
  by_cases e8 : k = 69 ∨ k = 78
  · rw [if_pos e8] at h
    obtain ⟨⟨a, L1⟩, q1, h⟩ := bindQ_some h
    injection h with h; injection h with h h'
    dsimp only at h h'
    subst h h'
    obtain ⟨k1, k2⟩ := fieldsP_out q1
    rw [List.append_nil] at k1
    refine ⟨rfl, ⟨Int.le_refl 0, show (0 : Int) < 256 by decide⟩, fun f hf => (k2 f hf).2.1, ?_⟩
    unfold bodyBC baZero
    dsimp only
    rw [if_neg e0, if_neg e1, if_neg e2, if_neg e3, if_neg e4, if_neg e5, if_neg e6, if_neg e7, if_pos e8, k1]
  rw [if_neg e8] at h
  injection h with h; injection h with h h'
  subst h h'
  refine ReadB.zero rfl rfl rfl ?_
  unfold bodyBC baZero
  dsimp only
  rw [if_neg e0, if_neg e1, if_neg e2, if_neg e3, if_neg e4, if_neg e5, if_neg e6, if_neg e7, if_neg e8]

/-- Decode: the message and the error. -/
def decB (k : Int) (L : List UInt8) : BaV × Int :=
  if servK k = true then
    match readB k L with
    | some (f, []) => if checkB f = 0 then (f, 0) else (baZero 0, 4)
    | _ => (baZero 0, 4)
  else (baZero 0, 9)
theorem decB_unknown {k : Int} {L : List UInt8} (h : servK k = false) : decB k L = (baZero 0, 9) := by unfold decB; rw [if_neg (by rw [h]; decide)]
theorem decB_bad {k : Int} {L L' : List UInt8} {f : BaV} {b : Bool} (h : servK k = true) (hs : StepO L false (readB k) f L' b) (hb : (!b && L'.isEmpty) = false) : decB k L = (baZero 0, 4) := by
  unfold decB
  rw [if_pos h]
  cases b with
  | true =>
    rcases hs.2.1 rfl with e | e
    · cases e
    · rw [e]
  | false =>
    rw [(hs.1 rfl).2]
    cases L' with
    | nil => cases hb
    | cons x T => rfl
theorem decB_ok {k : Int} {L : List UInt8} {f : BaV} (h : servK k = true) (hs : StepO L false (readB k) f [] false) : decB k L = (if checkB f = 0 then (f, 0) else (baZero 0, 4)) := by
  unfold decB
  rw [if_pos h, (hs.1 rfl).2]
/-- Decode: nothing, or a message that may be, with just these bytes. -/
theorem decB_cases (k : Int) (L : List UInt8) :
    (∃ x, decB k L = (x, 0) ∧ checkB x = 0 ∧ ReadB k L x ∧ bodyB x = L ∧ encB x = (k, L, 0)) ∨ (∃ e, e ≠ 0 ∧ decB k L = (baZero 0, e)) := by
  unfold decB
  split
  · split
    · rename_i f hf
      split
      · rename_i hc
        have hr := readB_parts hf
        have hb : bodyB f = L := by rw [bodyB_c (checkB_ok hc) hr.status hr.codes]; exact hr.body
        refine .inl ⟨f, rfl, hc, hr, hb, ?_⟩
        unfold encB
        rw [if_pos hc, hb, hr.kind]
      · exact .inr ⟨4, by decide, rfl⟩
    · exact .inr ⟨4, by decide, rfl⟩
  · exact .inr ⟨9, by decide, rfl⟩
theorem decB_enc {x : BaV} (hs : 0 ≤ x.status ∧ x.status < 256) (hf : FdsB x) (hc : checkB x = 0) : decB x.kind (bodyB x) = (x, 0) := by
  unfold decB
  rw [if_pos (checkB_ok hc).k, readB_body hs hf hc]
  dsimp only
  rw [if_pos hc]

end Go.Proofs.YthhebfknikfleaaGreat

/-
  The contracts of package num (layer 1) and of remudaref01: Right, Signed.
-/
namespace Go.Proofs.YthhebfknikfleaaGreat
open Go.RowKit

theorem signed_any (n size : Int) (w : World) :
    Calls Tryz.prog 143 #[.int .i64 n, .int .i64 size] w fun e w' => e = .returned (.int .i64 (signedV n size)) ∧ w = w' := by
  by_cases hs : sizedB size = true
  · unfold signedV
    rcases sizedB_cases hs with rfl | rfl | rfl
    all_goals
      clear hs
      go_enter Tryz.func143, Tryz.ntmps143
      go_wp2_with (first | (go_at_call 151; refine (sized_any _ _).mono ?_; rintro e w' ⟨rfl, rfl⟩) | (go_at_call 152; refine (span_any _ _ (by omega)).mono ?_; rintro e w' ⟨rfl, rfl⟩))
      all_goals go_ret
      all_goals (simp_all [sizedB]; try omega)
  · have hs' : sizedB size = false := by simpa using hs
    have hr : signedV n size = n := by unfold signedV; rw [hs']; simp
    have Hs := Lib.hid hs'
    have Hr := Lib.hid hr
    clear hs hs' hr
    go_enter Tryz.func143, Tryz.ntmps143
    go_wp2_with (first | (go_at_call 151; refine (sized_any _ _).mono ?_; rintro e w' ⟨rfl, rfl⟩; rw [Hs.out]))
    go_ret
    rw [Hr.out]
    exact ⟨rfl, rfl⟩

theorem signedR_any (n size : Int) (w : World) :
    Calls Tryz.prog 146 #[.int .i64 n, .int .i64 size] w fun e w' => e = .returned (.int .i64 (signedV n size)) ∧ w = w' := by
  by_cases hs : sizedB size = true
  · unfold signedV
    rcases sizedB_cases hs with rfl | rfl | rfl
    all_goals
      clear hs
      go_enter Tryz.func146, Tryz.ntmps146
      go_wp2_with (first | (go_at_call 132; refine (sizedR_any _ _).mono ?_; rintro e w' ⟨rfl, rfl⟩) | (go_at_call 100; refine (pow_size _ _ (by omega)).mono ?_; rintro e w' ⟨rfl, rfl⟩))
      all_goals go_ret
      all_goals (simp_all [sizedB]; try omega)
  · have hs' : sizedB size = false := by simpa using hs
    have hr : signedV n size = n := by unfold signedV; rw [hs']; simp
    have Hs := Lib.hid hs'
    have Hr := Lib.hid hr
    clear hs hs' hr
    go_enter Tryz.func146, Tryz.ntmps146
    go_wp2_with (first | (go_at_call 132; refine (sizedR_any _ _).mono ?_; rintro e w' ⟨rfl, rfl⟩; rw [Hs.out]))
    go_ret
    rw [Hr.out]
    exact ⟨rfl, rfl⟩

end Go.Proofs.YthhebfknikfleaaGreat

/-
  The contract of remudaref01.Put.
-/
namespace Go.Proofs.YthhebfknikfleaaGreat
open Go.RowKit

theorem pow_int (i : Int) (w : World) (h0 : 0 ≤ i) (h : i ≤ 7) :
    Calls Tryz.prog 100 #[.int .i64 i] w fun e w' => e = .returned (.int .i64 (256 ^ i.toNat)) ∧ w = w' := by
  obtain ⟨k, rfl⟩ := Int.eq_ofNat_of_zero_le h0
  rw [Int.toNat_natCast]
  exact pow_any k w (by omega)

theorem rightB_bd {n : Int} {z : Nat} (h : rightB n z = true) (hz : z = 1 ∨ z = 2 ∨ z = 4) : -2147483648 ≤ n ∧ n < 4294967296 ∧ 0 ≤ n + 2 ^ (8 * z) := by
  rcases hz with rfl | rfl | rfl <;> simp [rightB, sizedB] at h <;> omega

theorem putAt_div (n n' : Int) (z j : Nat) (hz : z = 1 ∨ z = 2 ∨ z = 4) (hj : j < z) (h : n' = n ∨ n' = n + 2 ^ (8 * z)) :
    ((putAt n z j).toNat : Int) = n' / 256 ^ (z - 1 - j) % 256 := by
  rw [putAt_shr n z j hz hj]
  have : (z = 1 ∧ j = 0) ∨ (z = 2 ∧ j = 0) ∨ (z = 2 ∧ j = 1) ∨ (z = 4 ∧ j = 0) ∨ (z = 4 ∧ j = 1) ∨ (z = 4 ∧ j = 2) ∨ (z = 4 ∧ j = 3) := by omega
  rcases this with ⟨rfl, rfl⟩ | ⟨rfl, rfl⟩ | ⟨rfl, rfl⟩ | ⟨rfl, rfl⟩ | ⟨rfl, rfl⟩ | ⟨rfl, rfl⟩ | ⟨rfl, rfl⟩ <;> simp at * <;> omega

theorem putAt_tmod (n n' : Int) (z j : Nat) (hz : z = 1 ∨ z = 2 ∨ z = 4) (hj : j < z) (h0 : 0 ≤ n') (h : n' = n ∨ n' = n + 2 ^ (8 * z)) :
    ((putAt n z j).toNat : Int) = (n' / 256 ^ (z - 1 - j)).tmod 256 % 256 := by
  have hq : 0 ≤ n' / 256 ^ (z - 1 - j) := Int.ediv_nonneg h0 (by have := pow_bd (z - 1 - j) 7 (by omega) (by omega); omega)
  rw [putAt_div n n' z j hz hj h, Int.tmod_eq_emod_of_nonneg hq]
  omega

set_option maxHeartbeats 1000000 in
theorem putR_any (p : Option Addr) (l : List UInt8) (cap : Nat) (n size : Int) (w : World) (hl : l.length ≤ 1000000000) (hb : BytesIn w p l) :
    Calls Tryz.prog 46 #[.slice p l.length cap, .int .i64 n, .int .i64 size] w fun e w' =>
      ∃ v, e = .returned v ∧ OwnB w.heap.size w' v (putV l n size) ∧ Below w.heap.size w w' := by
  by_cases hr : rightB n size = true
  · have hs : sizedB size = true := by unfold rightB at hr; simp at hr; exact hr.1
    have hsz := sizedB_cases hs
    obtain ⟨z, rfl⟩ := Int.eq_ofNat_of_zero_le (show 0 ≤ size by omega)
    have hz : z = 1 ∨ z = 2 ∨ z = 4 := by omega
    have hV : putV l n z = l ++ putB n z z := by unfold putV; rw [if_pos hr]; rfl
    have hbd := rightB_bd hr hz
    obtain ⟨n', hn'⟩ : ∃ n', n' = if n < 0 then n + 2 ^ (8 * z) else n := ⟨_, rfl⟩
    have h0 : 0 ≤ n' := by rw [hn']; split <;> omega
    have hor : n' = n ∨ n' = n + 2 ^ (8 * z) := by rw [hn']; split <;> simp
    have hn'hi : n' < 9000000000 := by rcases hz with rfl | rfl | rfl <;> simp at hor <;> omega
    have HV := Lib.hid hV
    have Hr := Lib.hid hr
    have Hb := Lib.hid hb
    have hz1 : 1 ≤ z := by omega
    have hz4 : z ≤ 4 := by omega
    have Hz := Lib.hid hz
    have Hor := Lib.hid hor
    have Hn' := Lib.hid hn'
    have Hsz := Lib.hid hsz
    have hpb : 2 ^ (8 * z) ≤ (4294967296 : Int) := by rcases hz with rfl | rfl | rfl <;> decide
    have hpb0 : (0 : Int) ≤ 2 ^ (8 * z) := by rcases hz with rfl | rfl | rfl <;> decide
    clear hb hr hs hsz hV hz hor hn'
    by_cases hneg : n < 0
    all_goals
      have hn2 : n' = if n < 0 then n + 2 ^ (8 * z) else n := Hn'.out
      simp only [hneg, if_true, if_false] at hn2
      have Hn2 := Lib.hid hn2
      clear hn2
      go_enter Tryz.func46, Tryz.ntmps46
      go_wp2_with (first | (at_builtin; refine step_appendB _ rfl _ _ rfl w.heap.size _ [] rfl (OwnB.none _ _) _ l _ rfl Hb.out (by simp; omega) (by simp) ?_; intro v1 w1 hown1 hb1 _) | (go_at_call 99; refine (rightR_any _ _ _).mono ?_; rintro e w' ⟨rfl, rfl⟩; rw [Hr.out]) | (go_at_call 100; refine (pow_size _ _ Hsz.out).mono ?_; rintro e w' ⟨rfl, rfl⟩; rw [Int.toNat_natCast]))
      try rw [← Hn2.out]
      go_loopw [7, 8] (fun v s wr => ∃ j : Nat, j ≤ z ∧ s = .int .i64 ((z : Int) - 1 - j) ∧ OwnB w.heap.size wr v (l ++ putB n z j) ∧ Below w.heap.size w wr) (fun _ s _ => (intOf s + 1).toNat)
      case atStart => exact ⟨0, Nat.zero_le _, by congr 1; omega, by simpa [putB] using hown1, hb1⟩
      case round =>
        obtain ⟨j, hj, rfl, hown, hbw⟩ := hrel
        have Hown := Lib.hid hown
        have Hbw := Lib.hid hbw
        have hbsz := hbw.size
        clear hown hbw hb1 hown1
        by_cases hlt : j < z
        · have e7 : ((z : Int) - 1 - j).toNat = z - 1 - j := by omega
          have E7 := Lib.hid e7
          have hp7 := pow_bd (z - 1 - j) 7 (by omega) (by omega)
          clear e7
          go_wp2_with (first | (go_at_call 100; refine (pow_int _ _ (by omega) (by omega)).mono ?_; rintro e w' ⟨rfl, rfl⟩; rw [E7.out]) | (at_builtin; refine step_appendB _ rfl _ _ rfl w.heap.size _ _ rfl (Hown.out.alloc _) _ [putAt n z j] 1 rfl (BytesIn.new1 _ _ _ _ (putAt_tmod n n' z j Hz.out hlt h0 Hor.out)) (by simp [putB_length]; omega) (by simp; omega) ?_; intro v2 w2 hown2 hb2 _))
          have hbel2 := (Hbw.out.alloc hbsz _).trans hb2
          rw [List.append_assoc, ← putB_succ] at hown2
          go_roundw
          case rel => exact ⟨j + 1, by omega, by congr 1; omega, hown2, hbel2⟩
          case measure => simp [intOf]; omega
        · go_wp2
          go_ret
          obtain rfl : j = z := by omega
          refine ⟨_, rfl, ?_, Hbw.out⟩
          rw [HV.out]; exact Hown.out
  · have hV : putV l n size = l := by unfold putV; rw [if_neg hr]; simp
    have hr' : rightB n size = false := by simpa using hr
    have HV := Lib.hid hV
    have Hr := Lib.hid hr'
    have Hb := Lib.hid hb
    clear hb hr hr' hV
    go_enter Tryz.func46, Tryz.ntmps46
    go_wp2_with (first | (at_builtin; refine step_appendB _ rfl _ _ rfl w.heap.size _ [] rfl (OwnB.none _ _) _ l _ rfl Hb.out (by simp; omega) (by simp) ?_; intro v1 w1 hown1 hb1 _) | (go_at_call 99; refine (rightR_any _ _ _).mono ?_; rintro e w' ⟨rfl, rfl⟩; rw [Hr.out]))
    go_ret
    refine ⟨_, rfl, ?_, hb1⟩
    rw [HV.out]; simpa using hown1

end Go.Proofs.YthhebfknikfleaaGreat

