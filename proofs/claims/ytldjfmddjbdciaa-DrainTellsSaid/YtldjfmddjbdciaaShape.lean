/-
  How values are read: a reading takes cells to a plain Lean value and names the blocks it leans on. Slices of any elements; rows of the call's own with elements of any shape.
-/
import Derived.Test.YtldjfmddjbdciaaRow
import Derived.Test.YtldjfmddjbdciaaRead
namespace Go.Proofs.Ytldjfmddjbdciaa
open Go.RowKit Go.ChangeShapes Go.WideShapes Go.Deep

def All2 {α β : Type} (p : α → β → Prop) : List α → List β → Prop
  | [], [] => True
  | a :: l, b :: m => p a b ∧ All2 p l m
  | [], _ :: _ => False
  | _ :: _, [] => False

section
variable {α β : Type} {p q : α → β → Prop}
theorem All2.length : ∀ {l : List α} {m : List β}, All2 p l m → l.length = m.length
  | [], [], _ => rfl
  | _ :: _, _ :: _, h => by simp [All2.length h.2]
  | [], _ :: _, h => h.elim
  | _ :: _, [], h => h.elim
theorem All2.imp (hpq : ∀ a b, p a b → q a b) : ∀ {l : List α} {m : List β}, All2 p l m → All2 q l m
  | [], [], _ => trivial
  | _ :: _, _ :: _, h => ⟨hpq _ _ h.1, All2.imp hpq h.2⟩
  | [], _ :: _, h => h.elim
  | _ :: _, [], h => h.elim
theorem All2.get : ∀ {l : List α} {m : List β}, All2 p l m → ∀ (i : Nat) (b : β), m[i]? = some b → ∃ a, l[i]? = some a ∧ p a b
  | [], [], _, i, b, h => by simp at h
  | a :: _, b :: _, h, 0, c, hc => by simp at hc; subst hc; exact ⟨a, rfl, h.1⟩
  | _ :: _, _ :: _, h, i + 1, c, hc => by
    obtain ⟨a, h1, h2⟩ := All2.get h.2 i c (by simpa using hc)
    exact ⟨a, by simpa using h1, h2⟩
  | [], _ :: _, h, _, _, _ => h.elim
  | _ :: _, [], h, _, _, _ => h.elim
theorem All2.append : ∀ {l l' : List α} {m m' : List β}, All2 p l m → All2 p l' m' → All2 p (l ++ l') (m ++ m')
  | [], _, [], _, _, h => h
  | _ :: _, _, _ :: _, _, h, h' => ⟨h.1, All2.append h.2 h'⟩
  | [], _, _ :: _, _, h, _ => h.elim
  | _ :: _, _, [], _, h, _ => h.elim
theorem All2.drop : ∀ {l : List α} {m : List β}, All2 p l m → ∀ k, All2 p (l.drop k) (m.drop k)
  | [], [], _, k => by simp [All2]
  | _ :: _, _ :: _, h, 0 => h
  | _ :: _, _ :: _, h, k + 1 => by simpa using All2.drop h.2 k
  | [], _ :: _, h, _ => h.elim
  | _ :: _, [], h, _ => h.elim
theorem All2.take : ∀ {l : List α} {m : List β}, All2 p l m → ∀ k, All2 p (l.take k) (m.take k)
  | [], [], _, k => by simp [All2]
  | _ :: _, _ :: _, _, 0 => by simp [All2]
  | _ :: _, _ :: _, h, k + 1 => by simpa [All2] using ⟨h.1, All2.take h.2 k⟩
  | [], _ :: _, h, _ => h.elim
  | _ :: _, [], h, _ => h.elim
end

abbrev Rd (α : Type) := (Nat → Prop) → World → List Value → α → Prop

/-- The blocks of S are in w' as in w. -/
def Kept (S S' : Nat → Prop) (w w' : World) : Prop := ∀ k, k < w.heap.size → S k → S' k ∧ w'.heap[k]? = w.heap[k]?

theorem Kept.refl (S : Nat → Prop) (w : World) : Kept S S w w := fun _ _ h => ⟨h, rfl⟩
theorem Kept.mono {S S' : Nat → Prop} (w : World) (h : ∀ k, k < w.heap.size → S k → S' k) : Kept S S' w w := fun k hk hs => ⟨h k hk hs, rfl⟩
theorem Kept.touch {S S' p : Nat → Prop} {w w' : World} (ht : Touch p w w') (h : ∀ k, k < w.heap.size → S k → S' k ∧ ¬ p k) : Kept S S' w w' := fun k hk hs => ⟨(h k hk hs).1, ht.block k hk (h k hk hs).2⟩
theorem Kept.below {S S' : Nat → Prop} {w w' : World} {B : Nat} (hb : Below B w w') (h : ∀ k, k < w.heap.size → S k → S' k ∧ k < B) : Kept S S' w w' := fun k hk hs => ⟨(h k hk hs).1, hb.block k (h k hk hs).2⟩
theorem Kept.all {S : Nat → Prop} {w w' : World} (hb : Below w.heap.size w w') : Kept S S w w' := fun k hk hs => ⟨hs, hb.block k hk⟩

/-- A reading stays where the blocks it leans on do. -/
def Still {α : Type} (R : Rd α) : Prop := ∀ (S S' : Nat → Prop) (w w' : World) (cs : List Value) (x : α), R S w cs x → Kept S S' w w' → R S' w' cs x

/-- Every argument of this type is read as some value. -/
def OpensS {α : Type} (P : Program) (t : TypeId) (R : Rd α) : Prop := Opens P t (fun B w cs x => R (fun k => k < B) w cs x)

def IntS (k : IntKind) : Rd Int := fun _ _ cs n => cs = [.int k n] ∧ (Lit.int k n).wf = true
def BoolS : Rd Bool := fun _ _ cs b => cs = [.bool b]
def StrS : Rd ByteArray := fun _ _ cs s => cs = [.string s] ∧ s.size ≤ maxLen
theorem IntS.still (k : IntKind) : Still (IntS k) := fun _ _ _ _ _ _ h _ => h
theorem BoolS.still : Still BoolS := fun _ _ _ _ _ _ h _ => h
theorem StrS.still : Still StrS := fun _ _ _ _ _ _ h _ => h

/-- Cells from an address on. -/
def CellsIn (S : Nat → Prop) (w : World) (p : Option Addr) (cs : List Value) : Prop :=
  ∀ j u, cs[j]? = some u → ∃ b o, p = some ⟨b, o, none⟩ ∧ S b ∧ w.cell? ⟨b, o + j, none⟩ = some u

section
variable {S S' : Nat → Prop} {w w' : World} {p : Option Addr} {cs : List Value}
theorem CellsIn.nil : CellsIn S w p [] := fun j u h => by simp at h
theorem CellsIn.keep (h : CellsIn S w p cs) (hk : Kept S S' w w') : CellsIn S' w' p cs := by
  intro j u hu
  obtain ⟨b, o, e, hs, hc⟩ := h j u hu
  have hlt := World.block_lt_of_cell? w _ hc
  obtain ⟨h1, h2⟩ := hk b hlt hs
  exact ⟨b, o, e, h1, by rw [World.cell?_of_block (a := ⟨b, o + j, none⟩) h2]; exact hc⟩
theorem CellsIn.addr (h : CellsIn S w p cs) (h0 : cs ≠ []) : ∃ b o, p = some ⟨b, o, none⟩ ∧ S b := by
  obtain ⟨u, hu⟩ : ∃ u, cs[0]? = some u := by cases cs with
    | nil => exact absurd rfl h0
    | cons u l => exact ⟨u, rfl⟩
  obtain ⟨b, o, e, hs, _⟩ := h 0 u hu
  exact ⟨b, o, e, hs⟩
theorem CellsIn.at {b o : Nat} (h : CellsIn S w (some ⟨b, o, none⟩) cs) {j : Nat} {u : Value} (hu : cs[j]? = some u) : w.cell? ⟨b, o + j, none⟩ = some u := by
  obtain ⟨b', o', e, _, hc⟩ := h j u hu
  cases e
  exact hc
theorem CellsIn.drop {b o : Nat} (h : CellsIn S w (some ⟨b, o, none⟩) cs) (k : Nat) : CellsIn S w (some ⟨b, o + k, none⟩) (cs.drop k) := by
  intro j u hu
  rw [List.getElem?_drop] at hu
  obtain ⟨b', o', e, hs, hc⟩ := h _ u hu
  cases e
  exact ⟨b, o + k, rfl, hs, by rw [Nat.add_assoc]; exact hc⟩
theorem CellsIn.take (h : CellsIn S w p cs) (k : Nat) : CellsIn S w p (cs.take k) := by
  intro j u hu
  rw [List.getElem?_take] at hu
  split at hu
  · exact h j u hu
  · cases hu
end

/-- Elements of n cells each. -/
def ElemsS {α : Type} (n : Nat) (R : Rd α) (S : Nat → Prop) (w : World) (css : List (List Value)) (xs : List α) : Prop := All2 (fun cs x => cs.length = n ∧ R S w cs x) css xs

section
variable {α : Type} {n : Nat} {R : Rd α} {S S' : Nat → Prop} {w w' : World} {css : List (List Value)} {xs : List α}
theorem ElemsS.keep (hR : Still R) (h : ElemsS n R S w css xs) (hk : Kept S S' w w') : ElemsS n R S' w' css xs := h.imp (fun _ _ ⟨h1, h2⟩ => ⟨h1, hR _ _ _ _ _ _ h2 hk⟩)
theorem ElemsS.flat (h : ElemsS n R S w css xs) : css.flatten.length = xs.length * n := by
  induction css generalizing xs with
  | nil => cases xs with
    | nil => simp
    | cons x xs => exact h.elim
  | cons c css ih => cases xs with
    | nil => exact h.elim
    | cons x xs =>
      have := ih h.2
      rw [List.flatten_cons, List.length_append, this, h.1.1, List.length_cons, Nat.succ_mul]; omega
theorem ElemsS.drop (h : ElemsS n R S w css xs) (k : Nat) : (css.drop k).flatten = css.flatten.drop (k * n) ∨ xs.length < k := by
  induction css generalizing xs k with
  | nil => left; simp
  | cons c css ih => cases xs with
    | nil => exact h.elim
    | cons x xs =>
      cases k with
      | zero => left; simp
      | succ k =>
        rcases ih h.2 k with e | e
        · left
          rw [List.drop_succ_cons, e, List.flatten_cons, Nat.succ_mul, Nat.add_comm, ← List.drop_drop, ← h.1.1, List.drop_left]
        · right; simp; omega
theorem ElemsS.take (h : ElemsS n R S w css xs) (k : Nat) : (css.take k).flatten = css.flatten.take (k * n) := by
  induction css generalizing xs k with
  | nil => simp
  | cons c css ih => cases xs with
    | nil => exact h.elim
    | cons x xs =>
      cases k with
      | zero => simp
      | succ k =>
        rw [List.take_succ_cons, List.flatten_cons, ih h.2 k, List.flatten_cons, Nat.succ_mul, Nat.add_comm, ← h.1.1, List.take_append, List.take_of_length_le (Nat.le_add_right _ _), Nat.add_sub_cancel_left]
theorem ElemsS.cellAt (h : ElemsS n R S w css xs) {i j : Nat} {c : List Value} {u : Value} (hc : css[i]? = some c) (hu : c[j]? = some u) : css.flatten[i * n + j]? = some u := by
  induction css generalizing xs i with
  | nil => simp at hc
  | cons c0 css ih => cases xs with
    | nil => exact h.elim
    | cons x xs =>
      have h1 := h.1.1
      cases i with
      | zero =>
        simp at hc
        subst hc
        have hj : j < c0.length := (List.getElem?_eq_some_iff.1 hu).1
        rw [Nat.zero_mul, Nat.zero_add, List.flatten_cons, List.getElem?_append_left hj]
        exact hu
      | succ i =>
        rw [List.flatten_cons, List.getElem?_append_right (by rw [h1, Nat.succ_mul]; omega), h1, show (i + 1) * n + j - n = i * n + j from by rw [Nat.succ_mul]; omega]
        exact ih h.2 (by simpa using hc)
end

/-- A slice whose elements have n cells each. -/
def SliceS {α : Type} (n : Nat) (R : Rd α) : Rd (List α) := fun S w cs xs =>
  ∃ p c css, cs = [.slice p xs.length c] ∧ xs.length ≤ c ∧ c ≤ maxLen ∧ CellsIn S w p css.flatten ∧ ElemsS n R S w css xs

theorem SliceS.still {α : Type} {n : Nat} {R : Rd α} (hR : Still R) : Still (SliceS n R) := by
  rintro S S' w w' cs xs ⟨p, c, css, h1, h2, h3, h4, h5⟩ hk
  exact ⟨p, c, css, h1, h2, h3, h4.keep hk, h5.keep hR hk⟩

/-- The i-th element of a slice. -/
theorem SliceS.elem {α : Type} {n : Nat} {R : Rd α} {S : Nat → Prop} {w : World} {p : Option Addr} {c m : Nat} {xs : List α} (h : SliceS n R S w [.slice p m c] xs) (h0 : 0 < n) (i : Nat) (x : α) (hx : xs[i]? = some x) :
    ∃ b o cs, p = some ⟨b, o, none⟩ ∧ S b ∧ b < w.heap.size ∧ cs.length = n ∧ (∀ j u, cs[j]? = some u → w.cell? ⟨b, o + i * n + j, none⟩ = some u) ∧ R S w cs x := by
  obtain ⟨p', c', css, h1, _, _, h4, h5⟩ := h
  simp only [List.cons.injEq, Value.slice.injEq, and_true] at h1
  obtain ⟨rfl, rfl, rfl⟩ := h1
  obtain ⟨cs, hcs, hl, hr⟩ := All2.get h5 i x hx
  have hu0 : cs[0]? = some (cs[0]'(by omega)) := List.getElem?_eq_getElem (by omega)
  obtain ⟨b, o, rfl, hs, hc⟩ := h4 _ _ (ElemsS.cellAt h5 hcs hu0)
  refine ⟨b, o, cs, rfl, hs, World.block_lt_of_cell? w _ hc, hl, fun j u hu => ?_, hr⟩
  rw [Nat.add_assoc]
  exact h4.at (ElemsS.cellAt h5 hcs hu)

def BytesS : Rd (List UInt8) := fun S w cs l => ∃ p c, cs = [.slice p l.length c] ∧ l.length ≤ c ∧ c ≤ maxLen ∧ BytesIn w p l ∧ (l ≠ [] → ∀ a, p = some a → S a.block)

theorem BytesS.still : Still BytesS := by
  rintro S S' w w' cs l ⟨p, c, h1, h2, h3, h4, h5⟩ hk
  refine ⟨p, c, h1, h2, h3, fun i hi => ?_, fun hne a ha => ?_⟩
  · obtain ⟨b, o, e, hc⟩ := h4 i hi
    have hlt := World.block_lt_of_cell? w _ hc
    have := hk b hlt (h5 (by rintro rfl; simp at hi) ⟨b, o, none⟩ e)
    exact ⟨b, o, e, by rw [World.cell?_of_block (a := ⟨b, o + i, none⟩) this.2]; exact hc⟩
  · obtain ⟨b, o, e, hc⟩ := h4 0 (List.length_pos_iff.2 hne)
    have hlt := World.block_lt_of_cell? w _ hc
    rw [e] at ha
    cases ha
    exact (hk b hlt (h5 hne ⟨b, o, none⟩ e)).1

theorem opensS_int {P : Program} {t : TypeId} {k : IntKind} (ht : P.underlying t = some (.int k)) : OpensS P t (IntS k) := opens_int ht
theorem opensS_bool {P : Program} {t : TypeId} (ht : P.underlying t = some .bool) : OpensS P t BoolS := opens_bool ht
theorem opensS_str {P : Program} {t : TypeId} (ht : P.underlying t = some .string) : OpensS P t StrS := opens_str ht
theorem opensS_bytes {P : Program} {t e : TypeId} (ht : P.underlying t = some (.slice e)) (he : P.underlying e = some (.int .u8)) (hn : P.cellsOf e = 1) : OpensS P t BytesS := opens_bytes ht he hn

theorem elems_of {α : Type} {n : Nat} {R : Rd α} {S : Nat → Prop} {w : World} {b o : Nat} (hS : S b) : ∀ (xs : List α) (k : Nat), (∀ i x, xs[i]? = some x → ∃ es, es.length = n ∧ (∀ j u, es[j]? = some u → w.cell? ⟨b, o + (k + i) * n + j, none⟩ = some u) ∧ R S w es x) →
    ∃ css, ElemsS n R S w css xs ∧ CellsIn S w (some ⟨b, o + k * n, none⟩) css.flatten
  | [], _, _ => ⟨[], trivial, CellsIn.nil⟩
  | x :: xs, k, h => by
    obtain ⟨es, hl, hc, hr⟩ := h 0 x rfl
    obtain ⟨css, h1, h2⟩ := elems_of hS xs (k + 1) (fun i y hy => by
      have := h (i + 1) y (by simpa using hy)
      rw [show k + 1 + i = k + (i + 1) from by omega]
      exact this)
    refine ⟨es :: css, ⟨⟨hl, hr⟩, h1⟩, fun j u hu => ⟨b, _, rfl, hS, ?_⟩⟩
    rw [List.flatten_cons] at hu
    by_cases hj : j < es.length
    · rw [List.getElem?_append_left hj] at hu
      exact hc j u hu
    · rw [List.getElem?_append_right (by omega)] at hu
      have := h2.at hu
      rw [← this]
      congr 2
      rw [Nat.succ_mul]
      omega

theorem opensS_slice {α : Type} {P : Program} {t e : TypeId} {n : Nat} {R : Rd α} (ht : P.underlying t = some (.slice e)) (hn : P.cellsOf e = n) (h0 : 0 < n) (hR : OpensS P e R) : OpensS P t (SliceS n R) := by
  intro H enc w base spare held fuel cs x h
  obtain ⟨xs, p, c, h1, h2, h3, h4⟩ := opens_slice ht hn h0 hR H enc w base spare held fuel cs x h
  refine ⟨xs, ?_⟩
  by_cases hx : xs = []
  · subst hx
    exact ⟨p, c, [], h1, h2, h3, CellsIn.nil, trivial⟩
  · obtain ⟨x0, hx0⟩ : ∃ x, xs[0]? = some x := by cases xs with
      | nil => exact absurd rfl hx
      | cons u l => exact ⟨u, rfl⟩
    obtain ⟨b, o, es, rfl, hb, _⟩ := h4 0 x0 hx0
    obtain ⟨css, k1, k2⟩ := elems_of (n := n) (R := R) (S := fun k => k < w.heap.size) (w := w) (b := b) (o := o) hb xs 0 (fun i y hy => by
      obtain ⟨b', o', es', e', _, hl, hc, hr⟩ := h4 i y hy
      cases e'
      exact ⟨es', hl, by rw [Nat.zero_add]; exact hc, hr⟩)
    rw [Nat.zero_mul, Nat.add_zero] at k2
    exact ⟨_, c, css, h1, h2, h3, k2, k1⟩

/-- What a slice yields to an append. -/
theorem SliceS.src {P : Program} {α : Type} {n : Nat} {R : Rd α} {S : Nat → Prop} {w : World} {p : Option Addr} {c m : Nat} {xs : List α} (h : SliceS n R S w [.slice p m c] xs) (hone : ∀ S w cs x, R S w cs x → ∀ u ∈ cs, u.oneCell' = true) {tx e' : TypeId} (hk : P.underlying tx = some (.slice e')) :
    ∃ css, m = xs.length ∧ Src P n tx (.slice p m c) m css.flatten w ∧ ElemsS n R S w css xs := by
  obtain ⟨p', c', css, h1, h2, _, h4, h5⟩ := h
  simp only [List.cons.injEq, Value.slice.injEq, and_true] at h1
  obtain ⟨rfl, rfl, rfl⟩ := h1
  refine ⟨css, rfl, ?_, h5⟩
  have hfl := ElemsS.flat h5
  have hone' : ∀ u ∈ css.flatten, u.oneCell' = true := by
    intro u hu
    obtain ⟨cs, hcs, hu⟩ := List.mem_flatten.1 hu
    obtain ⟨i, hi, rfl⟩ := List.getElem_of_mem hcs
    have hi' : i < xs.length := by rw [← h5.length]; exact hi
    obtain ⟨cs', e1, _, hr⟩ := All2.get h5 i xs[i] (List.getElem?_eq_getElem hi')
    rw [List.getElem?_eq_getElem hi] at e1
    cases e1
    exact hone S w _ _ hr u hu
  by_cases h0 : css.flatten = []
  · rw [h0] at hfl
    have hz : xs.length * n = 0 := by simpa using hfl.symm
    have hrun : ∀ w' : World, (Builtin.firstCells n xs.length (.slice p xs.length c)).run P w' = .ok #[] w' := by
      intro w'
      cases p <;> simp [Builtin.firstCells, loadCells, hz, loadCellsFrom]
    rw [h0]
    exact ⟨.inl ⟨e', hk⟩, fun _ => rfl, hrun w, hrun w.drew, by rw [hz]; rfl, fun u hu => by simp at hu⟩
  · obtain ⟨b, o, rfl, _⟩ := h4.addr h0
    exact Src.ofSlice w hk _ _ _ _ hfl (fun j u hu => by rw [Addr.add_lit]; exact h4.at hu) hone'

/-- A row of the call's own whose elements are read; they don't lean on the row. -/
def OwnS {α : Type} (B : Nat) (e : TypeId) (n : Nat) (R : Rd α) (S : Nat → Prop) (w : World) (v : Value) (xs : List α) : Prop :=
  ∃ css, OwnR B e n w v xs.length css.flatten ∧ ElemsS n R (fun k => S k ∧ rowOf v ≠ some k) w css xs

section
variable {α : Type} {B : Nat} {e : TypeId} {n : Nat} {R : Rd α} {S S' : Nat → Prop} {w w' : World} {v : Value} {xs : List α}
theorem OwnS.empty (p : Option Addr) : OwnS B e n R S w (.slice p 0 0) [] := ⟨[], OwnR.empty _ _ _ _ p, trivial⟩
theorem OwnS.row (h : OwnS B e n R S w v xs) : ∀ k, rowOf v = some k → B ≤ k ∧ k < w.heap.size := by
  obtain ⟨css, h1, _⟩ := h
  exact h1.row
theorem OwnS.base {B' : Nat} (h : OwnS B e n R S w v xs) (hb : B' ≤ B) : OwnS B' e n R S w v xs := by
  obtain ⟨css, h1, h2⟩ := h
  exact ⟨css, h1.base hb, h2⟩
theorem OwnS.touch {p : Nat → Prop} (hR : Still R) (h : OwnS B e n R S w v xs) (ht : Touch p w w') (h1 : ∀ k, rowOf v = some k → ¬ p k) (h2 : ∀ k, k < w.heap.size → S k → rowOf v ≠ some k → S' k ∧ ¬ p k) : OwnS B e n R S' w' v xs := by
  obtain ⟨css, h3, h4⟩ := h
  exact ⟨css, h3.touch ht h1, h4.keep hR (Kept.touch ht (fun k hk hs => ⟨⟨(h2 k hk hs.1 hs.2).1, hs.2⟩, (h2 k hk hs.1 hs.2).2⟩))⟩
theorem OwnS.slice (hR : Still R) (h : OwnS B e n R S w v xs) (h1 : ∀ k, k < w.heap.size → S k → S' k) (h2 : ∀ k, rowOf v = some k → S' k) :
    ∃ p c, v = .slice p xs.length c ∧ SliceS n R S' w [.slice p xs.length c] xs := by
  obtain ⟨css, h3, h4⟩ := h
  obtain ⟨p, c, rfl, k1, k2, k3⟩ := h3.slice
  refine ⟨p, c, rfl, p, c, css, rfl, k1, k2, fun j u hu => ?_, h4.keep hR (Kept.mono w (fun k hk hs => h1 k hk hs.1))⟩
  obtain ⟨g, rfl, hg, _, hc⟩ := k3 j u hu
  exact ⟨g, 0, rfl, h2 g hg, by rw [Nat.zero_add]; exact hc⟩
theorem OwnS.grow {v' : Value} {xs : List α} {css : List (List Value)} (hR : Still R) (h1 : ElemsS n R (fun k => S k ∧ rowOf v ≠ some k) w css xs) (hg : w.grownBy w' (rowOf v)) (hv : ∀ k, rowOf v' = some k → rowOf v = some k ∨ w.heap.size ≤ k) :
    ElemsS n R (fun k => S k ∧ rowOf v' ≠ some k) w' css xs :=
  h1.keep hR (fun k hk hs => ⟨⟨hs.1, fun e => by
    rcases hv k e with h | h
    · exact hs.2 h
    · omega⟩, hg.block k hk (fun e => hs.2 e.symm)⟩)
end

/-- 'append' of a slice onto a row of the call's own. -/
theorem wpList_append_S {α : Type} {P : Program} (w : World) {ops : Array Oper} {rest : List Oper} {o : Oper} {a : Act} {Q : Exit → Act → World → Prop} (hgd : o.guard = none) (s y : Operand) (t tx : TypeId)
    (ho : o.op = .call { callee := .builtin .append, args := #[s, y], argTypes := #[t, tx] })
    (B : Nat) (e e' : TypeId) (size bytes : Nat) (ht : P.underlying t = some (.slice e)) (htx : P.underlying tx = some (.slice e'))
    (hi : ∃ i z, P.info? e = some i ∧ i.zero = some z ∧ i.size = size ∧ i.bytes = bytes ∧ z.cells.size = size)
    (R : Rd α) (hR : Still R) (hone : ∀ S w cs x, R S w cs x → ∀ u ∈ cs, u.oneCell' = true) (S : Nat → Prop)
    (v : Value) (xs : List α) (hsv : a.eval s = v) (hown : OwnS B e size R S w v xs)
    (p : Option Addr) (m c : Nat) (ys : List α) (hx : a.eval y = .slice p m c) (hs : SliceS size R (fun k => S k ∧ rowOf v ≠ some k) w [.slice p m c] ys)
    (hbytes : (xs.length + ys.length) * bytes ≤ 140737488355328) (h63 : xs.length + ys.length ≤ maxLen) (hbase : B ≤ w.heap.size)
    (h : ∀ v' w', OwnS B e size R S w' v' (xs ++ ys) → w.grownBy w' (rowOf v) → (∀ k, rowOf v' = some k → rowOf v = some k ∨ w.heap.size ≤ k) → wpList P ops Q rest (a.put o.dst v') w') :
    wpList P ops Q (o :: rest) a w := by
  obtain ⟨i, z, hi, hz, hsize, hby, hzs⟩ := hi
  obtain ⟨css, k1, k2⟩ := hown
  obtain ⟨dss, rfl, k3, k4⟩ := hs.src (P := P) hone htx
  refine wpList_append_R w hgd s y t tx ho B e i z size bytes ht hi hz hsize hby hzs v _ _ hsv k1 _ _ _ hx k3 h63 hbytes hbase ?_
  intro v' w' r1 r2 r3
  refine h v' w' ⟨css ++ dss, ?_, ?_⟩ r2 r3
  · rw [List.length_append, List.flatten_append]; exact r1
  · exact All2.append (OwnS.grow hR k2 r2 r3) (OwnS.grow hR k4 r2 r3)

/-- A new block of one element. -/
theorem SliceS.new1 {α : Type} {n : Nat} {R : Rd α} {S S' : Nat → Prop} (hR : Still R) (w : World) (e : TypeId) (cs : Array Value) (x : α) (hx : R S w cs.toList x) (hl : cs.size = n) (hS : ∀ k, k < w.heap.size → S k → S' k) (hn : S' w.heap.size) :
    SliceS n R S' (w.alloc (.cells cs e)) [.slice (some ⟨w.heap.size, 0, none⟩) 1 1] [x] := by
  refine ⟨_, _, [cs.toList], rfl, Nat.le_refl _, by simp [maxLen], fun j u hu => ⟨_, _, rfl, hn, ?_⟩, ⟨⟨by simpa using hl, ?_⟩, trivial⟩⟩
  · rw [Nat.zero_add, World.cell?_alloc_new]
    simpa using hu
  · exact hR _ _ _ _ _ _ hx (fun k hk hs => ⟨hS k hk hs, Below.heap_alloc w _ k hk⟩)

end Go.Proofs.Ytldjfmddjbdciaa
