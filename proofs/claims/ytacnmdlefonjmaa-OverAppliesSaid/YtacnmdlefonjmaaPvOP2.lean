/-
  Ground: OvA, RowSet, OvB, OvP, OvC, OvCd.
-/
import Derived.Test.YtacnmdlefonjmaaPvOP1
import Derived.Maps.OwnSet
import Derived.Deep.RegionLaw
import Derived.Deep.RegionWith
import Derived.Deep.DeepCutAuto
import Derived.BigQuiet
/-
  Tables of names (layers 15, 16): as plain values; a map that reads so, a list that reads so.
-/
namespace Go.Proofs.Ytacnmdlefonjmaa
open Go.RowKit Go.Maps
set_option linter.unusedVariables false
set_option linter.unusedSimpArgs false

/-- A table as read: which id a name has, how many names there are. -/
structure TbV where
  f : List UInt8 → Option Int
  n : Nat
abbrev nmB (s : ByteArray) : List UInt8 := s.data.toList
def updF (f : List UInt8 → Option Int) (s : List UInt8) (o : Option Int) : List UInt8 → Option Int := fun x => if x = s then o else f x
theorem updF_same (f : List UInt8 → Option Int) (s : List UInt8) (o : Option Int) : updF f s o s = o := if_pos rfl
theorem updF_other {f : List UInt8 → Option Int} {s x : List UInt8} (h : x ≠ s) (o : Option Int) : updF f s o x = f x := if_neg h
def TbV.getI (t : TbV) (s : List UInt8) : Int := (t.f s).getD 0
def TbV.getB (t : TbV) (s : List UInt8) : Bool := (t.f s).isSome
def TbV.full (t : TbV) (most : Nat) (s : List UInt8) : Bool := !t.getB s && decide (most ≤ t.n)
/-- What Set leaves. -/
def TbV.put (t : TbV) (s : List UInt8) (i : Int) : TbV := ⟨updF t.f s (some i), if t.getB s = true then t.n else t.n + 1⟩
def TbV.set (t : TbV) (most : Nat) (s : List UInt8) (i : Int) : TbV := if t.full most s = true then t else t.put s i
def TbV.setE (t : TbV) (most : Nat) (s : List UInt8) : Int := if t.full most s = true then 6 else 0
/-- What Delete leaves. -/
def TbV.del (t : TbV) (s : List UInt8) : TbV := ⟨updF t.f s none, if t.getB s = true then t.n - 1 else t.n⟩
def tbNo : TbV := ⟨fun _ => none, 0⟩
theorem del_none {t : TbV} {s : List UInt8} (h : t.getB s = false) : t.del s = t := by
  obtain ⟨f, n⟩ := t
  unfold TbV.getB at h
  unfold TbV.del TbV.getB
  simp only at h ⊢
  rw [h]
  simp only [Bool.false_eq_true, if_false, TbV.mk.injEq, and_true]
  funext x
  by_cases e : x = s
  · subst e
    rw [updF_same]
    cases hf : f x with
    | none => rfl
    | some i => rw [hf] at h; simp at h
  · rw [updF_other e]
theorem getI_none {t : TbV} {s : List UInt8} (h : t.getB s = false) : t.getI s = 0 := by
  unfold TbV.getB at h
  unfold TbV.getI
  cases hf : t.f s with
  | none => rfl
  | some i => rw [hf] at h; simp at h
theorem full_no {t : TbV} {most : Nat} {s : List UInt8} (h : t.getB s = true) : t.full most s = false := by unfold TbV.full; rw [h]; rfl
theorem set_len {t : TbV} {most : Nat} {s : List UInt8} {i : Int} (h : t.n ≤ most) : (t.set most s i).n ≤ most := by
  unfold TbV.set
  split
  · exact h
  · rename_i hf
    unfold TbV.put
    simp only
    split
    · exact h
    · rename_i hg
      unfold TbV.full at hf
      have hg' : t.getB s = false := by simpa using hg
      rw [hg'] at hf
      simp at hf
      omega
theorem del_len {t : TbV} {s : List UInt8} : (t.del s).n ≤ t.n := by
  unfold TbV.del
  simp only
  split <;> omega

/-- A name may stand in a table: it is a string, an id is an int. -/
def OkOp (x : OpV) : Prop := x.name.size ≤ maxLen ∧ (Lit.int .i64 x.id).wf = true

/-- A map reads as a table. -/
structure TbD (D : DataW Unit) (t : TbV) : Prop where
  tidy : Tidy D
  has : ∀ s, Maps.has D (.string s) = (t.f s).isSome
  at_ : ∀ s i, t.f s = some i → D.atKey (.string s) (.lit (.int .i64 0)) = .lit (.int .i64 i)
  size : Maps.size D = t.n

theorem TbD.no : TbD (.map []) tbNo := ⟨tidy_empty, fun s => rfl, fun s i h => (by cases h), rfl⟩
theorem lit_ne {a b : List UInt8} (h : a ≠ b) : (Lit.string a) ≠ (Lit.string b) := fun e => h (by cases e; rfl)
theorem TbD.put {D : DataW Unit} {t : TbV} (h : TbD D t) (s : List UInt8) (i : Int) : TbD (D.put (.string s) (.lit (.int .i64 i))) (t.put s i) := by
  have hk : WideAt.IsKeyLit (.string s) := trivial
  refine ⟨h.tidy.put hk _, fun x => ?_, fun x j hx => ?_, ?_⟩
  · unfold TbV.put
    simp only
    by_cases e : x = s
    · subst e
      rw [has_put_same h.tidy.isMap hk, updF_same]
      rfl
    · rw [has_put_other (lit_ne e), updF_other e]
      exact h.has x
  · unfold TbV.put at hx
    simp only at hx
    by_cases e : x = s
    · subst e
      rw [updF_same] at hx
      cases hx
      exact atKey_put_same h.tidy.isMap hk _ _
    · rw [updF_other e] at hx
      rw [atKey_put_other (lit_ne e)]
      exact h.at_ x j hx
  · rw [size_put h.tidy, h.has, h.size]
    rfl
theorem TbD.del {D : DataW Unit} {t : TbV} (h : TbD D t) (s : List UInt8) : TbD (D.del (.string s)) (t.del s) := by
  refine ⟨h.tidy.del _, fun x => ?_, fun x j hx => ?_, ?_⟩
  · unfold TbV.del
    simp only
    by_cases e : x = s
    · subst e
      rw [has_del_same, updF_same]
      rfl
    · rw [has_del_other (lit_ne e), updF_other e]
      exact h.has x
  · unfold TbV.del at hx
    simp only at hx
    by_cases e : x = s
    · subst e
      rw [updF_same] at hx
      cases hx
    · rw [updF_other e] at hx
      rw [atKey_del_other (lit_ne e)]
      exact h.at_ x j hx
  · have := size_del (k := .string s) h.tidy
    rw [h.has, h.size] at this
    unfold TbV.del TbV.getB
    simp only
    split at this <;> rename_i hg
    · rw [if_pos hg]; omega
    · rw [if_neg hg]; omega
theorem TbD.getI {D : DataW Unit} {t : TbV} (h : TbD D t) (s : List UInt8) : D.atKey (.string s) (.lit (.int .i64 0)) = .lit (.int .i64 (t.getI s)) := by
  unfold TbV.getI
  cases hf : t.f s with
  | some i => exact h.at_ s i hf
  | none => exact atKey_of_not_has (by rw [h.has, hf]; rfl) _

/-- A map of no more entries than it reads as. -/
theorem ownsMap_tight {P : Program} {k : TypeId} {R : Value → Option (DataW Unit × List MemPlace)} {w : World} {b n : Nat} {D : DataW Unit} (h : w.ownsMap P k R b n D) : w.ownsMap P k R b (Maps.size D) D := by
  obtain ⟨es, clock, hb, F, hs, rfl⟩ := h
  refine ⟨es, clock, hb, F, ?_, rfl⟩
  have e1 : es.size = ((es.toList.map (Go.WideElems.rg P k R)).foldr DataW.insert []).length := by rw [length_sorted]; simp
  rw [e1]
  exact Nat.le_refl _

/-- A name with its id. -/
structure NmV where
  name : ByteArray
  id : Int
def NmS : Rd NmV := fun _ _ cs x => cs = [.string x.name, .int .i64 x.id]
theorem NmS.still : Still NmS := fun _ _ _ _ _ _ h _ => h
def findN (L : List NmV) (s : List UInt8) : Option Int := (L.find? (fun x => decide (nmB x.name = s))).map NmV.id
/-- A list reads as a table. -/
structure TbN (L : List NmV) (t : TbV) : Prop where
  f : ∀ s, findN L s = t.f s
  len : L.length = t.n
  one : L.Pairwise (fun x y => nmB x.name ≠ nmB y.name)

theorem TbN.no : TbN [] tbNo := ⟨fun s => rfl, rfl, List.Pairwise.nil⟩
theorem findN_none {L : List NmV} {s : List UInt8} (h : ∀ x ∈ L, nmB x.name ≠ s) : findN L s = none := by
  unfold findN
  rw [List.find?_eq_none.2 (fun x hx => by simpa using h x hx)]
  rfl
theorem findN_cons (x : NmV) (L : List NmV) (s : List UInt8) : findN (x :: L) s = if nmB x.name = s then some x.id else findN L s := by
  unfold findN
  rw [List.find?_cons]
  by_cases h : nmB x.name = s
  · rw [if_pos h]; simp [h]
  · rw [if_neg h]; simp [h]
theorem findN_append (L M : List NmV) (s : List UInt8) : findN (L ++ M) s = (findN L s).or (findN M s) := by
  induction L with
  | nil => rfl
  | cons x L ih =>
    rw [List.cons_append, findN_cons, findN_cons]
    by_cases h : nmB x.name = s
    · rw [if_pos h, if_pos h]; rfl
    · rw [if_neg h, if_neg h, ih]
/-- The first place of a name. -/
theorem findN_at : ∀ {L : List NmV} {k : Nat} {s : List UInt8} (hk : k < L.length), (∀ j (hj : j < L.length), j < k → nmB L[j].name ≠ s) → nmB L[k].name = s → findN L s = some L[k].id
  | [], k, s, hk, _, _ => by simp at hk
  | x :: L, 0, s, hk, _, h2 => by rw [findN_cons, if_pos (show nmB x.name = s from h2)]; rfl
  | x :: L, k + 1, s, hk, h1, h2 => by
    have h0 : nmB x.name ≠ s := h1 0 (by simp) (by omega)
    rw [findN_cons, if_neg h0]
    exact findN_at (L := L) (k := k) (by simpa using hk) (fun j hj hjk => h1 (j + 1) (by simpa using hj) (by omega)) h2
theorem findN_end {L : List NmV} {s : List UInt8} (h1 : ∀ j (hj : j < L.length), nmB L[j].name ≠ s) : findN L s = none :=
  findN_none (fun x hx => by obtain ⟨j, hj, rfl⟩ := List.mem_iff_getElem.1 hx; exact h1 j hj)

theorem findN_mem {L : List NmV} {s : List UInt8} {i : Int} (h : findN L s = some i) : ∃ x ∈ L, nmB x.name = s := by
  unfold findN at h
  cases hf : L.find? (fun x => decide (nmB x.name = s)) with
  | none => rw [hf] at h; cases h
  | some x => exact ⟨x, List.mem_of_find?_eq_some hf, by simpa using List.find?_some hf⟩
theorem one_parts {A C : List NmV} {y : NmV} (h : (A ++ y :: C).Pairwise (fun x y => nmB x.name ≠ nmB y.name)) : (∀ x ∈ A, nmB x.name ≠ nmB y.name) ∧ (∀ x ∈ C, nmB x.name ≠ nmB y.name) ∧ (A ++ C).Pairwise (fun x y => nmB x.name ≠ nmB y.name) := by
  rw [List.pairwise_append, List.pairwise_cons] at h
  obtain ⟨h1, ⟨h2, h3⟩, h4⟩ := h
  exact ⟨fun x hx => h4 x hx y (by simp), fun x hx => fun e => h2 x hx e.symm, List.pairwise_append.2 ⟨h1, h3, fun x hx z hz => h4 x hx z (by simp [hz])⟩⟩
theorem one_made {A C : List NmV} {y : NmV} (h : (A ++ C).Pairwise (fun x y => nmB x.name ≠ nmB y.name)) (h1 : ∀ x ∈ A, nmB x.name ≠ nmB y.name) (h2 : ∀ x ∈ C, nmB x.name ≠ nmB y.name) : (A ++ y :: C).Pairwise (fun x y => nmB x.name ≠ nmB y.name) := by
  rw [List.pairwise_append] at h
  obtain ⟨ha, hc, hac⟩ := h
  rw [List.pairwise_append, List.pairwise_cons]
  refine ⟨ha, ⟨fun x hx e => h2 x hx e.symm, hc⟩, fun x hx z hz => ?_⟩
  rcases List.mem_cons.1 hz with rfl | hz
  · exact h1 x hx
  · exact hac x hx z hz
theorem findN_mid {A C : List NmV} {y : NmV} (x : List UInt8) (hA : ∀ z ∈ A, nmB z.name ≠ nmB y.name) : findN (A ++ y :: C) x = if x = nmB y.name then some y.id else findN (A ++ C) x := by
  rw [findN_append, findN_append, findN_cons]
  by_cases e : x = nmB y.name
  · subst e
    rw [if_pos rfl, if_pos rfl, findN_none hA]
    rfl
  · rw [if_neg (fun h => e h.symm), if_neg e]
theorem TbN.split_del {A C : List NmV} {y : NmV} {t : TbV} (h : TbN (A ++ y :: C) t) : TbN (A ++ C) (t.del (nmB y.name)) := by
  obtain ⟨h1, h2, h3⟩ := one_parts h.one
  have hs : t.f (nmB y.name) = some y.id := by rw [← h.f, findN_mid _ h1, if_pos rfl]
  have hg : t.getB (nmB y.name) = true := by unfold TbV.getB; rw [hs]; rfl
  refine ⟨fun s => ?_, ?_, h3⟩
  · unfold TbV.del
    simp only
    by_cases e : s = nmB y.name
    · subst e
      rw [updF_same]
      refine findN_none fun x hx => ?_
      rcases List.mem_append.1 hx with hx | hx
      · exact h1 x hx
      · exact h2 x hx
    · rw [updF_other e, ← h.f, findN_mid _ h1, if_neg e]
  · unfold TbV.del
    simp only
    rw [if_pos hg, ← h.len]
    simp
theorem TbN.split_set {A C : List NmV} {y : NmV} {t : TbV} (h : TbN (A ++ y :: C) t) (i : Int) : TbN (A ++ ⟨y.name, i⟩ :: C) (t.put (nmB y.name) i) := by
  obtain ⟨h1, h2, h3⟩ := one_parts h.one
  have hs : t.f (nmB y.name) = some y.id := by rw [← h.f, findN_mid _ h1, if_pos rfl]
  have hg : t.getB (nmB y.name) = true := by unfold TbV.getB; rw [hs]; rfl
  refine ⟨fun s => ?_, ?_, one_made h3 h1 h2⟩
  · unfold TbV.put
    rw [findN_mid (y := ⟨y.name, i⟩) _ h1]
    simp only
    by_cases e : s = nmB y.name
    · subst e
      rw [updF_same, if_pos rfl]
    · rw [updF_other e, if_neg e, ← h.f, findN_mid _ h1, if_neg e]
  · unfold TbV.put
    simp only
    rw [if_pos hg, ← h.len]
    simp
theorem TbN.split_ins {A C : List NmV} {s : ByteArray} {t : TbV} (h : TbN (A ++ C) t) (hn : t.getB (nmB s) = false) (i : Int) : TbN (A ++ ⟨s, i⟩ :: C) (t.put (nmB s) i) := by
  have hno : ∀ x ∈ A ++ C, nmB x.name ≠ nmB s := by
    intro x hx e
    obtain ⟨k, hk, rfl⟩ := List.mem_iff_getElem.1 hx
    unfold TbV.getB at hn
    rw [← h.f] at hn
    have hnn : findN (A ++ C) (nmB s) = none := by
      cases hf : findN (A ++ C) (nmB s) with
      | none => rfl
      | some j => rw [hf] at hn; cases hn
    unfold findN at hnn
    rw [Option.map_eq_none_iff, List.find?_eq_none] at hnn
    exact hnn _ hx (by simpa using e)
  refine ⟨fun x => ?_, ?_, one_made h.one (fun x hx => hno x (List.mem_append_left _ hx)) (fun x hx => hno x (List.mem_append_right _ hx))⟩
  · unfold TbV.put
    rw [findN_mid (y := ⟨s, i⟩) _ (fun x hx => hno x (List.mem_append_left _ hx))]
    simp only
    by_cases e : x = nmB s
    · subst e
      rw [updF_same, if_pos rfl]
    · rw [updF_other e, if_neg e, ← h.f]
  · unfold TbV.put
    simp only
    rw [if_neg (by rw [hn]; simp), ← h.len]
    simp
    omega

/-- Where a name stands. -/
theorem TbN.there {L : List NmV} {t : TbV} (h : TbN L t) {k : Nat} {s : List UInt8} (hk : k < L.length) (h1 : ∀ j (hj : j < L.length), j < k → nmB L[j].name ≠ s) (h2 : nmB L[k].name = s) : t.getB s = true ∧ t.getI s = L[k].id := by
  have := findN_at hk h1 h2
  rw [h.f] at this
  unfold TbV.getB TbV.getI
  rw [this]
  exact ⟨rfl, rfl⟩
theorem TbN.nowhere {L : List NmV} {t : TbV} (h : TbN L t) {s : List UInt8} (h1 : ∀ j (hj : j < L.length), nmB L[j].name ≠ s) : t.getB s = false := by
  have := findN_end h1
  rw [h.f] at this
  unfold TbV.getB
  rw [this]
  rfl

/-! ### Ops -/
def opT (t : TbV) (o : OpV) : TbV := if o.set = true then t.put (nmB o.name) o.id else t.del (nmB o.name)
def opsT (t : TbV) (l : List OpV) : TbV := l.foldl opT t
/-- All ops of entries. -/
def opsE (l : List EnV) : List OpV := (l.map EnV.good).flatten
def viewT (t : TbV) (l : List EnV) : TbV := opsT t (opsE l)
def idsT (l : List EnV) : List Int := ((opsE l).filter OpV.set).map OpV.id
/-- Apply: what is left, which ids, which error. -/
def appT (most : Nat) : TbV → List OpV → List Int → TbV × List Int × Int
  | t, [], out => (t, out, 0)
  | t, o :: l, out =>
    if o.set = true then
      if t.full most (nmB o.name) = true then (t, out, 6)
      else appT most (t.put (nmB o.name) o.id) l (if 0 < t.getI (nmB o.name) then out ++ [t.getI (nmB o.name)] else out)
    else appT most (t.del (nmB o.name)) l (if 0 < t.getI (nmB o.name) then out ++ [t.getI (nmB o.name)] else out)
theorem appT_ok (most : Nat) : ∀ (l : List OpV) (t : TbV) (out : List Int), (appT most t l out).2.2 = 0 → (appT most t l out).1 = opsT t l
  | [], t, out, _ => rfl
  | o :: l, t, out, h => by
    unfold appT at h ⊢
    unfold opsT
    rw [List.foldl_cons]
    unfold opT
    by_cases hs : o.set = true
    · rw [if_pos hs] at h ⊢
      by_cases hf : t.full most (nmB o.name) = true
      · rw [if_pos hf] at h; simp at h
      · rw [if_neg hf] at h ⊢
        rw [if_pos hs]
        exact appT_ok most l _ _ h
    · rw [if_neg hs] at h ⊢
      rw [if_neg hs]
      exact appT_ok most l _ _ h
theorem appT_err (most : Nat) : ∀ (l : List OpV) (t : TbV) (out : List Int), (appT most t l out).2.2 = 0 ∨ (appT most t l out).2.2 = 6
  | [], t, out => .inl rfl
  | o :: l, t, out => by
    unfold appT
    split
    · split
      · exact .inr rfl
      · exact appT_err most l _ _
    · exact appT_err most l _ _
end Go.Proofs.Ytacnmdlefonjmaa

/-
  One cell of a row of the call's own is turned; readings are weakened, and told of all elements.
-/
namespace Go.Proofs.Ytacnmdlefonjmaa
open Go.RowKit
set_option linter.unusedVariables false
set_option linter.unusedSimpArgs false

theorem flat_set' (n : Nat) (u : Value) (j : Nat) (hj : j < n) : ∀ (css : List (List Value)) (k : Nat) (hk : k < css.length), (∀ c ∈ css, c.length = n) → css.flatten.set (k * n + j) u = (css.set k (css[k].set j u)).flatten
  | [], k, hk, _ => by simp at hk
  | c :: css, 0, hk, h => by
    have hc := h c List.mem_cons_self
    simp only [List.set_cons_zero, List.flatten_cons, Nat.zero_mul, Nat.zero_add, List.getElem_cons_zero]
    rw [List.set_append_left _ _ (by omega)]
  | c :: css, k + 1, hk, h => by
    have hc := h c List.mem_cons_self
    have := flat_set' n u j hj css k (by simpa using hk) (fun c hc => h c (List.mem_cons_of_mem _ hc))
    simp only [List.set_cons_succ, List.flatten_cons, List.getElem_cons_succ]
    rw [List.set_append_right _ _ (by rw [hc, Nat.succ_mul]; omega), hc, show (k + 1) * n + j - n = k * n + j from by rw [Nat.succ_mul]; omega, this]

theorem All2.set' {α β : Type} {p : α → β → Prop} {a : α} {b : β} (hab : p a b) : ∀ {l : List α} {m : List β}, All2 p l m → ∀ k, All2 p (l.set k a) (m.set k b)
  | [], [], _, k => by simp [All2]
  | _ :: _, _ :: _, h, 0 => ⟨hab, h.2⟩
  | _ :: _, _ :: _, h, k + 1 => ⟨h.1, All2.set' hab h.2 k⟩
  | [], _ :: _, h, _ => h.elim
  | _ :: _, [], h, _ => h.elim

section
variable {B : Nat} {e : TypeId} {size : Nat} {w : World} {v : Value} {n : Nat} {xs : List Value}
theorem OwnR.setCell' (h : OwnR B e size w v n xs) (g : Nat) (hg : rowOf v = some g) (j : Nat) (hj : j < xs.length) (u : Value) : OwnR B e size (w.setCell ⟨g, j, none⟩ u) v n (xs.set j u) := by
  refine ⟨by rw [List.length_set]; exact h.1, ?_⟩
  rcases h.2 with ⟨p, rfl, rfl⟩ | ⟨g', cap, cur, rfl, h0, hb, hc, h3, h4, h5, h6⟩
  · rw [rowOf_zero] at hg; cases hg
  · rw [rowOf_pos h0] at hg
    cases hg
    refine .inr ⟨g, cap, cur.setIfInBounds j u, rfl, h0, hb, ?_, h3, h4, by simpa using h5, ?_⟩
    · simp [World.setCell, Array.getElem?_modify, hc]
    · rw [← h6, Array.toList_setIfInBounds, List.take_set]
theorem OwnR.frozen' (h : OwnR B e size w v n xs) (g : Nat) (hg : rowOf v = some g) (i : Nat) : w.frozen? ⟨g, i, none⟩ = false := by
  rcases h.2 with ⟨p, rfl, rfl⟩ | ⟨g', cap, cur, rfl, h0, hb, hc, h3, h4, h5, h6⟩
  · rw [rowOf_zero] at hg; cases hg
  · rw [rowOf_pos h0] at hg
    cases hg
    simp [World.frozen?, hc]
end
section
variable {α : Type} {B : Nat} {e : TypeId} {n : Nat} {R R' : Rd α} {S : Nat → Prop} {w : World} {v : Value} {xs : List α}
/-- Where a row lies that has elements. -/
theorem OwnS.at_row (h : OwnS B e n R S w v xs) (h0 : 0 < xs.length) : ∃ g cap, v = .slice (some ⟨g, 0, none⟩) xs.length cap ∧ rowOf v = some g := by
  obtain ⟨css, hr, _⟩ := h
  rcases hr.2 with ⟨p, rfl, h1⟩ | ⟨g, cap, cur, rfl, h1, _⟩
  · omega
  · exact ⟨g, cap, rfl, rowOf_pos h1⟩
theorem OwnS.frozen (h : OwnS B e n R S w v xs) (g : Nat) (hg : rowOf v = some g) (i : Nat) : w.frozen? ⟨g, i, none⟩ = false := by
  obtain ⟨css, hr, _⟩ := h
  exact hr.frozen' g hg i
/-- One cell of an element is turned. -/
theorem OwnS.setE (hR : Still R) (h : OwnS B e n R S w v xs) (g : Nat) (hg : rowOf v = some g) (k : Nat) (hk : k < xs.length) (j : Nat) (hj : j < n) (u : Value) (x' : α) (hx : ∀ S w cs, R S w cs xs[k] → R S w (cs.set j u) x') :
    OwnS B e n R S (w.setCell ⟨g, k * n + j, none⟩ u) v (xs.set k x') := by
  obtain ⟨css, hr, he⟩ := h
  have hT : Touch (fun i => i = g) w (w.setCell ⟨g, k * n + j, none⟩ u) := (Touch.refl (fun i => i = g) w).setCell (x := ⟨g, k * n + j, none⟩) (fun _ => rfl) _
  have hlen := he.length
  have hkc : k < css.length := by omega
  have h8 : ∀ c ∈ css, c.length = n := by
    intro c hc
    obtain ⟨i, hi, rfl⟩ := List.getElem_of_mem hc
    obtain ⟨c', e1, e2, _⟩ := All2.get he i xs[i] (List.getElem?_eq_getElem (by omega))
    rw [List.getElem?_eq_getElem hi] at e1
    cases e1
    exact e2
  have hfl := ElemsS.flat he
  have he' : ElemsS n R (fun i => S i ∧ rowOf v ≠ some i) (w.setCell ⟨g, k * n + j, none⟩ u) css xs := he.keep hR (Kept.touch hT (fun i _ hi => ⟨hi, fun e => hi.2 (by rw [hg, e])⟩))
  have hck : R (fun i => S i ∧ rowOf v ≠ some i) (w.setCell ⟨g, k * n + j, none⟩ u) css[k] xs[k] := by
    obtain ⟨c', e1, _, e3⟩ := All2.get he' k xs[k] (List.getElem?_eq_getElem hk)
    rw [List.getElem?_eq_getElem hkc] at e1
    cases e1
    exact e3
  have hkn : k * n + j < xs.length * n := by
    have : (k + 1) * n ≤ xs.length * n := Nat.mul_le_mul_right n hk
    rw [Nat.succ_mul] at this
    omega
  refine ⟨css.set k (css[k].set j u), ?_, ?_⟩
  · rw [← flat_set' n u j hj css k hkc h8, List.length_set]
    exact hr.setCell' g hg _ (by rw [hfl]; exact hkn) u
  · exact All2.set' ⟨by rw [List.length_set]; exact h8 _ (List.getElem_mem hkc), hx _ _ _ hck⟩ he' k
end
section
variable {α : Type} {n : Nat} {R R' : Rd α} {S : Nat → Prop} {w : World} {cs : List Value} {xs : List α}
theorem All2.right {α β : Type} {p : α → β → Prop} {q : β → Prop} (hpq : ∀ a b, p a b → q b) : ∀ {l : List α} {m : List β}, All2 p l m → ∀ b ∈ m, q b
  | [], [], _, b, hb => by simp at hb
  | a :: l, c :: m, h, b, hb => by
    rcases List.mem_cons.1 hb with rfl | hb
    · exact hpq _ _ h.1
    · exact All2.right hpq h.2 b hb
  | [], _ :: _, h, _, _ => h.elim
  | _ :: _, [], h, _, _ => h.elim
theorem SliceS.imp (h : SliceS n R S w cs xs) (hi : ∀ cs x, R S w cs x → R' S w cs x) : SliceS n R' S w cs xs := by
  obtain ⟨p, c, css, h1, h2, h3, h4, h5⟩ := h
  exact ⟨p, c, css, h1, h2, h3, h4, h5.imp (fun _ _ ⟨k1, k2⟩ => ⟨k1, hi _ _ k2⟩)⟩
theorem SliceS.all {q : α → Prop} (h : SliceS n R S w cs xs) (hi : ∀ cs x, R S w cs x → q x) : ∀ x ∈ xs, q x := by
  obtain ⟨p, c, css, h1, h2, h3, h4, h5⟩ := h
  exact All2.right (fun a b hab => hi _ _ hab.2) h5
end
end Go.Proofs.Ytacnmdlefonjmaa

/-
  Ops of names as arguments (layer 16): ids are ints, names are strings.
-/
namespace Go.Proofs.Ytacnmdlefonjmaa
open Go.RowKit Go.Maps
set_option linter.unusedVariables false
set_option linter.unusedSimpArgs false

def OpW : Rd OpV := fun S w cs x => OpS S w cs x ∧ OkOp x
def EnW : Rd EnV := fun S w cs x => EnS S w cs x ∧ ∀ o ∈ x.good, OkOp o

theorem opensS_opW : OpensS Try.prog 55 OpW := by
  intro H enc w base spare held fuel cs x h
  have S : StructOf Try.prog 55 _ := ⟨Try.underlying55, by kernel_rfl, by kernel_rfl⟩
  have hl := S.len h
  match cs, hl with
  | [c0, c1, c2], _ =>
    obtain ⟨y0, e0⟩ := S.field h 0 _ rfl c0 rfl (opens_bool Try.underlying4)
    obtain ⟨y1, e1, hs⟩ := S.field h 1 _ rfl c1 rfl (opens_str Try.underlying9)
    obtain ⟨y2, e2, hw⟩ := S.field h 2 _ rfl c2 rfl (opens_int Try.underlying3)
    unfold BoolR at e0
    simp only [List.cons.injEq, and_true] at e0 e1 e2
    subst e0 e1 e2
    exact ⟨⟨y0, y1, y2⟩, rfl, hs, hw⟩
theorem opensS_opsW : OpensS Try.prog 22 (SliceS 3 OpW) := opensS_slice Try.underlying22 (by kernel_rfl) (by omega) opensS_opW
theorem opensS_enW : OpensS Try.prog 52 EnW := by
  intro H enc w base spare held fuel cs x h
  have S : StructOf Try.prog 52 _ := ⟨Try.underlying52, by kernel_rfl, by kernel_rfl⟩
  have hl := S.len h
  match cs, hl with
  | [c0, c1, c2, c3, c4, c5, c6, c7], _ =>
    obtain ⟨y0, e0, _⟩ := S.field h 0 _ rfl c0 rfl (opens_int Try.underlying3)
    obtain ⟨y1, e1⟩ := S.field h 1 _ rfl c1 rfl (opens_bool Try.underlying4)
    obtain ⟨y2, e2, _⟩ := S.field h 2 _ rfl c2 rfl (opens_str Try.underlying9)
    obtain ⟨y3, e3, _⟩ := S.field h 3 _ rfl c3 rfl (opens_str Try.underlying9)
    obtain ⟨y4, h4⟩ := S.field h 4 _ rfl c4 rfl (opensS_slice (n := 3) Try.underlying22 (by kernel_rfl) (by omega) opensS_opW)
    obtain ⟨y5, h5⟩ := S.field h 5 _ rfl c5 rfl (opensS_slice (n := 3) Try.underlying22 (by kernel_rfl) (by omega) opensS_op)
    obtain ⟨y6, h6⟩ := S.field h 6 _ rfl c6 rfl (opensS_slice (n := 2) Try.underlying49 (by kernel_rfl) (by omega) opensS_ca)
    obtain ⟨y7, h7⟩ := S.field h 7 _ rfl c7 rfl (opensS_bytes Try.underlying50 Try.underlying5 (by kernel_rfl))
    obtain ⟨pg, cg, rfl⟩ := SliceS.shape h4
    obtain ⟨pb, cb, rfl⟩ := SliceS.shape h5
    obtain ⟨pc, cc, rfl⟩ := SliceS.shape h6
    obtain ⟨pr, cr, rfl⟩ := BytesS.shape h7
    unfold BoolR at e1
    simp only [List.cons.injEq, and_true] at e0 e1 e2 e3
    subst e0 e1 e2 e3
    exact ⟨⟨y0, y1, y2, y3, y4, y5, y6, y7⟩, ⟨⟨pg, cg, pb, cb, pc, cc, pr, cr⟩, rfl, SliceS.imp h4 (fun _ _ h => h.1), h5, h6, h7⟩, SliceS.all h4 (fun _ _ h => h.2)⟩
theorem opensS_ensW : OpensS Try.prog 23 (SliceS 8 EnW) := opensS_slice Try.underlying23 (by kernel_rfl) (by omega) opensS_enW
theorem ensW_plain {S : Nat → Prop} {w : World} {cs : List Value} {l : List EnV} (h : SliceS 8 EnW S w cs l) : SliceS 8 EnS S w cs l ∧ ∀ o ∈ opsE l, OkOp o := by
  refine ⟨SliceS.imp h (fun _ _ h => h.1), fun o ho => ?_⟩
  unfold opsE at ho
  rw [List.mem_flatten] at ho
  obtain ⟨g, hg, ho⟩ := ho
  rw [List.mem_map] at hg
  obtain ⟨x, hx, rfl⟩ := hg
  exact SliceS.all h (q := fun x => ∀ o ∈ x.good, OkOp o) (fun _ _ h => h.2) x hx o ho
theorem opsW_plain {S : Nat → Prop} {w : World} {cs : List Value} {l : List OpV} (h : SliceS 3 OpW S w cs l) : SliceS 3 OpS S w cs l ∧ ∀ o ∈ l, OkOp o :=
  ⟨SliceS.imp h (fun _ _ h => h.1), SliceS.all h (fun _ _ h => h.2)⟩

/-! ### The document's table in memory -/
abbrev OwnN (B : Nat) (w : World) (v : Value) (L : List NmV) : Prop := OwnS B 91 2 NmS (fun _ => False) w v L
theorem NmS.one (S : Nat → Prop) (w : World) (cs : List Value) (x : NmV) (h : NmS S w cs x) : ∀ u ∈ cs, u.oneCell' = true := by
  unfold NmS at h
  subst h
  intro u hu
  simp only [List.mem_cons, List.not_mem_nil, or_false] at hu
  rcases hu with rfl | rfl <;> rfl
theorem Try.info91 : (Try.prog.info? 91).map (fun i => (i.zero, i.size, i.bytes)) = some (some (.agg #[.string ⟨#[]⟩, .int .i64 0]), 2, 24) := by kernel_rfl
theorem info_nm : ∃ i z, Try.prog.info? 91 = some i ∧ i.zero = some z ∧ i.size = 2 ∧ i.bytes = 24 ∧ z.cells.size = 2 := by
  obtain ⟨i0, hi, hz0, hz1, hz2⟩ := info_parts Try.info91
  exact ⟨i0, _, hi, hz0, hz1, hz2, rfl⟩

/-- The document's table: its struct in block xb, its names in a row of the call's own. -/
structure XbO (B : Nat) (w : World) (xb most : Nat) (v : Value) (L : List NmV) (t : TbV) : Prop where
  blk : Blk w xb 47 #[v, .int .i64 (most : Int)]
  own : OwnN B w v L
  sB : B ≤ xb
  no : rowOf v ≠ some xb
  rd : TbN L t
/-- What a step on it may turn. -/
abbrev XT (xb : Nat) (v : Value) (w w' : World) : Prop := Touch (fun i => i = xb ∨ rowOf v = some i) w w'
section
variable {B : Nat} {w w' : World} {xb most : Nat} {v v' : Value} {L L' : List NmV} {t t' : TbV}
theorem XbO.touch {p : Nat → Prop} (h : XbO B w xb most v L t) (ht : Touch p w w') (h1 : ¬ p xb) (h2 : ∀ k, rowOf v = some k → ¬ p k) : XbO B w' xb most v L t :=
  ⟨ht.blk h.blk h1, h.own.touch NmS.still ht h2 (fun k hk hs _ => hs.elim), h.sB, h.no, h.rd⟩
theorem XbO.still (h : XbO B w xb most v L t) (hb : Below w.heap.size w w') : XbO B w' xb most v L t :=
  h.touch (Touch.of_below (p := fun _ => False) hb) (fun e => e) (fun _ _ e => e)
theorem XbO.base {B' : Nat} (h : XbO B w xb most v L t) (hb : B' ≤ B) : XbO B' w xb most v L t := ⟨h.blk, h.own.base hb, Nat.le_trans hb h.sB, h.no, h.rd⟩
theorem XbO.slice (h : XbO B w xb most v L t) : ∃ p c, v = .slice p L.length c ∧ SliceS 2 NmS (fun k => rowOf v = some k) w [.slice p L.length c] L :=
  h.own.slice NmS.still (S' := fun k => rowOf v = some k) (fun _ _ h => h.elim) (fun _ h => h)
/-- New names. -/
theorem XbO.set (h : Blk w xb 47 #[v, .int .i64 (most : Int)]) (hB : B ≤ xb) (ho : OwnN B w v' L') (hn : rowOf v' ≠ some xb) (hr : TbN L' t') : XbO B (w.setCell ⟨xb, 0, none⟩ v') xb most v' L' t' := by
  have hT : Touch (fun i => i = xb) w (w.setCell ⟨xb, 0, none⟩ v') := (Touch.refl (fun i => i = xb) w).setCell (x := ⟨xb, 0, none⟩) (fun _ => rfl) _
  exact ⟨by simpa using h.set_ 0 v', ho.touch NmS.still hT (fun k hk e => hn (by rw [hk, e])) (fun k _ hs _ => hs.elim), hB, hn, hr⟩
end
/-- The k-th name. -/
theorem nm_at {S : Nat → Prop} {w : World} {p : Option Addr} {n c k : Nat} {L : List NmV} (h : SliceS 2 NmS S w [.slice p n c] L) (hk : k < L.length) :
    ∃ b o, p = some ⟨b, o, none⟩ ∧ S b ∧ b < w.heap.size ∧ w.cell? ⟨b, o + k * 2, none⟩ = some (.string L[k].name) ∧ w.cell? ⟨b, o + k * 2 + 1, none⟩ = some (.int .i64 L[k].id) := by
  obtain ⟨b, o, cs, rfl, hS, hb, _, hc, hr⟩ := h.elem (by omega) k L[k] (List.getElem?_eq_getElem hk)
  unfold NmS at hr
  subst hr
  have c0 := hc 0 _ rfl
  rw [Nat.add_zero] at c0
  exact ⟨b, o, rfl, hS, hb, c0, hc 1 _ rfl⟩
end Go.Proofs.Ytacnmdlefonjmaa

/-
  Layer 16, plain: what a name will be, how many there will be, which ids are set; no program in sight.
-/
namespace Go.Proofs.Ytacnmdlefonjmaa
open Go.RowKit Go.Maps
set_option linter.unusedVariables false
set_option linter.unusedSimpArgs false

theorem nmB_inj {a b : ByteArray} (h : nmB a = nmB b) : a = b := by
  obtain ⟨x⟩ := a
  obtain ⟨y⟩ := b
  have : x = y := Array.toList_inj.1 h
  rw [this]
theorem nmB_eq {a b : ByteArray} : nmB a = nmB b ↔ a = b := ⟨nmB_inj, fun h => by rw [h]⟩

theorem nm_ne {a b : ByteArray} (h : a ≠ b) : (a.toList == b.toList) = false := by
  rw [ByteArray.toList_eq, ByteArray.toList_eq]
  exact beq_eq_false_iff_ne.2 (fun e => h (nmB_inj e))
theorem nm_is {a b : ByteArray} (h : a = b) : (a.toList == b.toList) = true := by
  rw [h]
  exact beq_self_eq_true _
theorem belD (w : World) : Below w.heap.size w w.drew := ((Touch.refl (fun _ => False) w).drew).below (Nat.le_refl _) (fun _ e => e.elim)
theorem bel_dN (w : World) (n : Nat) : Below w.heap.size w (w.drewN n) := ((Touch.refl (fun _ => False) w).drewN n).below (Nat.le_refl _) (fun _ e => e.elim)
/-- The world is the same. -/
def SameW (a b : World) : Prop := a = b
theorem opT_get (t : TbV) (o : OpV) (s : List UInt8) : (opT t o).f s = if nmB o.name = s then (if o.set = true then some o.id else none) else t.f s := by
  unfold opT
  by_cases hs : o.set = true
  · rw [if_pos hs, if_pos hs]
    unfold TbV.put
    simp only
    by_cases e : s = nmB o.name
    · rw [if_pos e.symm, e, updF_same]
    · rw [if_neg (fun h => e h.symm), updF_other e]
  · rw [if_neg hs, if_neg hs]
    unfold TbV.del
    simp only
    by_cases e : s = nmB o.name
    · rw [if_pos e.symm, e, updF_same]
    · rw [if_neg (fun h => e h.symm), updF_other e]
/-- Lookup's step. -/
def lkS (s : ByteArray) (p : Int × Bool) (o : OpV) : Int × Bool := if o.name = s then (if o.set = true then o.id else 0, o.set) else p
theorem lkS_op (t : TbV) (o : OpV) (s : ByteArray) : lkS s (t.getI (nmB s), t.getB (nmB s)) o = ((opT t o).getI (nmB s), (opT t o).getB (nmB s)) := by
  unfold lkS TbV.getI TbV.getB
  rw [opT_get]
  by_cases h : o.name = s
  · have h' : nmB o.name = nmB s := by rw [h]
    rw [if_pos h, if_pos h']
    cases o.set <;> rfl
  · rw [if_neg h, if_neg (fun e => h (nmB_inj e))]
theorem opsT_snoc (t : TbV) (l : List OpV) (o : OpV) : opsT t (l ++ [o]) = opT (opsT t l) o := by
  unfold opsT
  rw [List.foldl_append]
  rfl
theorem lk_fold (s : ByteArray) (t : TbV) : ∀ l : List OpV, l.foldl (lkS s) (t.getI (nmB s), t.getB (nmB s)) = ((opsT t l).getI (nmB s), (opsT t l).getB (nmB s)) := by
  intro l
  induction l generalizing t with
  | nil => rfl
  | cons o l ih =>
    rw [List.foldl_cons, lkS_op, ih]
    rfl
/-- Which names ops speak of. -/
def toldO (l : List OpV) (s : List UInt8) : Bool := l.any (fun o => decide (nmB o.name = s))
theorem toldO_snoc (l : List OpV) (o : OpV) (s : List UInt8) : toldO (l ++ [o]) s = if nmB o.name = s then true else toldO l s := by
  unfold toldO
  rw [List.any_append]
  by_cases h : nmB o.name = s <;> simp [h]
theorem untold (s : List UInt8) : ∀ (l : List OpV) (t : TbV), toldO l s = false → (opsT t l).f s = t.f s
  | [], t, _ => rfl
  | o :: l, t, h => by
    unfold toldO at h
    rw [List.any_cons, Bool.or_eq_false_iff] at h
    have e : nmB o.name ≠ s := by simpa using h.1
    have := untold s l (opT t o) h.2
    rw [opT_get, if_neg e] at this
    exact this
/-- A map reads as what was seen. -/
structure SeenD (D : DataW Unit) (t : TbV) (l : List OpV) : Prop where
  tidy : Tidy D
  has : ∀ s, Maps.has D (.string s) = toldO l s
  at_ : ∀ s, toldO l s = true → D.atKey (.string s) (.lit (.bool false)) = .lit (.bool ((opsT t l).getB s))
theorem SeenD.no (t : TbV) : SeenD (.map []) t [] := ⟨tidy_empty, fun s => rfl, fun s h => by simp [toldO] at h⟩
theorem SeenD.put {D : DataW Unit} {t : TbV} {l : List OpV} (h : SeenD D t l) (o : OpV) : SeenD (D.put (.string (nmB o.name)) (.lit (.bool o.set))) t (l ++ [o]) := by
  have hk : WideAt.IsKeyLit (.string (nmB o.name)) := trivial
  refine ⟨h.tidy.put hk _, fun x => ?_, fun x hx => ?_⟩
  · rw [toldO_snoc]
    by_cases e : nmB o.name = x
    · subst e
      rw [has_put_same h.tidy.isMap hk, if_pos rfl]
    · rw [has_put_other (lit_ne (fun h => e h.symm)), if_neg e]
      exact h.has x
  · rw [opsT_snoc]
    unfold TbV.getB
    rw [opT_get]
    by_cases e : nmB o.name = x
    · subst e
      rw [if_pos rfl, atKey_put_same h.tidy.isMap hk]
      cases o.set <;> rfl
    · rw [toldO_snoc, if_neg e] at hx
      rw [atKey_put_other (lit_ne (fun h => e h.symm)), if_neg e]
      exact h.at_ x hx
/-- What a name was. -/
theorem SeenD.was {D : DataW Unit} {t : TbV} {l : List OpV} (h : SeenD D t l) (s : List UInt8) (c : Bool) (hc : D.atKey (.string s) (.lit (.bool false)) = .lit (.bool c)) :
    (if Maps.has D (.string s) = true then c else t.getB s) = (opsT t l).getB s := by
  rw [h.has]
  by_cases e : toldO l s = true
  · rw [if_pos e]
    have := h.at_ s e
    rw [hc] at this
    injection this with this
    injection this with this
  · rw [if_neg e]
    unfold TbV.getB
    rw [untold s l t (by simpa using e)]
/-- Many's step. -/
theorem opT_n (t : TbV) (o : OpV) : ((opT t o).n : Int) = (if o.set = true then (if t.getB (nmB o.name) = true then (t.n : Int) else t.n + 1) else (if t.getB (nmB o.name) = true then ((t.n - 1 : Nat) : Int) else t.n)) := by
  unfold opT
  by_cases h : o.set = true
  · rw [if_pos h, if_pos h]
    unfold TbV.put
    simp only
    split <;> simp
  · rw [if_neg h, if_neg h]
    unfold TbV.del
    simp only
    split <;> simp
theorem opT_le (t : TbV) (o : OpV) : (opT t o).n ≤ t.n + 1 := by
  unfold opT TbV.put TbV.del
  split
  · simp only
    split <;> omega
  · simp only
    split <;> omega
theorem opsT_le (t : TbV) : ∀ l : List OpV, (opsT t l).n ≤ t.n + l.length := by
  intro l
  induction l generalizing t with
  | nil => exact Nat.le_refl _
  | cons o l ih =>
    have h1 := ih (opT t o)
    have h2 := opT_le t o
    have h3 : opsT t (o :: l) = opsT (opT t o) l := rfl
    rw [h3, List.length_cons]
    omega
/-- A name that is there is counted. -/
theorem TbD.fine {D : DataW Unit} {t : TbV} (h : TbD D t) {s : List UInt8} (hs : t.getB s = true) : 0 < t.n := by
  have := size_del (k := .string s) h.tidy
  unfold TbV.getB at hs
  rw [h.has, h.size, hs] at this
  simp at this
  omega
theorem TbD.op {D : DataW Unit} {t : TbV} (h : TbD D t) (o : OpV) : ∃ D', TbD D' (opT t o) := by
  unfold opT
  split
  · exact ⟨_, h.put _ _⟩
  · exact ⟨_, h.del _⟩
theorem TbD.ops {D : DataW Unit} {t : TbV} (h : TbD D t) (l : List OpV) : ∃ D', TbD D' (opsT t l) := by
  induction l generalizing D t with
  | nil => exact ⟨D, h⟩
  | cons o l ih =>
    obtain ⟨D1, h1⟩ := h.op o
    exact ih h1
/-- Many's step, counted. -/
def manyS (was : Bool) (n : Int) (o : OpV) : Int := if o.set = true then (if was = true then n else n + 1) else (if was = true then n - 1 else n)
theorem manyS_op {D : DataW Unit} {t : TbV} (h : TbD D t) (o : OpV) : manyS (t.getB (nmB o.name)) t.n o = (opT t o).n := by
  rw [opT_n]
  unfold manyS
  cases hb : t.getB (nmB o.name) with
  | false => rfl
  | true =>
    have := h.fine hb
    rw [show ((t.n - 1 : Nat) : Int) = (t.n : Int) - 1 from by omega]
theorem ids_ops : ∀ L : List EnV, ((L.map (fun x => (x.good.filter (fun o => o.set)).map (fun o => o.id))).flatten) = idsT L := by
  intro L
  unfold idsT opsE
  induction L with
  | nil => rfl
  | cons x L ih =>
    rw [List.map_cons, List.flatten_cons, ih, List.map_cons, List.flatten_cons, List.filter_append, List.map_append]
end Go.Proofs.Ytacnmdlefonjmaa

/-
  The document's table of names (layer 15): New, Get, Delete, Set.
-/
namespace Go.Proofs.Ytacnmdlefonjmaa
open Go.RowKit Go.Maps
set_option linter.unusedVariables false
set_option linter.unusedSimpArgs false

theorem rgn_appendNm {ops : Array Oper} {o : Oper} {a : Act} {w : World} {K : Act → World → Prop} {Q : Exit → Act → World → Prop} {F : Prop} (hgd : o.guard = none) (s y : Operand)
    (ho : o.op = .call { callee := .builtin .append, args := #[s, y], argTypes := #[45, 45] })
    (B : Nat) (v : Value) (xs : List NmV) (hsv : a.eval s = v) (hown : OwnN B w v xs) (p : Option Addr) (n c : Nat) (ys : List NmV) (hx : a.eval y = .slice p n c) (hs : SliceS 2 NmS (fun _ => True) w [.slice p n c] ys)
    (hroom : xs.length + ys.length ≤ 1000000) (hbase : B ≤ w.heap.size)
    (h : ∀ v' w', OwnN B w' v' (xs ++ ys) → w.grownBy w' (rowOf v) → (∀ k, rowOf v' = some k → rowOf v = some k ∨ w.heap.size ≤ k) → K (a.put o.dst v') w') :
    if Region.wanted o (yielded ops a.tmps) = true then Oper.wp Try.prog o a w K Q else F := by
  have hw : Region.wanted o (yielded ops a.tmps) = true := by simp [Region.wanted, hgd]
  rw [if_pos hw]
  obtain ⟨i, z, hi, hz, hsize, hby, hzs⟩ := info_nm
  obtain ⟨css, k1, k2⟩ := hown
  obtain ⟨dss, rfl, k3, k4⟩ := hs.src (P := Try.prog) NmS.one Try.underlying45
  obtain ⟨v', w', hrun, r1, r2, r3⟩ := run_append_R (P := Try.prog) 45 45 o.type i z 24 Try.underlying45 hi hz hsize hby hzs k1 _ _ _ k3 (by simp only [maxLen]; omega) (by omega) hbase
  unfold Oper.wp
  simp [execOp, ho, resolve, invoke, builtin, hsv, hx, hrun, Result.andThen]
  refine h v' w' ⟨css ++ dss, ?_, ?_⟩ r2 r3
  · rw [List.length_append, List.flatten_append]; exact r1
  · exact All2.append (k2.imp (fun _ _ h => h)) (k4.imp (fun _ _ h => h))

theorem xNew_ok (most : Nat) (w : World) (h1 : 1 ≤ most) (h2 : most ≤ 4096) :
    Calls Try.prog 30 #[.int .i64 (most : Int)] w fun e w' =>
      e = .returned (.tuple #[.pointer (some ⟨w.heap.size, 0, none⟩), .int .i64 0]) ∧ XbO w.heap.size w' w.heap.size most (.slice none 0 0) [] tbNo ∧ Below w.heap.size w w' := by
  have Hend : Hid (XbO w.heap.size (w.alloc (.cells #[.slice none 0 0, .int .i64 (most : Int)] 47)) w.heap.size most (.slice none 0 0) [] tbNo) :=
    Lib.hid ⟨Blk.new _ _ _, OwnS.empty _, Nat.le_refl _, by simp [rowOf], TbN.no⟩
  have hd1 : decide ((most : Int) < 1) = false := by simp; omega
  have hd2 : decide ((4096 : Int) < (most : Int)) = false := by simp; omega
  go_enter Try.func30, Try.ntmps30
  go_wp2_with fail
  go_ret2
  exact ⟨rfl, Hend.out, (Below.refl _ _).alloc (Nat.le_refl _) _⟩

set_option maxRecDepth 100000 in
set_option maxHeartbeats 4000000 in
theorem xGet_any (B xb most : Nat) (v : Value) (L : List NmV) (t : TbV) (s : ByteArray) (w : World) (h : XbO B w xb most v L t) :
    Calls Try.prog 21 #[.pointer (some ⟨xb, 0, none⟩), .string s] w fun e w' => e = .returned (.tuple #[.int .i64 (t.getI (nmB s)), .bool (t.getB (nmB s))]) ∧ w = w' := by
  obtain ⟨p, c, rfl, hs⟩ := h.slice
  obtain ⟨_, hlc, hcm⟩ := hs.len
  have hc := h.blk.cell
  have Hr := Lib.hid h.rd
  have HS := Lib.hid hs
  unfold maxLen at hcm
  clear h hs
  go_enter Try.func21, Try.ntmps21
  go_wp2_with fail
  go_loopw [6] (fun i wr => ∃ k : Nat, k ≤ L.length ∧ i = .int .i64 k ∧ (∀ j (hj : j < L.length), j < k → nmB L[j].name ≠ nmB s) ∧ SameW w wr) (fun i _ => L.length - (intOf i).toNat)
  case atStart => exact ⟨0, Nat.zero_le _, rfl, fun j _ hj => absurd hj (Nat.not_lt_zero _), rfl⟩
  case round =>
    obtain ⟨k, hk, rfl, hno, hwr⟩ := hrel
    obtain rfl : w = wr := hwr
    have Hno := Lib.hid hno
    clear hno
    by_cases hlt : k < L.length
    · obtain ⟨b, o, rfl, hS, hbl, c0, c1⟩ := nm_at HS.out hlt
      have hlti : (k : Int) < (L.length : Int) := by omega
      by_cases hn : L[k].name = s
      · have Hth := Lib.hid (Hr.out.there hlt Hno.out (by rw [hn]))
        have hd := nm_is hn
        generalize L[k] = x at *
        obtain ⟨xn, xi⟩ := x
        dsimp only at *
        subst hn
        clear Hno
        go_wp2_with fail
        go_ret2
        rw [Hth.out.1, Hth.out.2]
        exact ⟨rfl, rfl⟩
      · have Hne : Hid (nmB L[k].name ≠ nmB s) := Lib.hid (fun e => hn (nmB_inj e))
        have hd := nm_ne hn
        have Hst : Hid (∀ j (hj : j < L.length), j < k + 1 → nmB L[j].name ≠ nmB s) := Lib.hid (fun j hj hjk => by
          by_cases e : j = k
          · subst e; exact Hne.out
          · exact Hno.out j hj (by omega))
        clear Hne Hno
        generalize hxe : L[k] = x at *
        clear hxe
        obtain ⟨xn, xi⟩ := x
        dsimp only at *
        go_wp2_with fail
        go_roundw
        case rel => exact ⟨k + 1, by omega, by go_num, Hst.out, rfl⟩
        case measure => simp [intOf]; omega
    · obtain rfl : k = L.length := by omega
      have Hz := Lib.hid (Hr.out.nowhere (s := nmB s) (fun j hj => Hno.out j hj hj))
      clear Hno
      go_wp2_with fail
      go_ret2
      rw [Hz.out, getI_none Hz.out]
      exact ⟨rfl, rfl⟩
end Go.Proofs.Ytacnmdlefonjmaa

/-
  The document's table of names (layer 15): Delete.
-/
namespace Go.Proofs.Ytacnmdlefonjmaa
open Go.RowKit Go.Maps
set_option linter.unusedVariables false
set_option linter.unusedSimpArgs false

/-- What a step leaves of the document's table. -/
def XbR (B xb most : Nat) (v : Value) (t' : TbV) (w w' : World) : Prop := ∃ v' L', XbO B w' xb most v' L' t' ∧ (∀ k, rowOf v' = some k → rowOf v = some k ∨ w.heap.size ≤ k) ∧ XT xb v w w'
/-- The table gets a new row. -/
theorem XbO.renew {B xb most : Nat} {w w3 : World} {v v3 : Value} {L L' : List NmV} {t t' : TbV} (h : XbO B w xb most v L t) (hb3 : Below w.heap.size w w3) (ho3 : OwnN B w3 v3 L') (hr3 : ∀ k, rowOf v3 = some k → w.heap.size ≤ k) (hr : TbN L' t') :
    Blk w3 xb 47 #[v, .int .i64 (most : Int)] ∧ XbR B xb most v t' w (w3.setCell ⟨xb, 0, none⟩ v3) := by
  have hsl := h.blk.lt
  have hblk := h.blk.below hb3 hsl
  have hT1 : Touch (fun i => i = xb) w3 (w3.setCell ⟨xb, 0, none⟩ v3) := (Touch.refl (fun i => i = xb) w3).setCell (x := ⟨xb, 0, none⟩) (fun _ => rfl) _
  refine ⟨hblk, v3, L', XbO.set hblk h.sB ho3 (fun e => by have := hr3 xb e; omega) hr, fun k hk => .inr (hr3 k hk), ((Touch.of_below hb3).trans hT1).mono (fun k _ e => .inl e)⟩
theorem split_at {α : Type} (L : List α) (k : Nat) (hk : k < L.length) : L = L.take k ++ L[k] :: L.drop (k + 1) := by
  rw [List.getElem_cons_drop, List.take_append_drop]

set_option maxRecDepth 100000 in
set_option maxHeartbeats 8000000 in
theorem xDelete_any (B xb most : Nat) (v : Value) (L : List NmV) (t : TbV) (s : ByteArray) (w : World) (h : XbO B w xb most v L t) (hB : B ≤ w.heap.size) (hl : L.length ≤ 100000) :
    Calls Try.prog 38 #[.pointer (some ⟨xb, 0, none⟩), .string s] w fun e w' => e = .returned (.tuple #[.int .i64 (t.getI (nmB s)), .bool (t.getB (nmB s))]) ∧ XbR B xb most v (t.del (nmB s)) w w' := by
  obtain ⟨p, c, rfl, hs⟩ := h.slice
  obtain ⟨_, hlc, hcm⟩ := hs.len
  have hc := h.blk.cell
  have Hr := Lib.hid h.rd
  have HS := Lib.hid hs
  have H := Lib.hid h
  unfold maxLen at hcm
  clear h hs
  go_enter Try.func38, Try.ntmps38
  go_wp2_with fail
  go_loopw [6] (fun i wr => ∃ k : Nat, k ≤ L.length ∧ i = .int .i64 k ∧ (∀ j (hj : j < L.length), j < k → nmB L[j].name ≠ nmB s) ∧ SameW w wr) (fun i _ => L.length - (intOf i).toNat)
  case atStart => exact ⟨0, Nat.zero_le _, rfl, fun j _ hj => absurd hj (Nat.not_lt_zero _), rfl⟩
  case round =>
    obtain ⟨k, hk, rfl, hno, hwr⟩ := hrel
    obtain rfl : w = wr := hwr
    have Hno := Lib.hid hno
    clear hno
    by_cases hlt : k < L.length
    · have hlti : (k : Int) < (L.length : Int) := by omega
      by_cases hn : L[k].name = s
      · have Hth := Lib.hid (Hr.out.there hlt Hno.out (by rw [hn]))
        obtain ⟨g, cap, hv, hg⟩ := H.out.own.at_row (by omega)
        simp only [Value.slice.injEq, true_and] at hv
        obtain ⟨rfl, rfl⟩ := hv
        obtain ⟨b, o, e, hS, hbl, c0, c1⟩ := nm_at HS.out hlt
        cases e
        rw [Nat.zero_add] at c0 c1
        have Hdel : Hid (TbN (L.take k ++ L.drop (k + 1)) (t.del (nmB s))) := Lib.hid (by
          have h1 := Hr.out
          rw [split_at L k hlt] at h1
          have := h1.split_del
          rwa [hn] at this)
        have hd := nm_is hn
        generalize hxe : L[k] = x at *
        clear hxe
        obtain ⟨xn, xi⟩ := x
        dsimp only at *
        subst hn
        obtain ⟨m, hm⟩ : ∃ m, m = k + 1 := ⟨_, rfl⟩
        have hwk : IntKind.i64.wrap ((k : Int) + 1) = (m : Int) := by rw [IntKind.wrap_i64]; omega
        rw [← hm] at Hdel
        have hmc : (m : Int) ≤ (c : Int) := by omega
        have hml : (m : Int) ≤ (L.length : Int) := by omega
        have hm0 : (0 : Int) ≤ (m : Int) := by omega
        have hkc : (k : Int) ≤ (c : Int) := by omega
        have hk0 : (0 : Int) ≤ (k : Int) := by omega
        have HA : Hid (SliceS 2 NmS (fun _ => True) w.drew [.slice (some ⟨g, 0, none⟩) k c] (L.take k)) := Lib.hid (((HS.out.take' k c hk (by omega) (by unfold maxLen; omega)).weak NmS.still (fun _ _ _ => trivial)).below NmS.still (belD w))
        have HZ : Hid (([] : List NmV).length + (L.take k).length ≤ 1000000 ∧ ([] ++ L.take k).length + (L.drop m).length ≤ 1000000) := Lib.hid (by simp; omega)
        have HK : Hid (([] ++ L.take k).length = k) := Lib.hid (by rw [List.nil_append, List.length_take]; omega)
        have Hm := Lib.hid hm
        have hf := H.out.blk.frozen
        clear Hno hm
        by_cases hcm' : c = m
        · subst hcm'
          have e0 : L.length - c = 0 := by omega
          have HC : Hid (∀ W q, Below w.heap.size w W → SliceS 2 NmS (fun _ => True) W [.slice q 0 0] (L.drop c)) := Lib.hid (fun W q _ => by rw [show L.drop c = [] from List.drop_eq_nil_of_le (by omega)]; exact SliceS.empty _ _ (by simp [maxLen]))
          go_wp2_with fail
          go_region_law (first
            | (refine rgn_appendNm rfl (.const (.slice none 0 0)) (.tmp 41) rfl B (.slice none 0 0) [] rfl (OwnS.empty _) _ _ _ (L.take k) rfl HA.out HZ.out.1 hB ?_; intro v2 w2 ho2 hg2 hn2; have hb2 : Below w.heap.size w w2 := (belD w).trans (Below.of_row hg2 (Nat.le_refl w.drew.heap.size) (fun k hk => by simp [rowOf] at hk)); have HR2 : Hid (∀ k, rowOf v2 = some k → w.heap.size ≤ k) := Lib.hid (fun k hk => (hn2 k hk).elim (fun e => by simp [rowOf] at e) (fun e => e)); obtain ⟨p2, c2, hv2, _⟩ := ho2.slice NmS.still (S' := fun _ => True) (fun _ _ _ => trivial) (fun _ _ => trivial); rw [HK.out] at hv2; subst hv2; have HO2 := Lib.hid ho2; have HB2 := Lib.hid hb2; have hc2 := (H.out.blk.below hb2 H.out.blk.lt).cell; clear ho2 hg2 hn2 hb2)
            | (refine rgn_appendNm rfl (.tmp 42) (.tmp 49) rfl B _ ([] ++ L.take k) rfl HO2.out _ _ _ (L.drop c) rfl (HC.out _ _ HB2.out) HZ.out.2 (by have := HB2.out.size; omega) ?_; intro v4 w4 ho4 hg4 hn4; have hb4 : Below w.heap.size w w4 := HB2.out.trans (Below.of_row hg4 HB2.out.size (fun k hk => HR2.out k hk)); have hR4 : ∀ k, rowOf v4 = some k → w.heap.size ≤ k := (fun k hk => (hn4 k hk).elim (fun e => HR2.out k e) (fun e => Nat.le_trans HB2.out.size e)); obtain ⟨p4, c4, hv4, _⟩ := ho4.slice NmS.still (S' := fun _ => True) (fun _ _ _ => trivial) (fun _ _ => trivial); generalize ([] ++ L.take k ++ L.drop c).length = n4 at hv4; subst hv4; have hP := H.out.renew hb4 ho4 hR4 (by simpa using Hdel.out); have hc4 := hP.1.cell; have hf4 := hP.1.frozen; have HP := Lib.hid hP.2; clear ho4 hg4 hn4 hb4 hR4 hP))
          all_goals
            go_wp2_with fail
            go_ret2
            rw [Hth.out.1, Hth.out.2]
            exact ⟨rfl, HP.out⟩
        · have HC : Hid (∀ W, Below w.heap.size w W → SliceS 2 NmS (fun _ => True) W [.slice (some ⟨g, 0 + m * 2, none⟩) (L.length - m) (c - m)] (L.drop m)) := Lib.hid (fun W hW => ((HS.out.drop' m (by omega)).weak NmS.still (fun _ _ _ => trivial)).below NmS.still hW)
          go_wp2_with fail
          go_region_law (first
            | (refine rgn_appendNm rfl (.const (.slice none 0 0)) (.tmp 41) rfl B (.slice none 0 0) [] rfl (OwnS.empty _) _ _ _ (L.take k) rfl HA.out HZ.out.1 hB ?_; intro v2 w2 ho2 hg2 hn2; have hb2 : Below w.heap.size w w2 := (belD w).trans (Below.of_row hg2 (Nat.le_refl w.drew.heap.size) (fun k hk => by simp [rowOf] at hk)); have HR2 : Hid (∀ k, rowOf v2 = some k → w.heap.size ≤ k) := Lib.hid (fun k hk => (hn2 k hk).elim (fun e => by simp [rowOf] at e) (fun e => e)); obtain ⟨p2, c2, hv2, _⟩ := ho2.slice NmS.still (S' := fun _ => True) (fun _ _ _ => trivial) (fun _ _ => trivial); rw [HK.out] at hv2; subst hv2; have HO2 := Lib.hid ho2; have HB2 := Lib.hid hb2; have hc2 := (H.out.blk.below hb2 H.out.blk.lt).cell; clear ho2 hg2 hn2 hb2)
            | (refine rgn_appendNm rfl (.tmp 42) (.tmp 49) rfl B _ ([] ++ L.take k) rfl HO2.out _ _ _ (L.drop m) rfl (by simpa using HC.out _ HB2.out) HZ.out.2 (by have := HB2.out.size; omega) ?_; intro v4 w4 ho4 hg4 hn4; have hb4 : Below w.heap.size w w4 := HB2.out.trans (Below.of_row hg4 HB2.out.size (fun k hk => HR2.out k hk)); have hR4 : ∀ k, rowOf v4 = some k → w.heap.size ≤ k := (fun k hk => (hn4 k hk).elim (fun e => HR2.out k e) (fun e => Nat.le_trans HB2.out.size e)); obtain ⟨p4, c4, hv4, _⟩ := ho4.slice NmS.still (S' := fun _ => True) (fun _ _ _ => trivial) (fun _ _ => trivial); generalize ([] ++ L.take k ++ L.drop m).length = n4 at hv4; subst hv4; have hP := H.out.renew hb4 ho4 hR4 (by simpa using Hdel.out); have hc4 := hP.1.cell; have hf4 := hP.1.frozen; have HP := Lib.hid hP.2; clear ho4 hg4 hn4 hb4 hR4 hP))
          all_goals
            go_wp2_with fail
            go_ret2
            rw [Hth.out.1, Hth.out.2]
            exact ⟨rfl, HP.out⟩
      · have Hne : Hid (nmB L[k].name ≠ nmB s) := Lib.hid (fun e => hn (nmB_inj e))
        obtain ⟨b, o, rfl, hS, hbl, c0, c1⟩ := nm_at HS.out hlt
        have hd := nm_ne hn
        have Hst : Hid (∀ j (hj : j < L.length), j < k + 1 → nmB L[j].name ≠ nmB s) := Lib.hid (fun j hj hjk => by
          by_cases e : j = k
          · subst e; exact Hne.out
          · exact Hno.out j hj (by omega))
        clear Hne Hno
        generalize hxe : L[k] = x at *
        clear hxe
        obtain ⟨xn, xi⟩ := x
        dsimp only at *
        go_wp2_with fail
        go_roundw
        case rel => exact ⟨k + 1, by omega, by go_num, Hst.out, rfl⟩
        case measure => simp [intOf]; omega
    · obtain rfl : k = L.length := by omega
      have Hz := Lib.hid (Hr.out.nowhere (s := nmB s) (fun j hj => Hno.out j hj hj))
      clear Hno
      go_wp2_with fail
      go_ret2
      rw [Hz.out, getI_none Hz.out, del_none Hz.out]
      exact ⟨rfl, _, _, H.out, fun _ h => .inl h, Touch.refl _ _⟩
end Go.Proofs.Ytacnmdlefonjmaa

