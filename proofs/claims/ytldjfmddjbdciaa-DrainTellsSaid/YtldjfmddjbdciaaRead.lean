/-
  How arguments are read: a reading takes a type's cells to a plain Lean value; it stays whatever happens from block B on.
-/
import Derived.Test.YtldjfmddjbdciaaBase
import Derived.ProofKit
import Derived.Deep.Slices
import Derived.Deep.Fields
import Derived.ChangeSame
namespace Go.Proofs.Ytldjfmddjbdciaa
open Go.RowKit Go.ChangeShapes Go.WideShapes Go.Deep

/-- Every argument of this type is read as some value. -/
def Opens {α : Type} (P : Program) (t : TypeId) (R : Nat → World → List Value → α → Prop) : Prop :=
  ∀ (H : Type) (enc : TypeId × Value → H) (w : World) (base : Nat) (spare : Nat → Bool) (held : Bool) (fuel : Nat) (cs : List Value) (x : DataW H × List MemPlace),
    DataW.trod enc P w base spare held fuel t cs = some x → ∃ y, R w.heap.size w cs y

/-- A reading stays where nothing below B turns. -/
def Stays {α : Type} (R : Nat → World → List Value → α → Prop) : Prop :=
  ∀ (B : Nat) (w w' : World) (cs : List Value) (x : α), R B w cs x → Below B w w' → R B w' cs x

def IntR (k : IntKind) (_B : Nat) (_w : World) (cs : List Value) (n : Int) : Prop := cs = [.int k n] ∧ (Lit.int k n).wf = true
def BoolR (_B : Nat) (_w : World) (cs : List Value) (b : Bool) : Prop := cs = [.bool b]
def StrR (_B : Nat) (_w : World) (cs : List Value) (s : ByteArray) : Prop := cs = [.string s] ∧ s.size ≤ maxLen
/-- A slice whose elements have n cells each. -/
def SliceR {α : Type} (n : Nat) (R : Nat → World → List Value → α → Prop) (B : Nat) (w : World) (cs : List Value) (xs : List α) : Prop :=
  ∃ p c, cs = [.slice p xs.length c] ∧ xs.length ≤ c ∧ c ≤ maxLen ∧
    ∀ i x, xs[i]? = some x → ∃ b o es, p = some ⟨b, o, none⟩ ∧ b < B ∧ es.length = n ∧ (∀ j u, es[j]? = some u → w.cell? ⟨b, o + i * n + j, none⟩ = some u) ∧ R B w es x

theorem IntR.stays (k : IntKind) : Stays (IntR k) := fun _ _ _ _ _ h _ => h
theorem BoolR.stays : Stays BoolR := fun _ _ _ _ _ h _ => h
theorem StrR.stays : Stays StrR := fun _ _ _ _ _ h _ => h
theorem SliceR.stays {α : Type} {n : Nat} {R : Nat → World → List Value → α → Prop} (hR : Stays R) : Stays (SliceR n R) := by
  rintro B w w' cs xs ⟨p, c, h1, h2, h3, h4⟩ hb
  refine ⟨p, c, h1, h2, h3, fun i x hx => ?_⟩
  obtain ⟨b, o, es, e, hlt, hl, hc, hr⟩ := h4 i x hx
  exact ⟨b, o, es, e, hlt, hl, fun j u hu => (hb.cell (p := ⟨b, o + i * n + j, none⟩) hlt).trans (hc j u hu), hR B w w' es x hr hb⟩

theorem opens_int {P : Program} {t : TypeId} {k : IntKind} (ht : P.underlying t = some (.int k)) : Opens P t (IntR k) := by
  intro H enc w base spare held fuel cs x h
  obtain ⟨n, e, _, hw⟩ := DataW.trod_int ht h
  exact ⟨n, e, hw⟩
theorem opens_bool {P : Program} {t : TypeId} (ht : P.underlying t = some .bool) : Opens P t BoolR := by
  intro H enc w base spare held fuel cs x h
  obtain ⟨b, e, _⟩ := DataW.trod_bool ht h
  exact ⟨b, e⟩
theorem opens_str {P : Program} {t : TypeId} (ht : P.underlying t = some .string) : Opens P t StrR := by
  intro H enc w base spare held fuel cs x h
  obtain ⟨s, e, _, hs⟩ := DataW.trod_string ht h
  exact ⟨s, e, hs⟩

theorem list_of_all {α : Type} {p : Nat → α → Prop} : ∀ (n : Nat), (∀ i, i < n → ∃ x, p i x) → ∃ xs : List α, xs.length = n ∧ ∀ i x, xs[i]? = some x → p i x
  | 0, _ => ⟨[], rfl, fun i x h => by simp at h⟩
  | n + 1, h => by
    obtain ⟨xs, hl, hp⟩ := list_of_all n (fun i hi => h i (by omega))
    obtain ⟨x, hx⟩ := h n (by omega)
    refine ⟨xs ++ [x], by simp [hl], fun i y hy => ?_⟩
    by_cases hi : i < n
    · exact hp i y (by rw [List.getElem?_append_left (by omega)] at hy; exact hy)
    · have hin : i = n := by
        have := (List.getElem?_eq_some_iff.1 hy).1
        simp at this; omega
      subst hin
      rw [List.getElem?_append_right (by omega), hl] at hy
      simp at hy
      subst hy
      exact hx

theorem opens_slice {α : Type} {P : Program} {t e : TypeId} {n : Nat} {R : Nat → World → List Value → α → Prop} (ht : P.underlying t = some (.slice e)) (hn : P.cellsOf e = n) (h0 : 0 < n) (hR : Opens P e R) : Opens P t (SliceR n R) := by
  intro H enc w base spare held fuel cs x h
  subst hn
  rcases open_slice ht h with ⟨rfl, _⟩ | ⟨a, len, cap, m, n, D, Pl, rfl, hb, hl, hm, hmm, _, hi⟩
  · exact ⟨[], none, 0, rfl, Nat.le_refl _, by simp [maxLen], fun i x hx => by simp at hx⟩
  · have hlm : len ≤ m := by rw [hmm]; split <;> omega
    obtain ⟨xs, hxl, hxs⟩ := list_of_all (p := fun i x => ∃ b o es, some a = some ⟨b, o, none⟩ ∧ b < w.heap.size ∧ es.length = P.cellsOf e ∧ (∀ j u, es[j]? = some u → w.cell? ⟨b, o + i * P.cellsOf e + j, none⟩ = some u) ∧ R w.heap.size w es x) len (by
      intro i hi'
      obtain ⟨cs', hc, htr⟩ := hi i (by omega)
      obtain ⟨hbl, hlen, hcell⟩ := World.cells?_some hc
      obtain ⟨y, hy⟩ := hR H enc w base spare held n cs' _ htr
      have hc0 := hcell 0 h0
      have hc0' : w.cell? ((a.add (i * P.cellsOf e)).add 0) = some (cs'[0]'(by omega)) := by rw [hc0]; exact List.getElem?_eq_getElem (by omega)
      obtain ⟨b, o, s⟩ := a
      have hs : s = none := by
        obtain ⟨cs0, hc00, _⟩ := hi 0 (by omega)
        obtain ⟨_, hlen0, hcell0⟩ := World.cells?_some hc00
        have h00 := hcell0 0 h0
        have h00' : w.cell? (((⟨b, o, s⟩ : Addr).add (0 * P.cellsOf e)).add 0) = some (cs0[0]'(by omega)) := by rw [h00]; exact List.getElem?_eq_getElem (by omega)
        simpa [Addr.add] using World.cell?_spot h00'
      subst hs
      have hlt : b < w.heap.size := by
        have := World.block_lt_of_cell? w _ hc0'
        simpa [Addr.add_lit] using this
      refine ⟨y, b, o, cs', rfl, hlt, hlen, fun j u hu => ?_, hy⟩
      have hj : j < P.cellsOf e := by rw [← hlen]; exact (List.getElem?_eq_some_iff.1 hu).1
      have := hcell j hj
      rw [Addr.add_lit, Addr.add_lit] at this
      rw [this, hu])
    subst hxl
    exact ⟨xs, some a, cap, rfl, hl, hm, hxs⟩

/-- A struct of one-cell fields, field by field. -/
theorem fields_of {P : Program} {t : TypeId} {fs : Array Field} (ht : P.underlying t = some (.struct fs)) (hone : oneCellFields P fs = true) (hC : P.cellsOf t = fs.size)
    {H : Type} {enc : TypeId × Value → H} {w : World} {base : Nat} {spare : Nat → Bool} {held : Bool} {fuel : Nat} {cs : List Value} {x : DataW H × List MemPlace} (h : DataW.trod enc P w base spare held fuel t cs = some x) :
    cs.length = fs.size ∧ ∀ (j : Nat) (f : Field), fs[j]? = some f → ∃ v n y, cs[j]? = some v ∧ DataW.trod enc P w base spare held n f.type [v] = some y := by
  obtain ⟨ys, n, _, _, hlen, hyl, hf⟩ := DataW.trod_struct ht h
  refine ⟨hlen.trans hC, fun j f hj => ?_⟩
  have hjl : j < fs.size := (Array.getElem?_eq_some_iff.1 hj).1
  obtain ⟨ho, hk⟩ := hone_of hone j f hj
  have h1 := hf j f hj
  rw [ho, hk] at h1
  have hv : cs[j]? = some (cs[j]'(by omega)) := List.getElem?_eq_getElem (by omega)
  have hone' : (cs.drop j).take 1 = [cs[j]'(by omega)] := by
    rw [List.drop_eq_getElem_cons (by omega)]
    rfl
  rw [hone'] at h1
  exact ⟨_, n, _, hv, h1.trans (List.getElem?_eq_getElem (by omega))⟩

/-- A field's own reading. -/
theorem field_of {α : Type} {P : Program} {t : TypeId} {fs : Array Field} (ht : P.underlying t = some (.struct fs)) (hone : oneCellFields P fs = true) (hC : P.cellsOf t = fs.size)
    {H : Type} {enc : TypeId × Value → H} {w : World} {base : Nat} {spare : Nat → Bool} {held : Bool} {fuel : Nat} {cs : List Value} {x : DataW H × List MemPlace} (h : DataW.trod enc P w base spare held fuel t cs = some x)
    {R : Nat → World → List Value → α → Prop} (j : Nat) (f : Field) (hf : fs[j]? = some f) (v : Value) (hv : cs[j]? = some v) (hR : Opens P f.type R) : ∃ y, R w.heap.size w [v] y := by
  obtain ⟨v', n, y, hv', hy⟩ := (fields_of ht hone hC h).2 j f hf
  rw [hv] at hv'
  cases hv'
  exact hR H enc w base spare held n [v] y hy

theorem flat_get {α β : Type} (f : α → List β) (n : Nat) (hf : ∀ x, (f x).length = n) : ∀ (xs : List α) (i j : Nat) (x : α) (u : β), xs[i]? = some x → (f x)[j]? = some u → ((xs.map f).flatten)[i * n + j]? = some u
  | [], i, j, x, u, hx, hu => by simp at hx
  | y :: xs, 0, j, x, u, hx, hu => by
    simp at hx
    subst hx
    have hj : j < (f y).length := (List.getElem?_eq_some_iff.1 hu).1
    rw [Nat.zero_mul, Nat.zero_add, List.map_cons, List.flatten_cons, List.getElem?_append_left hj]
    exact hu
  | y :: xs, i + 1, j, x, u, hx, hu => by
    have hx' : xs[i]? = some x := by simpa using hx
    have h1 := hf y
    rw [List.map_cons, List.flatten_cons, List.getElem?_append_right (by rw [h1, Nat.succ_mul]; omega), h1, show (i + 1) * n + j - n = i * n + j from by rw [Nat.succ_mul]; omega]
    exact flat_get f n hf xs i j x u hx' hu

theorem flat_length {α β : Type} (f : α → List β) (n : Nat) (hf : ∀ x, (f x).length = n) : ∀ (xs : List α), ((xs.map f).flatten).length = xs.length * n
  | [] => by simp
  | y :: xs => by
    rw [List.map_cons, List.flatten_cons, List.length_append, hf, flat_length f n hf xs, List.length_cons, Nat.succ_mul]; omega

/-- A new block reads as a slice. -/
theorem SliceR.new {α : Type} {n : Nat} {R : Nat → World → List Value → α → Prop} (w : World) (e : TypeId) (cs : Array Value) (f : α → List Value) (xs : List α) (hf : ∀ x, (f x).length = n) (hcs : cs.toList = (xs.map f).flatten) (hm : xs.length ≤ maxLen)
    (hR : ∀ x, x ∈ xs → R (w.heap.size + 1) (w.alloc (.cells cs e)) (f x) x) : SliceR n R (w.heap.size + 1) (w.alloc (.cells cs e)) [.slice (some ⟨w.heap.size, 0, none⟩) xs.length xs.length] xs := by
  refine ⟨_, _, rfl, Nat.le_refl _, hm, fun i x hx => ⟨w.heap.size, 0, f x, rfl, by omega, hf x, fun j u hu => ?_, hR x (List.mem_of_getElem? hx)⟩⟩
  have := flat_get f n hf xs i j x u hx hu
  rw [← hcs, Array.getElem?_toList] at this
  rw [Nat.zero_add, World.cell?_alloc_new, this]

/-- A struct type of one-cell fields. -/
structure StructOf (P : Program) (t : TypeId) (fs : Array Field) : Prop where
  ht : P.underlying t = some (.struct fs)
  hone : oneCellFields P fs = true
  hC : P.cellsOf t = fs.size

theorem StructOf.len {P : Program} {t : TypeId} {fs : Array Field} (S : StructOf P t fs)
    {H : Type} {enc : TypeId × Value → H} {w : World} {base : Nat} {spare : Nat → Bool} {held : Bool} {fuel : Nat} {cs : List Value} {x : DataW H × List MemPlace} (h : DataW.trod enc P w base spare held fuel t cs = some x) : cs.length = fs.size :=
  (fields_of S.ht S.hone S.hC h).1

theorem StructOf.field {P : Program} {t : TypeId} {fs : Array Field} (S : StructOf P t fs)
    {H : Type} {enc : TypeId × Value → H} {w : World} {base : Nat} {spare : Nat → Bool} {held : Bool} {fuel : Nat} {cs : List Value} {x : DataW H × List MemPlace} (h : DataW.trod enc P w base spare held fuel t cs = some x)
    {α : Type} {R : Nat → World → List Value → α → Prop} (j : Nat) (f : Field) (hf : fs[j]? = some f) (v : Value) (hv : cs[j]? = some v) (hR : Opens P f.type R) : ∃ y, R w.heap.size w [v] y :=
  field_of S.ht S.hone S.hC h j f hf v hv hR

/-- Bytes. -/
def BytesR (B : Nat) (w : World) (cs : List Value) (l : List UInt8) : Prop :=
  ∃ p c, cs = [.slice p l.length c] ∧ l.length ≤ c ∧ c ≤ maxLen ∧ BytesIn w p l ∧ (l ≠ [] → ∀ a, p = some a → a.block < B)

theorem BytesR.stays : Stays BytesR := by
  rintro B w w' cs l ⟨p, c, h1, h2, h3, h4, h5⟩ hb
  refine ⟨p, c, h1, h2, h3, fun i hi => ?_, h5⟩
  obtain ⟨b, o, e, hc⟩ := h4 i hi
  refine ⟨b, o, e, (hb.cell (p := ⟨b, o + i, none⟩) (h5 (by rintro rfl; simp at hi) ⟨b, o, none⟩ e)).trans hc⟩

theorem byte_of_wf {x : Int} (h : (Lit.int .u8 x).wf = true) : 0 ≤ x ∧ x < 256 := by
  have h1 : IntKind.u8.min = 0 := rfl
  have h2 : IntKind.u8.max = 255 := rfl
  simp only [Lit.wf, Bool.and_eq_true, decide_eq_true_eq] at h
  omega

theorem byte_ofNat {x : Int} (h : 0 ≤ x ∧ x < 256) : ((UInt8.ofNat x.toNat).toNat : Int) = x := by
  simp
  omega

theorem bytesR_of_slice {B : Nat} {w : World} {cs : List Value} {xs : List Int} (h : SliceR 1 (IntR .u8) B w cs xs) : ∃ l, BytesR B w cs l := by
  obtain ⟨p, c, rfl, h2, h3, h4⟩ := h
  refine ⟨xs.map (fun n => UInt8.ofNat n.toNat), p, c, by simp, by simpa using h2, h3, fun i hi => ?_, fun hne a ha => ?_⟩
  · have hi' : i < xs.length := by simpa using hi
    obtain ⟨b, o, es, e, hlt, hl, hc, rfl, hw⟩ := h4 i xs[i] (List.getElem?_eq_getElem hi')
    refine ⟨b, o, e, ?_⟩
    have := hc 0 _ rfl
    rw [Nat.mul_one, Nat.add_zero] at this
    rw [this]
    have hb := byte_ofNat (byte_of_wf hw)
    simp only [List.getD, List.getElem?_map, List.getElem?_eq_getElem hi', Option.map_some, Option.getD_some]
    rw [hb]
  · have h0 : 0 < xs.length := by
      cases xs with
      | nil => exact absurd rfl hne
      | cons a l => simp
    obtain ⟨b, o, es, e, hlt, _⟩ := h4 0 xs[0] (List.getElem?_eq_getElem h0)
    rw [e] at ha
    cases ha
    exact hlt

theorem opens_bytes {P : Program} {t e : TypeId} (ht : P.underlying t = some (.slice e)) (he : P.underlying e = some (.int .u8)) (hn : P.cellsOf e = 1) : Opens P t BytesR := by
  intro H enc w base spare held fuel cs x h
  obtain ⟨xs, hx⟩ := opens_slice ht hn (by omega) (opens_int he) H enc w base spare held fuel cs x h
  exact bytesR_of_slice hx

end Go.Proofs.Ytldjfmddjbdciaa
