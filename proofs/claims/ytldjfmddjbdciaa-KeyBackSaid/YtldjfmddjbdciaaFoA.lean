/-
  Messages of clients (layer 6): as values and in memory; what may be, as plain laws.
-/
import Derived.Test.YtldjfmddjbdciaaPackB
import Derived.Laws.StructEq
import Derived.BigQuiet
import Derived.WalkMore
import Derived.Deep.QuietTactic
import Derived.Deep.RegionLaw
import Derived.Deep.RegionWith
import Derived.Deep.RegionHeld3
import Derived.Deep.DeepCutAuto
import Derived.Deep.CutBlock
import Derived.Lib.SlBytesConst
namespace Go.Proofs.Ytldjfmddjbdciaa
open Go.RowKit
set_option linter.unusedVariables false
set_option linter.unusedSimpArgs false

structure CeV where
  null : Bool
  bytes : List UInt8
def CeS : Rd CeV := fun S w cs x => ∃ p c, cs = [.bool x.null, .slice p x.bytes.length c] ∧ BytesS S w [.slice p x.bytes.length c] x.bytes
theorem CeS.still : Still CeS := fun S S' w w' cs x ⟨p, c, e, h⟩ hk => ⟨p, c, e, BytesS.still _ _ _ _ _ _ h hk⟩
theorem CeS.one (S : Nat → Prop) (w : World) (cs : List Value) (x : CeV) (h : CeS S w cs x) : ∀ u ∈ cs, u.oneCell' = true := by
  obtain ⟨p, c, rfl, _⟩ := h
  intro u hu
  simp only [List.mem_cons, List.not_mem_nil, or_false] at hu
  rcases hu with rfl | rfl <;> rfl
/-- The cells of a value in a list. -/
theorem ce_at {S : Nat → Prop} {w : World} {p : Option Addr} {n c k : Nat} {xs : List CeV} (h : SliceS 2 CeS S w [.slice p n c] xs) (hk : k < xs.length) :
    ∃ b o q d, p = some ⟨b, o, none⟩ ∧ S b ∧ b < w.heap.size ∧ w.cell? ⟨b, o + k * 2, none⟩ = some (.bool xs[k].null) ∧ w.cell? ⟨b, o + k * 2 + 1, none⟩ = some (.slice q xs[k].bytes.length d) ∧ BytesS S w [.slice q xs[k].bytes.length d] xs[k].bytes := by
  obtain ⟨b, o, cs, rfl, hS, hb, _, hc, q, d, rfl, hq⟩ := h.elem (by omega) k xs[k] (List.getElem?_eq_getElem hk)
  have c0 := hc 0 _ rfl
  rw [Nat.add_zero] at c0
  exact ⟨b, o, q, d, rfl, hS, hb, c0, hc 1 _ rfl, hq⟩
theorem int_at {S : Nat → Prop} {w : World} {p : Option Addr} {n c k : Nat} {xs : List Int} (h : SliceS 1 IntU S w [.slice p n c] xs) (hk : k < xs.length) :
    ∃ b o, p = some ⟨b, o, none⟩ ∧ S b ∧ b < w.heap.size ∧ w.cell? ⟨b, o + k, none⟩ = some (.int .i64 xs[k]) := by
  obtain ⟨b, o, cs, rfl, hS, hb, _, hc, rfl⟩ := h.elem (by omega) k xs[k] (List.getElem?_eq_getElem hk)
  have c0 := hc 0 _ rfl
  rw [Nat.add_zero, Nat.mul_one] at c0
  exact ⟨b, o, rfl, hS, hb, c0⟩

structure FoV where
  kind : Int
  what : Int
  name : ByteArray
  portal : ByteArray
  text : ByteArray
  oids : List Int
  formats : List Int
  results : List Int
  params : List CeV
  max : Int
/-- Where the lists of a message lie. -/
structure FoP where
  po : Option Addr
  co : Nat
  pf : Option Addr
  cf : Nat
  pr : Option Addr
  cr : Nat
  pp : Option Addr
  cp : Nat
def foNil : FoP := ⟨none, 0, none, 0, none, 0, none, 0⟩
def foCells (f : FoV) (a : FoP) : Array Value := #[.int .u8 f.kind, .int .u8 f.what, .string f.name, .string f.portal, .string f.text, .slice a.po f.oids.length a.co, .slice a.pf f.formats.length a.cf, .slice a.pr f.results.length a.cr, .slice a.pp f.params.length a.cp, .int .i64 f.max]
def foArg (f : FoV) (a : FoP) : Value := .agg (foCells f a)
/-- The lists of a message are read. -/
structure FoL (S : Nat → Prop) (w : World) (f : FoV) (a : FoP) : Prop where
  lo : SliceS 1 IntU S w [.slice a.po f.oids.length a.co] f.oids
  lf : SliceS 1 IntU S w [.slice a.pf f.formats.length a.cf] f.formats
  lr : SliceS 1 IntU S w [.slice a.pr f.results.length a.cr] f.results
  lp : SliceS 2 CeS S w [.slice a.pp f.params.length a.cp] f.params
/-- Its bytes are bytes. -/
def FoB (f : FoV) : Prop := 0 ≤ f.kind ∧ f.kind < 256 ∧ 0 ≤ f.what ∧ f.what < 256
section
variable {S S' : Nat → Prop} {w w' : World} {f : FoV} {a : FoP}
theorem FoL.keep (h : FoL S w f a) (hk : Kept S S' w w') : FoL S' w' f a :=
  ⟨(SliceS.still IntU.still) _ _ _ _ _ _ h.lo hk, (SliceS.still IntU.still) _ _ _ _ _ _ h.lf hk, (SliceS.still IntU.still) _ _ _ _ _ _ h.lr hk, (SliceS.still CeS.still) _ _ _ _ _ _ h.lp hk⟩
theorem FoL.below (h : FoL S w f a) (hb : Below w.heap.size w w') : FoL S w' f a := h.keep (Kept.all hb)
theorem FoL.weak (h : FoL S w f a) (hS : ∀ k, k < w.heap.size → S k → S' k) : FoL S' w f a := h.keep (Kept.mono w hS)
theorem FoL.any (h : FoL S w f a) : FoL (fun _ => True) w f a := h.weak (fun _ _ _ => trivial)
theorem FoL.lens (h : FoL S w f a) : f.oids.length ≤ maxLen ∧ f.formats.length ≤ maxLen ∧ f.results.length ≤ maxLen ∧ f.params.length ≤ maxLen :=
  ⟨Nat.le_trans h.lo.len.2.1 h.lo.len.2.2, Nat.le_trans h.lf.len.2.1 h.lf.len.2.2, Nat.le_trans h.lr.len.2.1 h.lr.len.2.2, Nat.le_trans h.lp.len.2.1 h.lp.len.2.2⟩
end

/-- Whether a kind is served, known, or none. -/
def knownV (k : Int) : Int := if k ∈ [66, 67, 68, 69, 72, 80, 81, 83, 88] then 1 else if k ∈ [70, 99, 100, 102, 112] then 2 else 0
def outside (lo hi n : Int) : Bool := decide (n < lo) || decide (hi < n)
def between (l : List Int) (lo hi : Int) : Bool := decide (l.length ≤ 65535) && !l.any (outside lo hi)
def wrongC (c : CeV) : Bool := (c.null && decide (0 < c.bytes.length)) || decide (1048576 < c.bytes.length)
def valuesV (l : List CeV) : Bool := decide (l.length ≤ 65535) && !l.any wrongC
def intsEq (a b : Int) : Bool := a == b
theorem intsEq_self (a : Int) : intsEq a a = true := by simp [intsEq]
def ceEq (a b : CeV) : Bool := (a.null == b.null) && (a.bytes == b.bytes)
theorem ceEq_self (a : CeV) : ceEq a a = true := by simp [ceEq]
def headEq (a b : FoV) : Bool := (a.kind == b.kind) && ((a.what == b.what) && ((a.name.toList == b.name.toList) && ((a.portal.toList == b.portal.toList) && ((a.text.toList == b.text.toList) && (a.max == b.max)))))
def foEq (a b : FoV) : Bool := headEq a b && (listEq intsEq a.oids b.oids && (listEq intsEq a.formats b.formats && (listEq intsEq a.results b.results && listEq ceEq a.params b.params)))
theorem foEq_self (a : FoV) : foEq a a = true := by
  simp [foEq, headEq, listEq_self intsEq_self, listEq_self ceEq_self]
/-- A message with just the fields that its body has. -/
def keptV (f : FoV) : FoV :=
  if f.kind = 80 then ⟨f.kind, 0, f.name, ⟨#[]⟩, f.text, f.oids, [], [], [], 0⟩
  else if f.kind = 66 then ⟨f.kind, 0, f.name, f.portal, ⟨#[]⟩, [], f.formats, f.results, f.params, 0⟩
  else if f.kind = 67 ∨ f.kind = 68 then
    if f.what = 83 then ⟨f.kind, f.what, f.name, ⟨#[]⟩, ⟨#[]⟩, [], [], [], [], 0⟩
    else ⟨f.kind, f.what, ⟨#[]⟩, f.portal, ⟨#[]⟩, [], [], [], [], 0⟩
  else if f.kind = 69 then ⟨f.kind, 0, ⟨#[]⟩, f.portal, ⟨#[]⟩, [], [], [], [], f.max⟩
  else if f.kind = 81 then ⟨f.kind, 0, ⟨#[]⟩, ⟨#[]⟩, f.text, [], [], [], [], 0⟩
  else ⟨f.kind, 0, ⟨#[]⟩, ⟨#[]⟩, ⟨#[]⟩, [], [], [], [], 0⟩
def whatV (f : FoV) : Bool := if f.kind = 67 ∨ f.kind = 68 then (f.what == 83) || (f.what == 80) else f.what == 0
def listsV (f : FoV) : Bool := between f.oids 0 4294967295 && (between f.formats 0 65535 && (between f.results 0 65535 && valuesV f.params))
def textsV (f : FoV) : Bool := cleanB f.name && (cleanB f.portal && cleanB f.text)
def maxV (f : FoV) : Bool := decide (-2147483648 ≤ f.max) && decide (f.max < 2147483648)
/-- Whether a message of a served kind may be. -/
def okF (f : FoV) : Bool := whatV f && (listsV f && (textsV f && (maxV f && foEq f (keptV f))))
def checkF (f : FoV) : Int := if knownV f.kind = 1 then (if okF f = true then 0 else 1) else 9

/-- Bytes with a list behind them; with values behind them. -/
def listB (b : List UInt8) (l : List Int) (size : Nat) : List UInt8 := l.foldl (fun b n => putV b n size) (putV b l.length 2)
def cellB (b : List UInt8) (c : CeV) : List UInt8 := if c.null then putV b 4294967295 4 else putV b c.bytes.length 4 ++ c.bytes
def rowB (b : List UInt8) (l : List CeV) : List UInt8 := l.foldl cellB (putV b l.length 2)
def strB (b : List UInt8) (s : ByteArray) : List UInt8 := (b ++ s.data.toList) ++ [0]
/-- The body of a message that may be. -/
def bodyF (f : FoV) : List UInt8 :=
  if f.kind = 80 then listB (strB (strB [] f.name) f.text) f.oids 4
  else if f.kind = 66 then listB (rowB (listB (strB (strB [] f.portal) f.name) f.formats 2) f.params) f.results 2
  else if f.kind = 67 ∨ f.kind = 68 then strB [UInt8.ofNat f.what.toNat] (if f.what = 83 then f.name else f.portal)
  else if f.kind = 69 then putV (strB [] f.portal) f.max 4
  else if f.kind = 81 then strB [] f.text
  else []
/-- A message's type, body and error. -/
def encF (f : FoV) : Int × List UInt8 × Int := if checkF f = 0 then (f.kind, bodyF f, 0) else (0, [], checkF f)

end Go.Proofs.Ytldjfmddjbdciaa
