/-
  Messages of servers (layer 7): as values and in memory; what may be, as plain laws.
-/
import Derived.Test.YthhebfknikfleaaGreatPackD
namespace Go.Proofs.YthhebfknikfleaaGreat
open Go.RowKit
set_option linter.unusedVariables false
set_option linter.unusedSimpArgs false

/-- A column. -/
structure CoV where
  name : ByteArray
  table : Int
  attr : Int
  oid : Int
  size : Int
  mod : Int
  format : Int
/-- A part of a fault. -/
structure FdV where
  code : Int
  text : ByteArray
def coCells (x : CoV) : List Value := [.string x.name, .int .i64 x.table, .int .i64 x.attr, .int .i64 x.oid, .int .i64 x.size, .int .i64 x.mod, .int .i64 x.format]
def CoS : Rd CoV := fun _ _ cs x => cs = [.string x.name, .int .i64 x.table, .int .i64 x.attr, .int .i64 x.oid, .int .i64 x.size, .int .i64 x.mod, .int .i64 x.format] ∧ x.name.size ≤ maxLen
def FdS : Rd FdV := fun _ _ cs x => cs = [.int .u8 x.code, .string x.text] ∧ x.text.size ≤ maxLen ∧ 0 ≤ x.code ∧ x.code < 256
theorem CoS.still : Still CoS := fun _ _ _ _ _ _ h _ => h
theorem FdS.still : Still FdS := fun _ _ _ _ _ _ h _ => h
theorem CoS.flat : ∀ (S S' : Nat → Prop) (w w' : World) (cs : List Value) (x : CoV), CoS S w cs x → CoS S' w' cs x := fun _ _ _ _ _ _ h => h
theorem FdS.flat : ∀ (S S' : Nat → Prop) (w w' : World) (cs : List Value) (x : FdV), FdS S w cs x → FdS S' w' cs x := fun _ _ _ _ _ _ h => h
theorem CoS.one (S : Nat → Prop) (w : World) (cs : List Value) (x : CoV) (h : CoS S w cs x) : ∀ u ∈ cs, u.oneCell' = true := by
  obtain ⟨rfl, _⟩ := h
  intro u hu
  simp only [List.mem_cons, List.not_mem_nil, or_false] at hu
  rcases hu with rfl | rfl | rfl | rfl | rfl | rfl | rfl <;> rfl
theorem FdS.one (S : Nat → Prop) (w : World) (cs : List Value) (x : FdV) (h : FdS S w cs x) : ∀ u ∈ cs, u.oneCell' = true := by
  obtain ⟨rfl, _⟩ := h
  intro u hu
  simp only [List.mem_cons, List.not_mem_nil, or_false] at hu
  rcases hu with rfl | rfl <;> rfl
/-- The cells of a column in a list. -/
theorem co_at {S : Nat → Prop} {w : World} {p : Option Addr} {n c k : Nat} {xs : List CoV} (h : SliceS 7 CoS S w [.slice p n c] xs) (hk : k < xs.length) :
    ∃ b o, p = some ⟨b, o, none⟩ ∧ S b ∧ b < w.heap.size ∧ w.cell? ⟨b, o + k * 7, none⟩ = some (.string xs[k].name) ∧ w.cell? ⟨b, o + k * 7 + 1, none⟩ = some (.int .i64 xs[k].table) ∧ w.cell? ⟨b, o + k * 7 + 2, none⟩ = some (.int .i64 xs[k].attr) ∧
      w.cell? ⟨b, o + k * 7 + 3, none⟩ = some (.int .i64 xs[k].oid) ∧ w.cell? ⟨b, o + k * 7 + 4, none⟩ = some (.int .i64 xs[k].size) ∧ w.cell? ⟨b, o + k * 7 + 5, none⟩ = some (.int .i64 xs[k].mod) ∧ w.cell? ⟨b, o + k * 7 + 6, none⟩ = some (.int .i64 xs[k].format) ∧ xs[k].name.size ≤ maxLen := by
  obtain ⟨b, o, cs, rfl, hS, hb, _, hc, rfl, hq⟩ := h.elem (by omega) k xs[k] (List.getElem?_eq_getElem hk)
  have c0 := hc 0 _ rfl
  rw [Nat.add_zero] at c0
  exact ⟨b, o, rfl, hS, hb, c0, hc 1 _ rfl, hc 2 _ rfl, hc 3 _ rfl, hc 4 _ rfl, hc 5 _ rfl, hc 6 _ rfl, hq⟩
theorem fd_at {S : Nat → Prop} {w : World} {p : Option Addr} {n c k : Nat} {xs : List FdV} (h : SliceS 2 FdS S w [.slice p n c] xs) (hk : k < xs.length) :
    ∃ b o, p = some ⟨b, o, none⟩ ∧ S b ∧ b < w.heap.size ∧ w.cell? ⟨b, o + k * 2, none⟩ = some (.int .u8 xs[k].code) ∧ w.cell? ⟨b, o + k * 2 + 1, none⟩ = some (.string xs[k].text) ∧ xs[k].text.size ≤ maxLen ∧ 0 ≤ xs[k].code ∧ xs[k].code < 256 := by
  obtain ⟨b, o, cs, rfl, hS, hb, _, hc, rfl, hq⟩ := h.elem (by omega) k xs[k] (List.getElem?_eq_getElem hk)
  have c0 := hc 0 _ rfl
  rw [Nat.add_zero] at c0
  exact ⟨b, o, rfl, hS, hb, c0, hc 1 _ rfl, hq⟩

structure BaV where
  kind : Int
  status : Int
  tag : ByteArray
  name : ByteArray
  value : ByteArray
  n : Int
  m : Int
  oids : List Int
  cols : List CoV
  row : List CeV
  fields : List FdV
/-- Where the lists of a message lie. -/
structure BaP where
  po : Option Addr
  co : Nat
  pc : Option Addr
  cc : Nat
  pr : Option Addr
  cr : Nat
  pf : Option Addr
  cf : Nat
def baNil : BaP := ⟨none, 0, none, 0, none, 0, none, 0⟩
def baCells (x : BaV) (a : BaP) : Array Value := #[.int .u8 x.kind, .int .u8 x.status, .string x.tag, .string x.name, .string x.value, .int .i64 x.n, .int .i64 x.m, .slice a.po x.oids.length a.co, .slice a.pc x.cols.length a.cc, .slice a.pr x.row.length a.cr, .slice a.pf x.fields.length a.cf]
def baArg (x : BaV) (a : BaP) : Value := .agg (baCells x a)
/-- The lists of a message are read. -/
structure BaL (S : Nat → Prop) (w : World) (x : BaV) (a : BaP) : Prop where
  lo : SliceS 1 IntU S w [.slice a.po x.oids.length a.co] x.oids
  lc : SliceS 7 CoS S w [.slice a.pc x.cols.length a.cc] x.cols
  lr : SliceS 2 CeS S w [.slice a.pr x.row.length a.cr] x.row
  lf : SliceS 2 FdS S w [.slice a.pf x.fields.length a.cf] x.fields
/-- Its bytes are bytes. -/
def BaB (x : BaV) : Prop := 0 ≤ x.kind ∧ x.kind < 256 ∧ 0 ≤ x.status ∧ x.status < 256
section
variable {S S' : Nat → Prop} {w w' : World} {x : BaV} {a : BaP}
theorem BaL.keep (h : BaL S w x a) (hk : Kept S S' w w') : BaL S' w' x a :=
  ⟨(SliceS.still IntU.still) _ _ _ _ _ _ h.lo hk, (SliceS.still CoS.still) _ _ _ _ _ _ h.lc hk, (SliceS.still CeS.still) _ _ _ _ _ _ h.lr hk, (SliceS.still FdS.still) _ _ _ _ _ _ h.lf hk⟩
theorem BaL.below (h : BaL S w x a) (hb : Below w.heap.size w w') : BaL S w' x a := h.keep (Kept.all hb)
theorem BaL.weak (h : BaL S w x a) (hS : ∀ k, k < w.heap.size → S k → S' k) : BaL S' w x a := h.keep (Kept.mono w hS)
theorem BaL.any (h : BaL S w x a) : BaL (fun _ => True) w x a := h.weak (fun _ _ _ => trivial)
theorem BaL.lens (h : BaL S w x a) : x.oids.length ≤ maxLen ∧ x.cols.length ≤ maxLen ∧ x.row.length ≤ maxLen ∧ x.fields.length ≤ maxLen :=
  ⟨Nat.le_trans h.lo.len.2.1 h.lo.len.2.2, Nat.le_trans h.lc.len.2.1 h.lc.len.2.2, Nat.le_trans h.lr.len.2.1 h.lr.len.2.2, Nat.le_trans h.lf.len.2.1 h.lf.len.2.2⟩
end

/-- Whether a kind is a server's. -/
def servK (k : Int) : Bool := decide (k ∈ [82, 83, 75, 90, 49, 50, 51, 110, 115, 73, 67, 68, 84, 116, 69, 78])
def inR (n lo hi : Int) : Bool := !outside lo hi n
def colNums (c : CoV) : Bool := inR c.table 0 4294967295 && (inR c.attr 0 65535 && (inR c.oid 0 4294967295 && (inR c.size (-32768) 32767 && (inR c.mod (-2147483648) 2147483647 && inR c.format 0 65535))))
def colB (c : CoV) : Bool := cleanB c.name && colNums c
def fieldB (f : FdV) : Bool := (!(f.code == 0)) && cleanB f.text
def colsB (l : List CoV) : Bool := decide (l.length ≤ 65535) && !l.any (fun c => !colB c)
def fieldsB (l : List FdV) : Bool := decide (l.length ≤ 65535) && !l.any (fun c => !fieldB c)
def coEq (a b : CoV) : Bool := (a.name.toList == b.name.toList) && ((a.table == b.table) && ((a.attr == b.attr) && ((a.oid == b.oid) && ((a.size == b.size) && ((a.mod == b.mod) && (a.format == b.format))))))
def fdEq (a b : FdV) : Bool := (a.code == b.code) && (a.text.toList == b.text.toList)
theorem coEq_self (a : CoV) : coEq a a = true := by simp [coEq]
theorem fdEq_self (a : FdV) : fdEq a a = true := by simp [fdEq]
def headBa (a b : BaV) : Bool := (a.kind == b.kind) && ((a.status == b.status) && ((a.n == b.n) && (a.m == b.m)))
def textBa (a b : BaV) : Bool := (a.tag.toList == b.tag.toList) && ((a.name.toList == b.name.toList) && (a.value.toList == b.value.toList))
def baEq (a b : BaV) : Bool := headBa a b && (textBa a b && (listEq intsEq a.oids b.oids && (listEq coEq a.cols b.cols && (listEq fdEq a.fields b.fields && listEq ceEq a.row b.row))))
theorem baEq_self (a : BaV) : baEq a a = true := by
  simp [baEq, headBa, textBa, listEq_self intsEq_self, listEq_self ceEq_self, listEq_self coEq_self, listEq_self fdEq_self]
def baZero (k : Int) : BaV := ⟨k, 0, ⟨#[]⟩, ⟨#[]⟩, ⟨#[]⟩, 0, 0, [], [], [], []⟩
/-- A message with just the fields that its body has. -/
def keptB (x : BaV) : BaV :=
  if x.kind = 83 then { baZero x.kind with name := x.name, value := x.value }
  else if x.kind = 75 then { baZero x.kind with n := x.n, m := x.m }
  else if x.kind = 90 then { baZero x.kind with status := x.status }
  else if x.kind = 67 then { baZero x.kind with tag := x.tag }
  else if x.kind = 68 then { baZero x.kind with row := x.row }
  else if x.kind = 84 then { baZero x.kind with cols := x.cols }
  else if x.kind = 116 then { baZero x.kind with oids := x.oids }
  else if x.kind = 69 ∨ x.kind = 78 then { baZero x.kind with fields := x.fields }
  else baZero x.kind
def statusB (x : BaV) : Bool := (!(x.kind == 90)) || ((x.status == 73) || ((x.status == 84) || (x.status == 69)))
def textsB (x : BaV) : Bool := cleanB x.tag && (cleanB x.name && cleanB x.value)
def listsB (x : BaV) : Bool := colsB x.cols && (fieldsB x.fields && (valuesV x.row && between x.oids 0 4294967295))
def numsB7 (x : BaV) : Bool := inR x.n 0 4294967295 && inR x.m 0 4294967295
/-- Whether a message of a server's kind may be. -/
def okB (x : BaV) : Bool := textsB x && (listsB x && (numsB7 x && (statusB x && baEq x (keptB x))))
def checkB (x : BaV) : Int := if servK x.kind = true then (if okB x = true then 0 else 1) else 9

/-- A column's bytes behind others; a field's. -/
def colW (b : List UInt8) (c : CoV) : List UInt8 := putV (putV (putV (putV (putV (putV (strB b c.name) c.table 4) c.attr 2) c.oid 4) c.size 2) c.mod 4) c.format 2
def fieldW (b : List UInt8) (f : FdV) : List UInt8 := strB (b ++ [UInt8.ofNat f.code.toNat]) f.text
/-- The body of a message that may be. -/
def bodyB (x : BaV) : List UInt8 :=
  if x.kind = 82 then putV [] 0 4
  else if x.kind = 83 then strB (strB [] x.name) x.value
  else if x.kind = 75 then putV (putV [] x.n 4) x.m 4
  else if x.kind = 90 then [UInt8.ofNat x.status.toNat]
  else if x.kind = 67 then strB [] x.tag
  else if x.kind = 68 then rowB [] x.row
  else if x.kind = 84 then x.cols.foldl colW (putV [] x.cols.length 2)
  else if x.kind = 116 then listB [] x.oids 4
  else if x.kind = 69 ∨ x.kind = 78 then x.fields.foldl fieldW [] ++ [0]
  else []
/-- A message's type, body and error. -/
def encB (x : BaV) : Int × List UInt8 × Int := if checkB x = 0 then (x.kind, bodyB x, 0) else (0, [], checkB x)

end Go.Proofs.YthhebfknikfleaaGreat
