/-
  Ground: PackD.
-/
import Derived.Test.YthhebfknikfleaaGreatPackB
import Derived.Laws.StructEq
import Derived.BigQuiet
import Derived.WalkMore
import Derived.Deep.QuietTactic
import Derived.Deep.RegionLaw
import Derived.Deep.RegionWith
import Derived.Deep.RegionHeld3
import Derived.Deep.DeepCutAuto
import Derived.Deep.CutBlock
import Derived.Lib.SlBytesConst
import Derived.Test.YthhebfknikfleaaGreatPackA
/-
  Messages of clients (layer 6): as values and in memory; what may be, as plain laws.
-/
namespace Go.Proofs.YthhebfknikfleaaGreat
open Go.RowKit
set_option linter.unusedVariables false
set_option linter.unusedSimpArgs false

structure CeV where
  null : Bool
  bytes : List UInt8
def CeS : Rd CeV := fun S w cs x => ∃ p c, cs = [.bool x.null, .slice p x.bytes.length c] ∧ BytesS S w [.slice p x.bytes.length c] x.bytes
theorem CeS.still : Still CeS := fun S S' w w' cs x ⟨p, c, e, h⟩ hk => ⟨p, c, e, BytesS.still _ _ _ _ _ _ h hk⟩
theorem CeS.one (S : Nat → Prop) (w : World) (cs : List Value) (x : CeV) (h : CeS S w cs x) : ∀ u ∈ cs, u.oneCell' = true := by
  obtain ⟨p, c, rfl, _⟩ := h
  intro u hu
  simp only [List.mem_cons, List.not_mem_nil, or_false] at hu
  rcases hu with rfl | rfl <;> rfl
/-- The cells of a value in a list. -/
theorem ce_at {S : Nat → Prop} {w : World} {p : Option Addr} {n c k : Nat} {xs : List CeV} (h : SliceS 2 CeS S w [.slice p n c] xs) (hk : k < xs.length) :
    ∃ b o q d, p = some ⟨b, o, none⟩ ∧ S b ∧ b < w.heap.size ∧ w.cell? ⟨b, o + k * 2, none⟩ = some (.bool xs[k].null) ∧ w.cell? ⟨b, o + k * 2 + 1, none⟩ = some (.slice q xs[k].bytes.length d) ∧ BytesS S w [.slice q xs[k].bytes.length d] xs[k].bytes := by
  obtain ⟨b, o, cs, rfl, hS, hb, _, hc, q, d, rfl, hq⟩ := h.elem (by omega) k xs[k] (List.getElem?_eq_getElem hk)
  have c0 := hc 0 _ rfl
  rw [Nat.add_zero] at c0
  exact ⟨b, o, q, d, rfl, hS, hb, c0, hc 1 _ rfl, hq⟩
theorem int_at {S : Nat → Prop} {w : World} {p : Option Addr} {n c k : Nat} {xs : List Int} (h : SliceS 1 IntU S w [.slice p n c] xs) (hk : k < xs.length) :
    ∃ b o, p = some ⟨b, o, none⟩ ∧ S b ∧ b < w.heap.size ∧ w.cell? ⟨b, o + k, none⟩ = some (.int .i64 xs[k]) := by
  obtain ⟨b, o, cs, rfl, hS, hb, _, hc, rfl⟩ := h.elem (by omega) k xs[k] (List.getElem?_eq_getElem hk)
  have c0 := hc 0 _ rfl
  rw [Nat.add_zero, Nat.mul_one] at c0
  exact ⟨b, o, rfl, hS, hb, c0⟩

structure FoV where
  kind : Int
  what : Int
  name : ByteArray
  portal : ByteArray
  text : ByteArray
  oids : List Int
  formats : List Int
  results : List Int
  params : List CeV
  max : Int
/-- Where the lists of a message lie. -/
structure FoP where
  po : Option Addr
  co : Nat
  pf : Option Addr
  cf : Nat
  pr : Option Addr
  cr : Nat
  pp : Option Addr
  cp : Nat
def foNil : FoP := ⟨none, 0, none, 0, none, 0, none, 0⟩
def foCells (f : FoV) (a : FoP) : Array Value := #[.int .u8 f.kind, .int .u8 f.what, .string f.name, .string f.portal, .string f.text, .slice a.po f.oids.length a.co, .slice a.pf f.formats.length a.cf, .slice a.pr f.results.length a.cr, .slice a.pp f.params.length a.cp, .int .i64 f.max]
def foArg (f : FoV) (a : FoP) : Value := .agg (foCells f a)
/-- The lists of a message are read. -/
structure FoL (S : Nat → Prop) (w : World) (f : FoV) (a : FoP) : Prop where
  lo : SliceS 1 IntU S w [.slice a.po f.oids.length a.co] f.oids
  lf : SliceS 1 IntU S w [.slice a.pf f.formats.length a.cf] f.formats
  lr : SliceS 1 IntU S w [.slice a.pr f.results.length a.cr] f.results
  lp : SliceS 2 CeS S w [.slice a.pp f.params.length a.cp] f.params
/-- Its bytes are bytes. -/
def FoB (f : FoV) : Prop := 0 ≤ f.kind ∧ f.kind < 256 ∧ 0 ≤ f.what ∧ f.what < 256
section
variable {S S' : Nat → Prop} {w w' : World} {f : FoV} {a : FoP}
theorem FoL.keep (h : FoL S w f a) (hk : Kept S S' w w') : FoL S' w' f a :=
  ⟨(SliceS.still IntU.still) _ _ _ _ _ _ h.lo hk, (SliceS.still IntU.still) _ _ _ _ _ _ h.lf hk, (SliceS.still IntU.still) _ _ _ _ _ _ h.lr hk, (SliceS.still CeS.still) _ _ _ _ _ _ h.lp hk⟩
theorem FoL.below (h : FoL S w f a) (hb : Below w.heap.size w w') : FoL S w' f a := h.keep (Kept.all hb)
theorem FoL.weak (h : FoL S w f a) (hS : ∀ k, k < w.heap.size → S k → S' k) : FoL S' w f a := h.keep (Kept.mono w hS)
theorem FoL.any (h : FoL S w f a) : FoL (fun _ => True) w f a := h.weak (fun _ _ _ => trivial)
theorem FoL.lens (h : FoL S w f a) : f.oids.length ≤ maxLen ∧ f.formats.length ≤ maxLen ∧ f.results.length ≤ maxLen ∧ f.params.length ≤ maxLen :=
  ⟨Nat.le_trans h.lo.len.2.1 h.lo.len.2.2, Nat.le_trans h.lf.len.2.1 h.lf.len.2.2, Nat.le_trans h.lr.len.2.1 h.lr.len.2.2, Nat.le_trans h.lp.len.2.1 h.lp.len.2.2⟩
end

/-- Whether a kind is served, known, or none. -/
def knownV (k : Int) : Int := if k ∈ [66, 67, 68, 69, 72, 80, 81, 83, 88] then 1 else if k ∈ [70, 99, 100, 102, 112] then 2 else 0
def outside (lo hi n : Int) : Bool := decide (n < lo) || decide (hi < n)
def between (l : List Int) (lo hi : Int) : Bool := decide (l.length ≤ 65535) && !l.any (outside lo hi)
def wrongC (c : CeV) : Bool := (c.null && decide (0 < c.bytes.length)) || decide (1048576 < c.bytes.length)
def valuesV (l : List CeV) : Bool := decide (l.length ≤ 65535) && !l.any wrongC
def intsEq (a b : Int) : Bool := a == b
theorem intsEq_self (a : Int) : intsEq a a = true := by simp [intsEq]
def ceEq (a b : CeV) : Bool := (a.null == b.null) && (a.bytes == b.bytes)
theorem ceEq_self (a : CeV) : ceEq a a = true := by simp [ceEq]
def headEq (a b : FoV) : Bool := (a.kind == b.kind) && ((a.what == b.what) && ((a.name.toList == b.name.toList) && ((a.portal.toList == b.portal.toList) && ((a.text.toList == b.text.toList) && (a.max == b.max)))))
def foEq (a b : FoV) : Bool := headEq a b && (listEq intsEq a.oids b.oids && (listEq intsEq a.formats b.formats && (listEq intsEq a.results b.results && listEq ceEq a.params b.params)))
theorem foEq_self (a : FoV) : foEq a a = true := by
  simp [foEq, headEq, listEq_self intsEq_self, listEq_self ceEq_self]
/-- A message with just the fields that its body has. -/
def keptV (f : FoV) : FoV :=
  if f.kind = 80 then ⟨f.kind, 0, f.name, ⟨#[]⟩, f.text, f.oids, [], [], [], 0⟩
  else if f.kind = 66 then ⟨f.kind, 0, f.name, f.portal, ⟨#[]⟩, [], f.formats, f.results, f.params, 0⟩
  else if f.kind = 67 ∨ f.kind = 68 then
    if f.what = 83 then ⟨f.kind, f.what, f.name, ⟨#[]⟩, ⟨#[]⟩, [], [], [], [], 0⟩
    else ⟨f.kind, f.what, ⟨#[]⟩, f.portal, ⟨#[]⟩, [], [], [], [], 0⟩
  else if f.kind = 69 then ⟨f.kind, 0, ⟨#[]⟩, f.portal, ⟨#[]⟩, [], [], [], [], f.max⟩
  else if f.kind = 81 then ⟨f.kind, 0, ⟨#[]⟩, ⟨#[]⟩, f.text, [], [], [], [], 0⟩
  else ⟨f.kind, 0, ⟨#[]⟩, ⟨#[]⟩, ⟨#[]⟩, [], [], [], [], 0⟩
def whatV (f : FoV) : Bool := if f.kind = 67 ∨ f.kind = 68 then (f.what == 83) || (f.what == 80) else f.what == 0
def listsV (f : FoV) : Bool := between f.oids 0 4294967295 && (between f.formats 0 65535 && (between f.results 0 65535 && valuesV f.params))
def textsV (f : FoV) : Bool := cleanB f.name && (cleanB f.portal && cleanB f.text)
def maxV (f : FoV) : Bool := decide (-2147483648 ≤ f.max) && decide (f.max < 2147483648)
/-- Whether a message of a served kind may be. -/
def okF (f : FoV) : Bool := whatV f && (listsV f && (textsV f && (maxV f && foEq f (keptV f))))
def checkF (f : FoV) : Int := if knownV f.kind = 1 then (if okF f = true then 0 else 1) else 9

/-- Bytes with a list behind them; with values behind them. -/
def listB (b : List UInt8) (l : List Int) (size : Nat) : List UInt8 := l.foldl (fun b n => putV b n size) (putV b l.length 2)
def cellB (b : List UInt8) (c : CeV) : List UInt8 := if c.null then putV b 4294967295 4 else putV b c.bytes.length 4 ++ c.bytes
def rowB (b : List UInt8) (l : List CeV) : List UInt8 := l.foldl cellB (putV b l.length 2)
def strB (b : List UInt8) (s : ByteArray) : List UInt8 := (b ++ s.data.toList) ++ [0]
/-- The body of a message that may be. -/
def bodyF (f : FoV) : List UInt8 :=
  if f.kind = 80 then listB (strB (strB [] f.name) f.text) f.oids 4
  else if f.kind = 66 then listB (rowB (listB (strB (strB [] f.portal) f.name) f.formats 2) f.params) f.results 2
  else if f.kind = 67 ∨ f.kind = 68 then strB [UInt8.ofNat f.what.toNat] (if f.what = 83 then f.name else f.portal)
  else if f.kind = 69 then putV (strB [] f.portal) f.max 4
  else if f.kind = 81 then strB [] f.text
  else []
/-- A message's type, body and error. -/
def encF (f : FoV) : Int × List UInt8 × Int := if checkF f = 0 then (f.kind, bodyF f, 0) else (0, [], checkF f)

end Go.Proofs.YthhebfknikfleaaGreat

/-
  slices.IndexFunc and ContainsFunc at ints, whatever the function handed in: its contract is a premise.
-/
namespace Go.Proofs.YthhebfknikfleaaGreat
open Go.RowKit
set_option linter.unusedVariables false
set_option linter.unusedSimpArgs false

set_option maxRecDepth 100000 in
set_option maxHeartbeats 4000000 in
theorem indexInt2 (K : FuncId) (u v : Value) (P : Int → Bool) (S : Nat → Prop) (p : Option Addr) (n c : Nat) (L : List Int) (w : World) (h : SliceS 1 IntU S w [.slice p n c] L)
    (hE : ∀ (args : Array Value) (w0 : World), (callFunc K args).run Tryz.prog w0 = .ok (.enter K args) w0) (hK : ∀ (x : Int) (w0 : World), Below w.heap.size w w0 →  Calls Tryz.prog K #[.int .i64 x, u, v] w0 fun e w' => e = .returned (.bool (P x)) ∧ Below w0.heap.size w0 w') :
    Calls Tryz.prog 137 #[.slice p n c, .func (.func K) #[] #[u, v]] w fun e w' => ∃ r, e = .returned (.int .i64 r) ∧ IdxG P L r ∧ Below w.heap.size w w' := by
  have H := Lib.hid h
  have HK := Lib.hid hK
  obtain ⟨rfl, hlc, hcm⟩ := h.len
  unfold maxLen at hcm
  clear h hK
  go_enter Tryz.func137, Tryz.ntmps137
  go_wp2_with fail
  go_loopw [5, 8] (fun _ i wr => ∃ k : Nat, k ≤ L.length ∧ i = .int .i64 k ∧ k ≤ aheadG P L ∧ Below w.heap.size w wr) (fun _ i _ => L.length - (intOf i).toNat)
  case atStart => exact ⟨0, Nat.zero_le _, rfl, Nat.zero_le _, Below.refl _ _⟩
  case round =>
    obtain ⟨k, hk, rfl, hka, hb⟩ := hrel
    have hsz := hb.size
    have Hb := Lib.hid hb
    have Hka := Lib.hid hka
    clear hka
    by_cases hlt : k < L.length
    · obtain ⟨b, o, rfl, hS, hbl, c0⟩ := int_at (H.out.below IntU.still hb) hlt
      have Hgo := Lib.hid (aheadG_go P L k hlt)
      have Hat := Lib.hid (aheadG_at P L k hlt)
      clear hb hS
      generalize L[k] = x at *
      have Hc := Lib.hid (HK.out x  wr Hb.out)
      have hlti : (k : Int) < (L.length : Int) := by omega
      go_wp2_with fail
      refine Hc.out.mono ?_
      rintro e w1 ⟨rfl, hb1⟩
      have Hb1 := Lib.hid (Hb.out.trans (hb1.mono hsz))
      clear hb1
      cases hP : P x with
      | false =>
        have Hn := Lib.hid (Hgo.out Hka.out hP)
        clear hP
        go_wp2_with fail
        go_roundw
        case rel => exact ⟨k + 1, by omega, by go_num, Hn.out, Hb1.out⟩
        case measure => simp [intOf]; omega
      | true =>
        have Hn := Lib.hid (Hat.out Hka.out hP)
        clear hP
        go_wp2_with fail
        go_ret
        exact ⟨_, rfl, .inl ⟨by rw [Hn.out], by rw [Hn.out]; exact hlt⟩, Hb1.out⟩
    · obtain rfl : k = L.length := by omega
      have Hn := Lib.hid (Nat.le_antisymm (aheadG_le P L) Hka.out)
      go_wp2
      go_ret
      exact ⟨_, rfl, .inr ⟨rfl, Hn.out⟩, Hb.out⟩

set_option maxRecDepth 100000 in
theorem containsInt2 (K : FuncId) (u v : Value) (P : Int → Bool) (S : Nat → Prop) (p : Option Addr) (n c : Nat) (L : List Int) (w : World) (h : SliceS 1 IntU S w [.slice p n c] L)
    (hE : ∀ (args : Array Value) (w0 : World), (callFunc K args).run Tryz.prog w0 = .ok (.enter K args) w0) (hK : ∀ (x : Int) (w0 : World), Below w.heap.size w w0 →  Calls Tryz.prog K #[.int .i64 x, u, v] w0 fun e w' => e = .returned (.bool (P x)) ∧ Below w0.heap.size w0 w') :
    Calls Tryz.prog 107 #[.slice p n c, .func (.func K) #[] #[u, v]] w fun e w' => e = .returned (.bool (L.any P)) ∧ Below w.heap.size w w' := by
  have H := Lib.hid (indexInt2 K u v P S p n c L w h hE hK)
  clear h hK
  go_enter Tryz.func107, Tryz.ntmps107
  go_wp2_with fail
  refine H.out.mono ?_
  rintro e w1 ⟨r, rfl, hr, hb⟩
  have Hr := Lib.hid hr.any
  have Hb := Lib.hid hb
  clear hb hr
  go_wp2
  go_ret
  exact ⟨ret_bool Hr.out, Hb.out⟩

end Go.Proofs.YthhebfknikfleaaGreat

/-
  slices.IndexFunc and ContainsFunc at values, whatever the function handed in: its contract is a premise.
-/
namespace Go.Proofs.YthhebfknikfleaaGreat
open Go.RowKit
set_option linter.unusedVariables false
set_option linter.unusedSimpArgs false

set_option maxRecDepth 100000 in
set_option maxHeartbeats 4000000 in
theorem indexCe (K : FuncId) (P : CeV → Bool) (S : Nat → Prop) (p : Option Addr) (n c : Nat) (L : List CeV) (w : World) (h : SliceS 2 CeS S w [.slice p n c] L)
    (hE : ∀ (args : Array Value) (w0 : World), (callFunc K args).run Tryz.prog w0 = .ok (.enter K args) w0) (hK : ∀ (x : CeV) (q : Option Addr) (d : Nat) (w0 : World), Below w.heap.size w w0 →  Calls Tryz.prog K #[.agg #[.bool x.null, .slice q x.bytes.length d]] w0 fun e w' => e = .returned (.bool (P x)) ∧ Below w0.heap.size w0 w') :
    Calls Tryz.prog 96 #[.slice p n c, .func (.func K) #[] #[]] w fun e w' => ∃ r, e = .returned (.int .i64 r) ∧ IdxG P L r ∧ Below w.heap.size w w' := by
  have H := Lib.hid h
  have HK := Lib.hid hK
  obtain ⟨rfl, hlc, hcm⟩ := h.len
  unfold maxLen at hcm
  clear h hK
  go_enter Tryz.func96, Tryz.ntmps96
  go_wp2_with fail
  go_loopw [5, 8] (fun _ i wr => ∃ k : Nat, k ≤ L.length ∧ i = .int .i64 k ∧ k ≤ aheadG P L ∧ Below w.heap.size w wr) (fun _ i _ => L.length - (intOf i).toNat)
  case atStart => exact ⟨0, Nat.zero_le _, rfl, Nat.zero_le _, Below.refl _ _⟩
  case round =>
    obtain ⟨k, hk, rfl, hka, hb⟩ := hrel
    have hsz := hb.size
    have Hb := Lib.hid hb
    have Hka := Lib.hid hka
    clear hka
    by_cases hlt : k < L.length
    · obtain ⟨b, o, q, d, rfl, hS, hbl, c0, c1, hq⟩ := ce_at (H.out.below CeS.still hb) hlt
      have Hgo := Lib.hid (aheadG_go P L k hlt)
      have Hat := Lib.hid (aheadG_at P L k hlt)
      clear hb hS
      generalize L[k] = x at *
      have Hc := Lib.hid (HK.out x q d wr Hb.out)
      have hlti : (k : Int) < (L.length : Int) := by omega
      go_wp2_with fail
      refine Hc.out.mono ?_
      rintro e w1 ⟨rfl, hb1⟩
      have Hb1 := Lib.hid (Hb.out.trans (hb1.mono hsz))
      clear hb1
      cases hP : P x with
      | false =>
        have Hn := Lib.hid (Hgo.out Hka.out hP)
        clear hP
        go_wp2_with fail
        go_roundw
        case rel => exact ⟨k + 1, by omega, by go_num, Hn.out, Hb1.out⟩
        case measure => simp [intOf]; omega
      | true =>
        have Hn := Lib.hid (Hat.out Hka.out hP)
        clear hP
        go_wp2_with fail
        go_ret
        exact ⟨_, rfl, .inl ⟨by rw [Hn.out], by rw [Hn.out]; exact hlt⟩, Hb1.out⟩
    · obtain rfl : k = L.length := by omega
      have Hn := Lib.hid (Nat.le_antisymm (aheadG_le P L) Hka.out)
      go_wp2
      go_ret
      exact ⟨_, rfl, .inr ⟨rfl, Hn.out⟩, Hb.out⟩

set_option maxRecDepth 100000 in
theorem containsCe (K : FuncId) (P : CeV → Bool) (S : Nat → Prop) (p : Option Addr) (n c : Nat) (L : List CeV) (w : World) (h : SliceS 2 CeS S w [.slice p n c] L)
    (hE : ∀ (args : Array Value) (w0 : World), (callFunc K args).run Tryz.prog w0 = .ok (.enter K args) w0) (hK : ∀ (x : CeV) (q : Option Addr) (d : Nat) (w0 : World), Below w.heap.size w w0 →  Calls Tryz.prog K #[.agg #[.bool x.null, .slice q x.bytes.length d]] w0 fun e w' => e = .returned (.bool (P x)) ∧ Below w0.heap.size w0 w') :
    Calls Tryz.prog 37 #[.slice p n c, .func (.func K) #[] #[]] w fun e w' => e = .returned (.bool (L.any P)) ∧ Below w.heap.size w w' := by
  have H := Lib.hid (indexCe K P S p n c L w h hE hK)
  clear h hK
  go_enter Tryz.func37, Tryz.ntmps37
  go_wp2_with fail
  refine H.out.mono ?_
  rintro e w1 ⟨r, rfl, hr, hb⟩
  have Hr := Lib.hid hr.any
  have Hb := Lib.hid hb
  clear hb hr
  go_wp2
  go_ret
  exact ⟨ret_bool Hr.out, Hb.out⟩

end Go.Proofs.YthhebfknikfleaaGreat

/-
  slices.IndexFunc and ContainsFunc at texts, whatever the function handed in: its contract is a premise.
-/
namespace Go.Proofs.YthhebfknikfleaaGreat
open Go.RowKit
set_option linter.unusedVariables false
set_option linter.unusedSimpArgs false

/-- A text, whatever its size. -/
def StrU : Rd ByteArray := fun _ _ cs s => cs = [.string s]
theorem StrU.still : Still StrU := fun _ _ _ _ _ _ h _ => h
theorem str_at {S : Nat → Prop} {w : World} {p : Option Addr} {n c k : Nat} {xs : List ByteArray} (h : SliceS 1 StrU S w [.slice p n c] xs) (hk : k < xs.length) :
    ∃ b o, p = some ⟨b, o, none⟩ ∧ S b ∧ b < w.heap.size ∧ w.cell? ⟨b, o + k, none⟩ = some (.string xs[k]) := by
  obtain ⟨b, o, cs, rfl, hS, hb, _, hc, rfl⟩ := h.elem (by omega) k xs[k] (List.getElem?_eq_getElem hk)
  have c0 := hc 0 _ rfl
  rw [Nat.add_zero, Nat.mul_one] at c0
  exact ⟨b, o, rfl, hS, hb, c0⟩

end Go.Proofs.YthhebfknikfleaaGreat

/-
  Messages of clients (layer 6): kinds; lists and texts that may be; both.
-/
namespace Go.Proofs.YthhebfknikfleaaGreat
open Go.RowKit
set_option linter.unusedVariables false
set_option linter.unusedSimpArgs false

theorem known_1 : ∀ k : Fin 256, decide (0 ≤ Lib.indexByte [66, 67, 68, 69, 72, 80, 81, 83, 88] (UInt8.ofNat k.val)) = (knownV (k.val : Int) == 1) := by decide +kernel
theorem known_2 : ∀ k : Fin 256, (knownV (k.val : Int) == 1) = false → decide (0 ≤ Lib.indexByte [70, 99, 100, 102, 112] (UInt8.ofNat k.val)) = (knownV (k.val : Int) == 2) := by decide +kernel
theorem known_3 : ∀ k : Fin 256, (knownV (k.val : Int) == 1) = false → (knownV (k.val : Int) == 2) = false → knownV (k.val : Int) = 0 := by decide +kernel

theorem BytesIn.newK (w : World) (l : List UInt8) (cs : Array Value) (e : TypeId) (m : Nat × Nat) (h : cs.toList = bytesV l) : BytesIn (w.alloc (.cells cs e m)) (some ⟨w.heap.size, 0, none⟩) l := by
  intro i hi
  refine ⟨w.heap.size, 0, rfl, ?_⟩
  have hcs : cs = (bytesV l).toArray := by rw [← h]
  subst hcs
  have hb : (w.alloc (.cells (bytesV l).toArray e m)).heap[w.heap.size]? = some (.cells (bytesV l).toArray e m) := by
    show (w.heap.push _)[w.heap.size]? = _
    exact Array.getElem?_push_size
  simp only [World.cell?, hb]
  simp [bytesV, byteV, List.getD, hi]
theorem enter_of {K : FuncId} {fn : Func} {c : Code} (hf : Tryz.prog.funcs[K]? = some fn) (hname : (fn.name == "runtime.NumGoroutine") = false) (hb : fn.body = some c) (args : Array Value) (w : World) :
    (callFunc K args).run Tryz.prog w = .ok (.enter K args) w := by
  have h1 : fn.name ≠ "runtime.NumGoroutine" := by simpa using hname
  simp [callFunc, hf, h1, hb]

theorem notAny_all {α : Type} {P : α → Bool} {L : List α} (h : ∀ j (hj : j < L.length), P L[j] = false) : L.any P = false := by
  rw [List.any_eq_false]
  intro x hx
  obtain ⟨k, hk, rfl⟩ := List.getElem_of_mem hx
  rw [h k hk]
  decide
theorem any_at {α : Type} {P : α → Bool} {L : List α} {k : Nat} (hk : k < L.length) (h : P L[k] = true) : L.any P = true := List.any_eq_true.2 ⟨_, List.getElem_mem hk, h⟩

set_option maxRecDepth 100000 in
set_option maxHeartbeats 4000000 in
theorem rbetween_any (S : Nat → Prop) (p : Option Addr) (n c : Nat) (l : List Int) (lo hi : Int) (w : World) (h : SliceS 1 IntU S w [.slice p n c] l) :
    Calls Tryz.prog 67 #[.slice p n c, .int .i64 lo, .int .i64 hi] w fun e w' => e = .returned (.bool (between l lo hi)) ∧ w = w' := by
  obtain ⟨rfl, hlc, hcm⟩ := h.len
  unfold maxLen at hcm
  have H := Lib.hid h
  have Hv : Hid (between l lo hi = (decide ((l.length : Int) ≤ 65535) && !l.any (outside lo hi))) := Lib.hid (by unfold between; congr 1; simp only [decide_eq_decide]; omega)
  generalize between l lo hi = bv at *
  clear h
  by_cases hlen : (l.length : Int) ≤ 65535
  · rw [decide_eq_true hlen, Bool.true_and] at Hv
    go_enter Tryz.func67, Tryz.ntmps67
    go_wp2_with fail
    go_loopw [7] (fun i wr => ∃ k : Nat, k ≤ l.length ∧ i = .int .i64 k ∧ (∀ j (hj : j < l.length), j < k → outside lo hi l[j] = false) ∧ wr = w) (fun i _ => l.length - (intOf i).toNat)
    case atStart => exact ⟨0, Nat.zero_le _, rfl, (fun j _ h => by omega), rfl⟩
    case round =>
      obtain ⟨k, hk, rfl, hall, rfl⟩ := hrel
      have Hall := Lib.hid hall
      clear hall
      by_cases hltk : k < l.length
      · obtain ⟨b, o, rfl, hS, hbl, c0⟩ := int_at H.out hltk
        have Hbad := Lib.hid (any_at (P := outside lo hi) hltk)
        have Hgood := Lib.hid (fun h : outside lo hi l[k] = false => (fun j (hj : j < l.length) (hjk : j < k + 1) => by
          by_cases e : j = k
          · subst e; exact h
          · exact Hall.out j hj (by omega) : ∀ j (hj : j < l.length), j < k + 1 → outside lo hi l[j] = false))
        have Hx : Hid (outside lo hi l[k] = (decide (l[k] < lo) || decide (hi < l[k]))) := Lib.hid rfl
        clear hS
        generalize outside lo hi l[k] = uf at *
        generalize l[k] = x at *
        have hlti : (k : Int) < (l.length : Int) := by omega
        by_cases h1 : x < lo
        · have Hf := Lib.hid (Hbad.out (by rw [Hx.out, decide_eq_true h1]; rfl))
          go_wp2_with fail
          go_ret
          exact ⟨ret_bool (by rw [Hv.out, Hf.out]; rfl), rfl⟩
        · by_cases h2 : hi < x
          · have Hf := Lib.hid (Hbad.out (by rw [Hx.out, decide_eq_true h2]; simp))
            go_wp2_with fail
            go_ret
            exact ⟨ret_bool (by rw [Hv.out, Hf.out]; rfl), rfl⟩
          · have Hf := Lib.hid (Hgood.out (by rw [Hx.out, decide_eq_false h1, decide_eq_false h2]; rfl))
            go_wp2_with fail
            go_roundw
            case rel => exact ⟨k + 1, by omega, by go_num, Hf.out, by first | rfl | trivial⟩
            case measure => simp [intOf]; omega
      · obtain rfl : k = l.length := by omega
        have Hf := Lib.hid (notAny_all (P := outside lo hi) (fun j hj => Hall.out j hj hj))
        clear Hall
        go_wp2_with fail
        go_ret
        exact ⟨ret_bool (by rw [Hv.out, Hf.out]; rfl), rfl⟩
  · rw [decide_eq_false hlen] at Hv
    go_enter Tryz.func67, Tryz.ntmps67
    go_wp2_with fail
    go_ret
    exact ⟨ret_bool (by rw [Hv.out]; rfl), rfl⟩

end Go.Proofs.YthhebfknikfleaaGreat

/-
  Messages of clients (layer 6): lists of numbers compared.
-/
namespace Go.Proofs.YthhebfknikfleaaGreat
open Go.RowKit
set_option linter.unusedVariables false
set_option linter.unusedSimpArgs false

theorem bel_drawN (w : World) (r : Nat) : Below w.heap.size w (w.drewN r) := ((Touch.refl (fun _ => False) w).drewN r).below (Nat.le_refl _) (fun _ e => e.elim)

set_option maxRecDepth 100000 in
set_option maxHeartbeats 4000000 in
theorem eqInts_any (S S' : Nat → Prop) (p q : Option Addr) (n m c d : Nat) (xs ys : List Int) (w : World) (hx : SliceS 1 IntU S w [.slice p n c] xs) (hy : SliceS 1 IntU S' w [.slice q m d] ys) :
    Calls Tryz.prog 72 #[.slice p n c, .slice q m d] w fun e w' => e = .returned (.bool (listEq intsEq xs ys)) ∧ Below w.heap.size w w' := by
  have Hx := Lib.hid hx
  have Hy := Lib.hid hy
  obtain ⟨rfl, hlc, hcm⟩ := hx.len
  obtain ⟨rfl, hld, hdm⟩ := hy.len
  unfold maxLen at hcm hdm
  clear hx hy
  by_cases hnm : xs.length = ys.length
  · have Hnm := Lib.hid hnm
    rw [← hnm] at hld ⊢
    clear hnm
    go_enter Tryz.func72, Tryz.ntmps72
    go_wp2_with fail
    go_loopw [5, 13] (fun _ i wr => ∃ k r : Nat, k ≤ xs.length ∧ i = .int .i64 k ∧ wr = w.drewN r ∧ listEq intsEq xs ys = listEq intsEq (xs.drop k) (ys.drop k)) (fun _ i _ => xs.length - (intOf i).toNat)
    case atStart => exact ⟨0, 0, Nat.zero_le _, rfl, rfl, rfl⟩
    case round =>
      obtain ⟨k, r, hk, rfl, rfl, he⟩ := hrel
      have He := Lib.hid he
      clear he
      by_cases hlt : k < xs.length
      · have hlt' : k < ys.length := by rw [← Hnm.out]; exact hlt
        obtain ⟨b, o, rfl, _, hbl, c0⟩ := int_at Hx.out hlt
        obtain ⟨b', o', rfl, _, hbl', e0⟩ := int_at Hy.out hlt'
        have c0 : (w.drewN r).cell? _ = _ := c0
        have e0 : (w.drewN r).cell? _ = _ := e0
        have Hst := Lib.hid (listEq_step (f := intsEq) hlt hlt')
        clear hbl hbl'
        generalize hX : xs[k] = x at *
        generalize hY : ys[k] = y at *
        clear hX hY hlt'
        obtain ⟨wq, hwq⟩ : ∃ wq, wq = w.drewN r := ⟨_, rfl⟩
        rw [← hwq] at c0 e0 ⊢
        have Hwq := Lib.hid hwq
        clear hwq
        have hlti : (k : Int) < (xs.length : Int) := by omega
        cases hxy : intsEq x y with
        | true =>
          rw [hxy, Bool.true_and] at Hst
          obtain rfl : x = y := by simpa [intsEq] using hxy
          clear hxy
          go_wp2_with fail
          go_region
          all_goals
            go_wp2_with fail
            go_roundw
            case rel => exact ⟨k + 1, r + 1, by omega, by go_num, by rw [Hwq.out]; rfl, He.out.trans Hst.out⟩
            case measure => simp [intOf]; omega
        | false =>
          rw [hxy, Bool.false_and] at Hst
          have hne : ¬ x = y := by simpa [intsEq] using hxy
          clear hxy
          have Hfin := Lib.hid (He.out.trans Hst.out)
          go_wp2_with fail
          go_region
          all_goals
            go_wp2_with fail
            go_ret
            refine ⟨ret_bool Hfin.out.symm, ?_⟩
            rw [Hwq.out]
            exact bel_drawN w (r + 1)
      · obtain rfl : k = xs.length := by omega
        have Hfin := Lib.hid (He.out.trans (listEq_end Hnm.out))
        go_wp2
        go_ret
        exact ⟨ret_bool Hfin.out.symm, bel_drawN w r⟩
  · have Hfin := Lib.hid (listEq_len (f := intsEq) hnm)
    have hnmi : ¬ (xs.length : Int) = (ys.length : Int) := by omega
    go_enter Tryz.func72, Tryz.ntmps72
    go_wp2
    go_ret
    exact ⟨ret_bool Hfin.out.symm, Below.refl _ _⟩

set_option maxRecDepth 100000 in
set_option maxHeartbeats 4000000 in
theorem reqInts_any (S S' : Nat → Prop) (p q : Option Addr) (n m c d : Nat) (xs ys : List Int) (w : World) (hx : SliceS 1 IntU S w [.slice p n c] xs) (hy : SliceS 1 IntU S' w [.slice q m d] ys) :
    Calls Tryz.prog 77 #[.slice p n c, .slice q m d] w fun e w' => e = .returned (.bool (listEq intsEq xs ys)) ∧ Below w.heap.size w w' := by
  have Hx := Lib.hid hx
  have Hy := Lib.hid hy
  obtain ⟨rfl, hlc, hcm⟩ := hx.len
  obtain ⟨rfl, hld, hdm⟩ := hy.len
  unfold maxLen at hcm hdm
  clear hx hy
  by_cases hnm : xs.length = ys.length
  · have Hnm := Lib.hid hnm
    rw [← hnm] at hld ⊢
    clear hnm
    go_enter Tryz.func77, Tryz.ntmps77
    go_wp2_with fail
    go_loopw [5] (fun i wr => ∃ k r : Nat, k ≤ xs.length ∧ i = .int .i64 k ∧ wr = w.drewN r ∧ listEq intsEq xs ys = listEq intsEq (xs.drop k) (ys.drop k)) (fun i _ => xs.length - (intOf i).toNat)
    case atStart => exact ⟨0, 0, Nat.zero_le _, rfl, rfl, rfl⟩
    case round =>
      obtain ⟨k, r, hk, rfl, rfl, he⟩ := hrel
      have He := Lib.hid he
      clear he
      by_cases hlt : k < xs.length
      · have hlt' : k < ys.length := by rw [← Hnm.out]; exact hlt
        obtain ⟨b, o, rfl, _, hbl, c0⟩ := int_at Hx.out hlt
        obtain ⟨b', o', rfl, _, hbl', e0⟩ := int_at Hy.out hlt'
        have c0 : (w.drewN r).cell? _ = _ := c0
        have e0 : (w.drewN r).cell? _ = _ := e0
        have Hst := Lib.hid (listEq_step (f := intsEq) hlt hlt')
        clear hbl hbl'
        generalize hX : xs[k] = x at *
        generalize hY : ys[k] = y at *
        clear hX hY hlt'
        obtain ⟨wq, hwq⟩ : ∃ wq, wq = w.drewN r := ⟨_, rfl⟩
        rw [← hwq] at c0 e0 ⊢
        have Hwq := Lib.hid hwq
        clear hwq
        have hlti : (k : Int) < (xs.length : Int) := by omega
        cases hxy : intsEq x y with
        | true =>
          rw [hxy, Bool.true_and] at Hst
          obtain rfl : x = y := by simpa [intsEq] using hxy
          clear hxy
          go_wp2_with fail
          go_region
          all_goals
            go_wp2_with fail
            go_roundw
            case rel => exact ⟨k + 1, r + 1, by omega, by go_num, by rw [Hwq.out]; rfl, He.out.trans Hst.out⟩
            case measure => simp [intOf]; omega
        | false =>
          rw [hxy, Bool.false_and] at Hst
          have hne : ¬ x = y := by simpa [intsEq] using hxy
          clear hxy
          have Hfin := Lib.hid (He.out.trans Hst.out)
          go_wp2_with fail
          go_region
          all_goals
            go_wp2_with fail
            go_ret
            refine ⟨ret_bool Hfin.out.symm, ?_⟩
            rw [Hwq.out]
            exact bel_drawN w (r + 1)
      · obtain rfl : k = xs.length := by omega
        have Hfin := Lib.hid (He.out.trans (listEq_end Hnm.out))
        go_wp2
        go_ret
        exact ⟨ret_bool Hfin.out.symm, bel_drawN w r⟩
  · have Hfin := Lib.hid (listEq_len (f := intsEq) hnm)
    have hnmi : ¬ (xs.length : Int) = (ys.length : Int) := by omega
    go_enter Tryz.func77, Tryz.ntmps77
    go_wp2
    go_ret
    exact ⟨ret_bool Hfin.out.symm, Below.refl _ _⟩

end Go.Proofs.YthhebfknikfleaaGreat

/-
  Messages of clients (layer 6): values compared.
-/
namespace Go.Proofs.YthhebfknikfleaaGreat
open Go.RowKit
set_option linter.unusedVariables false
set_option linter.unusedSimpArgs false

set_option maxRecDepth 100000 in
set_option maxHeartbeats 4000000 in
theorem reqCells_any (S S' : Nat → Prop) (p q : Option Addr) (n m c d : Nat) (xs ys : List CeV) (w : World) (hx : SliceS 2 CeS S w [.slice p n c] xs) (hy : SliceS 2 CeS S' w [.slice q m d] ys) :
    Calls Tryz.prog 78 #[.slice p n c, .slice q m d] w fun e w' => e = .returned (.bool (listEq ceEq xs ys)) ∧ Below w.heap.size w w' := by
  have Hx := Lib.hid hx
  have Hy := Lib.hid hy
  obtain ⟨rfl, hlc, hcm⟩ := hx.len
  obtain ⟨rfl, hld, hdm⟩ := hy.len
  unfold maxLen at hcm hdm
  clear hx hy
  by_cases hnm : xs.length = ys.length
  · have Hnm := Lib.hid hnm
    rw [← hnm] at hld ⊢
    clear hnm
    go_enter Tryz.func78, Tryz.ntmps78
    go_wp2_with fail
    go_loopw [5] (fun i wr => ∃ k r : Nat, k ≤ xs.length ∧ i = .int .i64 k ∧ wr = w.drewN r ∧ listEq ceEq xs ys = listEq ceEq (xs.drop k) (ys.drop k)) (fun i _ => xs.length - (intOf i).toNat)
    case atStart => exact ⟨0, 0, Nat.zero_le _, rfl, rfl, rfl⟩
    case round =>
      obtain ⟨k, r, hk, rfl, rfl, he⟩ := hrel
      have He := Lib.hid he
      clear he
      by_cases hlt : k < xs.length
      · have hlt' : k < ys.length := by rw [← Hnm.out]; exact hlt
        obtain ⟨b, o, px, dx, rfl, _, hbl, c0, c1, hqx⟩ := ce_at (Hx.out.below CeS.still (bel_drawN w r)) hlt
        obtain ⟨b', o', py, dy, rfl, _, hbl', e0, e1, hqy⟩ := ce_at (Hy.out.below CeS.still (bel_drawN w r)) hlt'
        have Hst := Lib.hid (listEq_step (f := ceEq) hlt hlt')
        have Hqx := Lib.hid hqx.parts.2.2.2
        have Hqy := Lib.hid hqy.parts.2.2.2
        clear hbl hbl' hqx hqy
        generalize hX : xs[k] = x at *
        generalize hY : ys[k] = y at *
        clear hX hY hlt'
        obtain ⟨wq, hwq⟩ : ∃ wq, wq = w.drewN r := ⟨_, rfl⟩
        rw [← hwq] at c0 e0 c1 e1 Hqx Hqy ⊢
        have Hwq := Lib.hid hwq
        clear hwq
        have hlti : (k : Int) < (xs.length : Int) := by omega
        have hlti' : (k : Int) < (ys.length : Int) := by rw [← Hnm.out]; omega
        have hv1 : ∀ r, (convert 25 9 (.slice px x.bytes.length dx)).run Tryz.prog (wq.drewN r) = .ok (.string (strOf x.bytes)) (wq.drewN r) := fun r => (Hqx.out.drewN r).convert dx _ _ _ Tryz.underlying25 Tryz.underlying5 Tryz.underlying9
        have hv2 : ∀ r, (convert 25 9 (.slice py y.bytes.length dy)).run Tryz.prog (wq.drewN r) = .ok (.string (strOf y.bytes)) (wq.drewN r) := fun r => (Hqy.out.drewN r).convert dy _ _ _ Tryz.underlying25 Tryz.underlying5 Tryz.underlying9
        have hse : ((strOf x.bytes).toList == (strOf y.bytes).toList) = (x.bytes == y.bytes) := by rw [strOf_toList, strOf_toList]
        have hce : ceEq x y = ((x.null == y.null) && (x.bytes == y.bytes)) := rfl
        rw [← hse] at hce
        clear hse
        cases hn : (x.null == y.null) with
        | false =>
          rw [hn, Bool.false_and] at hce
          rw [hce, Bool.false_and] at Hst
          have Hfin := Lib.hid (He.out.trans Hst.out)
          clear hce
          go_wp2_with fail
          go_quiet (fail)
          go_wp2_with fail
          go_ret
          refine ⟨ret_bool Hfin.out.symm, ?_⟩
          rw [Hwq.out, World.drewN_drewN]
          exact bel_drawN w _
        | true =>
          rw [hn, Bool.true_and] at hce
          cases hs : ((strOf x.bytes).toList == (strOf y.bytes).toList) with
          | false =>
            rw [hs] at hce
            rw [hce, Bool.false_and] at Hst
            have Hfin := Lib.hid (He.out.trans Hst.out)
            clear hce
            go_wp2_with fail
            go_quiet (fail)
            go_wp2_with fail
            go_ret
            refine ⟨ret_bool Hfin.out.symm, ?_⟩
            rw [Hwq.out, World.drewN_drewN]
            exact bel_drawN w _
          | true =>
            rw [hs] at hce
            rw [hce, Bool.true_and] at Hst
            clear hce
            go_wp2_with fail
            go_quiet (fail)
            go_wp2_with fail
            go_roundw
            case rel => exact ⟨k + 1, r + nq, by omega, by go_num, by rw [Hwq.out, World.drewN_drewN], He.out.trans Hst.out⟩
            case measure => simp [intOf]; omega
      · obtain rfl : k = xs.length := by omega
        have Hfin := Lib.hid (He.out.trans (listEq_end Hnm.out))
        go_wp2
        go_ret
        exact ⟨ret_bool Hfin.out.symm, bel_drawN w r⟩
  · have Hfin := Lib.hid (listEq_len (f := ceEq) hnm)
    have hnmi : ¬ (xs.length : Int) = (ys.length : Int) := by omega
    go_enter Tryz.func78, Tryz.ntmps78
    go_wp2
    go_ret
    exact ⟨ret_bool Hfin.out.symm, Below.refl _ _⟩

end Go.Proofs.YthhebfknikfleaaGreat

/-
  Messages of clients (layer 6): texts and values that may be; both.
-/
namespace Go.Proofs.YthhebfknikfleaaGreat
open Go.RowKit
set_option linter.unusedVariables false
set_option linter.unusedSimpArgs false

def dirty (s : ByteArray) : Bool := !cleanB s
set_option maxRecDepth 100000 in
set_option maxHeartbeats 4000000 in
theorem rvalues_any (S : Nat → Prop) (p : Option Addr) (n c : Nat) (l : List CeV) (w : World) (h : SliceS 2 CeS S w [.slice p n c] l) :
    Calls Tryz.prog 70 #[.slice p n c] w fun e w' => e = .returned (.bool (valuesV l)) ∧ w = w' := by
  obtain ⟨rfl, hlc, hcm⟩ := h.len
  unfold maxLen at hcm
  have H := Lib.hid h
  have Hv : Hid (valuesV l = (decide ((l.length : Int) ≤ 65535) && !l.any wrongC)) := Lib.hid (by unfold valuesV; congr 1; simp only [decide_eq_decide]; omega)
  generalize valuesV l = v at *
  clear h
  by_cases hlen : (l.length : Int) ≤ 65535
  · rw [decide_eq_true hlen, Bool.true_and] at Hv
    go_enter Tryz.func70, Tryz.ntmps70
    go_wp2_with fail
    go_loopw [3] (fun i wr => ∃ k : Nat, k ≤ l.length ∧ i = .int .i64 k ∧ (∀ j (hj : j < l.length), j < k → wrongC l[j] = false) ∧ wr = w) (fun i _ => l.length - (intOf i).toNat)
    case atStart => exact ⟨0, Nat.zero_le _, rfl, (fun j _ h => by omega), rfl⟩
    case round =>
      obtain ⟨k, hk, rfl, hall, rfl⟩ := hrel
      have Hall := Lib.hid hall
      clear hall
      by_cases hltk : k < l.length
      · obtain ⟨b, o, q, d, rfl, hS, hbl, c0, c1, hq⟩ := ce_at H.out hltk
        have Hbad := Lib.hid (any_at (P := wrongC) hltk)
        have Hgood := Lib.hid (fun h : wrongC l[k] = false => (fun j (hj : j < l.length) (hjk : j < k + 1) => by
          by_cases e : j = k
          · subst e; exact h
          · exact Hall.out j hj (by omega) : ∀ j (hj : j < l.length), j < k + 1 → wrongC l[j] = false))
        have Hx : Hid (wrongC l[k] = ((l[k].null && decide ((0 : Int) < (l[k].bytes.length : Int))) || decide ((1048576 : Int) < (l[k].bytes.length : Int)))) := Lib.hid (by
          unfold wrongC
          have h1 : decide (0 < l[k].bytes.length) = decide ((0 : Int) < (l[k].bytes.length : Int)) := decide_eq_decide.2 (by omega)
          have h2 : decide (1048576 < l[k].bytes.length) = decide ((1048576 : Int) < (l[k].bytes.length : Int)) := decide_eq_decide.2 (by omega)
          rw [h1, h2])
        clear hS hq
        generalize wrongC l[k] = uf at *
        generalize l[k] = x at *
        obtain ⟨xn, xb⟩ := x
        dsimp only at *
        generalize xb.length = m at *
        have hlti : (k : Int) < (l.length : Int) := by omega
        cases huf : uf with
        | true =>
          have Hf := Lib.hid (Hbad.out huf)
          have Huf := Lib.hid huf
          have hx := Hx.out
          rw [huf] at hx
          clear huf
          cases xn with
          | false =>
            have h1 : (1048576 : Int) < (m : Int) := by simpa using hx.symm
            clear hx
            go_wp2_with fail
            go_ret
            exact ⟨ret_bool (by rw [Hv.out, Hf.out]; rfl), rfl⟩
          | true =>
            clear hx
            cases m with
            | zero =>
              exfalso
              have := Hx.out
              rw [show uf = true from Huf.out] at this
              simp at this
            | succ m =>
              go_wp2_with fail
              all_goals
                go_ret
                exact ⟨ret_bool (by rw [Hv.out, Hf.out]; rfl), rfl⟩
        | false =>
          have Hf := Lib.hid (Hgood.out huf)
          have hx := Hx.out
          rw [huf] at hx
          clear huf
          have h1 : ¬ (1048576 : Int) < (m : Int) := by
            intro e
            rw [decide_eq_true e] at hx
            simp at hx
          cases xn with
          | false =>
            clear hx
            go_wp2_with fail
            go_roundw
            case rel => exact ⟨k + 1, by omega, by go_num, Hf.out, by first | rfl | trivial⟩
            case measure => simp [intOf]; omega
          | true =>
            have h0 : ¬ (0 : Int) < (m : Int) := by
              intro e
              rw [decide_eq_true e] at hx
              simp at hx
            obtain rfl : m = 0 := by omega
            clear hx
            go_wp2_with fail
            go_roundw
            case rel => exact ⟨k + 1, by omega, by go_num, Hf.out, by first | rfl | trivial⟩
            case measure => simp [intOf]; omega
      · obtain rfl : k = l.length := by omega
        have Hf := Lib.hid (notAny_all (P := wrongC) (fun j hj => Hall.out j hj hj))
        clear Hall
        go_wp2_with fail
        go_ret
        exact ⟨ret_bool (by rw [Hv.out, Hf.out]; rfl), rfl⟩
  · rw [decide_eq_false hlen] at Hv
    go_enter Tryz.func70, Tryz.ntmps70
    go_wp2_with fail
    go_ret
    exact ⟨ret_bool (by rw [Hv.out]; rfl), rfl⟩

end Go.Proofs.YthhebfknikfleaaGreat

/-
  '==' of two arrays of three texts.
-/
namespace Go.Proofs.YthhebfknikfleaaGreat
open Go.RowKit
set_option linter.unusedVariables false
set_option linter.unusedSimpArgs false

set_option maxRecDepth 10000 in
theorem eql_str3 (a0 a1 a2 b0 b1 b2 : ByteArray) (w : World) :
    (binOp .eql 113 (.agg #[.string a0, .string a1, .string a2]) (.agg #[.string b0, .string b1, .string b2])).run Tryz.prog w = .ok (.bool ((a0.toList == b0.toList) && ((a1.toList == b1.toList) && (a2.toList == b2.toList)))) w := by
  have hu : Tryz.prog.underlying 113 = some (.array 3 9) := Tryz.underlying113
  have u2 := Tryz.underlying9
  have a2' := Tryz.isAgg9
  have z2 := Tryz.sizeOf9
  obtain ⟨d, hd⟩ : ∃ d : Nat, 10000 = d + 1 + 1 := ⟨9998, rfl⟩
  rw [run_eql_struct, hd, Op.equalIn]
  clear hd
  simp only [Sem.run_bind, run_underlying hu, Result.andThen_ok]
  rw [z2]
  simp only [Result.andThen_ok, Std.Legacy.Range.forIn_eq_forIn_range', Std.Legacy.Range.size, List.range', List.forIn_cons, List.forIn_nil, Sem.run_bind]
  go_simp
  by_cases h1 : a0.toList = b0.toList <;> by_cases h2 : a1.toList = b1.toList <;> by_cases h3 : a2.toList = b2.toList <;> simp [h1, h2, h3]

end Go.Proofs.YthhebfknikfleaaGreat

/-
  Messages of clients (layer 6): the document's Str, List and Put.
-/
namespace Go.Proofs.YthhebfknikfleaaGreat
open Go.RowKit
set_option linter.unusedVariables false
set_option linter.unusedSimpArgs false

/-- Bytes with the first numbers of a list behind them. -/
def listP (b : List UInt8) (l : List Int) (size : Nat) (k : Nat) : List UInt8 := (l.take k).foldl (fun b n => putV b n size) (putV b l.length 2)
theorem listP_succ {b : List UInt8} {l : List Int} {size k : Nat} (hk : k < l.length) : listP b l size (k + 1) = putV (listP b l size k) l[k] size := by
  unfold listP
  rw [List.take_succ_eq_append_getElem hk, List.foldl_append]
  rfl
theorem listP_all (b : List UInt8) (l : List Int) (size : Nat) : listP b l size l.length = listB b l size := by
  unfold listP listB
  rw [List.take_length]
theorem listP_len (b : List UInt8) (l : List Int) (size : Nat) : ∀ k, k ≤ l.length → (listP b l size k).length ≤ b.length + 4 + 4 * k
  | 0, _ => by
    have := putV_len4 b l.length 2
    unfold listP
    simp
    omega
  | k + 1, hk => by
    have ih := listP_len b l size k (by omega)
    rw [listP_succ (by omega)]
    have := putV_len4 (listP b l size k) l[k] size
    omega
/-- Bytes with the first values of a row behind them. -/
def rowP (b : List UInt8) (l : List CeV) (k : Nat) : List UInt8 := (l.take k).foldl cellB (putV b l.length 2)
theorem rowP_succ {b : List UInt8} {l : List CeV} {k : Nat} (hk : k < l.length) : rowP b l (k + 1) = cellB (rowP b l k) l[k] := by
  unfold rowP
  rw [List.take_succ_eq_append_getElem hk, List.foldl_append]
  rfl
theorem rowP_all (b : List UInt8) (l : List CeV) : rowP b l l.length = rowB b l := by
  unfold rowP rowB
  rw [List.take_length]
theorem cellB_len (b : List UInt8) (c : CeV) : (cellB b c).length ≤ b.length + 4 + c.bytes.length := by
  unfold cellB
  split
  · have := putV_len4 b 4294967295 4
    omega
  · have := putV_len4 b c.bytes.length 4
    rw [List.length_append]
    omega
theorem rowP_len (b : List UInt8) (l : List CeV) (m : Nat) (hm : ∀ c ∈ l, c.bytes.length ≤ m) : ∀ k, k ≤ l.length → (rowP b l k).length ≤ b.length + 4 + (m + 4) * k
  | 0, _ => by
    have := putV_len4 b l.length 2
    unfold rowP
    simp
    omega
  | k + 1, hk => by
    have ih := rowP_len b l m hm k (by omega)
    rw [rowP_succ (by omega)]
    have := cellB_len (rowP b l k) l[k]
    have := hm l[k] (List.getElem_mem _)
    rw [Nat.mul_add]
    omega
theorem strB_len (b : List UInt8) (s : ByteArray) : (strB b s).length = b.length + s.size + 1 := by
  unfold strB
  rw [List.length_append, List.length_append, size_data]
  rfl

theorem putV_null (b : List UInt8) : putV b (-1) 4 = putV b 4294967295 4 := by
  unfold putV
  rw [if_pos (by decide), if_pos (by decide)]
  congr 1

theorem bel_drewN1 (w : World) : Below w.heap.size w (w.drewN 1) := ((Touch.refl (fun _ => False) w).drewN 1).below (Nat.le_refl _) (fun _ e => e.elim)

theorem rstr_any (B : Nat) (v : Value) (l : List UInt8) (s : ByteArray) (w : World) (h : OwnBR B w v l) (hB : B ≤ w.heap.size) (hl : l.length ≤ 1000000) (hs : s.size ≤ 1000000) :
    Calls Tryz.prog 47 #[v, .string s] w fun e w' => ∃ v', e = .returned v' ∧ OwnBR B w' v' (strB l s) ∧ Below B w w' := by
  have H := Lib.hid h
  have hsd : s.data.toList.length ≤ 1000000 := by rw [← size_data]; exact hs
  have hr2 : (l ++ s.data.toList).length + 1 ≤ 3000000 := by rw [List.length_append]; omega
  clear h hs
  go_enter Tryz.func47, Tryz.ntmps47
  go_wp2_with (first
    | (at_builtin; refine step_appendStr _ rfl (.tmp 5) (.tmp 6) rfl B v l rfl H.out s rfl (by omega) hB ?_; intro v5 w5 ho5 hg5 hn5; have Ho5 := Lib.hid ho5; have hz5 := hg5.size; have HB5 : Hid (Below B w w5) := Lib.hid (Below.of_row hg5 hB (fun k hk => (H.out.row k hk).1)); clear ho5 hg5 hn5)
    | (at_builtin; refine step_appendBR _ rfl (.tmp 7) (.tmp 8) rfl B v5 _ rfl (Ho5.out.alloc _) (some ⟨w5.heap.size, 0, none⟩) [0] 1 1 rfl rfl (BytesIn.new1 w5 0 0 _ rfl) (by rw [List.length_singleton]; omega) (by rw [World.size_alloc]; omega) ?_; intro v6 w6 ho6 hg6 hn6; have Ho6 := Lib.hid ho6; have HB6 : Hid (Below B w w6) := Lib.hid ((HB5.out.alloc (by omega) _).trans (Below.of_row hg6 (by rw [World.size_alloc]; omega) (fun k hk => (Ho5.out.row k hk).1))); clear ho6 hg6 hn6))
  go_ret
  exact ⟨_, rfl, Ho6.out, HB6.out⟩

set_option maxRecDepth 100000 in
set_option maxHeartbeats 4000000 in
theorem rlist_any (S : Nat → Prop) (p : Option Addr) (l : List UInt8) (cap : Nat) (q : Option Addr) (n c : Nat) (xs : List Int) (z : Int) (zn : Nat) (hz : (zn : Int) = z) (w : World) (hin : BytesIn w p l) (hx : SliceS 1 IntU S w [.slice q n c] xs) (hl : l.length ≤ 100000000) (hxl : xs.length ≤ 1000000) :
    Calls Tryz.prog 50 #[.slice p l.length cap, .slice q n c, .int .i64 z] w fun e w' => ∃ v', e = .returned v' ∧ OwnBR w.heap.size w' v' (listB l xs zn) ∧ Below w.heap.size w w' := by
  subst hz
  obtain ⟨rfl, hlc, hcm⟩ := hx.len
  unfold maxLen at hcm
  have Hx := Lib.hid hx
  have Hp := Lib.hid (putR_any p l cap (xs.length : Int) 2 w (by omega) hin)
  have Hall := Lib.hid (listP_all l xs zn)
  have Hlen := Lib.hid (fun k hk => listP_len l xs zn k hk)
  clear hx hin
  go_enter Tryz.func50, Tryz.ntmps50
  go_wp2_with fail
  refine Hp.out.mono ?_
  rintro e w1 ⟨v1, rfl, ho1, hb1⟩
  have Ho1 : Hid (OwnBR w.heap.size w1 v1 (listP l xs zn 0)) := Lib.hid (OwnBR.of ho1)
  have HB1 := Lib.hid hb1
  clear ho1 hb1 Hp
  go_wp2_with fail
  go_loopw [0, 7] (fun v i wr => ∃ k : Nat, k ≤ xs.length ∧ i = .int .i64 k ∧ OwnBR w.heap.size wr v (listP l xs zn k) ∧ Below w.heap.size w wr) (fun _ i _ => xs.length - (intOf i).toNat)
  case atStart => exact ⟨0, Nat.zero_le _, rfl, Ho1.out, HB1.out⟩
  case round =>
    obtain ⟨k, hk, rfl, ho, hb⟩ := hrel
    have hsz := hb.size
    have Hb := Lib.hid hb
    have Ho := Lib.hid ho
    by_cases hlt : k < xs.length
    · obtain ⟨b, o, rfl, hS, hbl, c0⟩ := int_at (Hx.out.below IntU.still hb) hlt
      have hlk := Hlen.out k hk
      have Hstep := Lib.hid (listP_succ (b := l) (size := zn) hlt)
      obtain ⟨p2, c2, hv2, k2, m2, q2, -⟩ := ho.slice
      subst hv2
      have Hp2 := Lib.hid (putR_any p2 (listP l xs zn k) c2 xs[k] (zn : Int) wr (by omega) q2)
      clear ho hb hS q2
      rw [← Hstep.out] at Hp2
      generalize xs[k] = x at *
      generalize (listP l xs zn k).length = nl at *
      have hlti : (k : Int) < (xs.length : Int) := by omega
      go_wp2_with fail
      refine Hp2.out.mono ?_
      rintro e w2 ⟨v3, rfl, ho3, hb3⟩
      have Ho3 : Hid (OwnBR w.heap.size w2 v3 (listP l xs zn (k + 1))) := Lib.hid (OwnR.base (OwnBR.of ho3) hsz)
      have HB3 := Lib.hid (Hb.out.trans (hb3.mono hsz))
      clear ho3 hb3 Hp2
      go_wp2_with fail
      go_roundw
      case rel => exact ⟨k + 1, by omega, by go_num, Ho3.out, HB3.out⟩
      case measure => simp [intOf]; omega
    · obtain rfl : k = xs.length := by omega
      rw [Hall.out] at ho
      have Hoe := Lib.hid ho
      clear ho hb Ho
      go_wp2_with fail
      go_ret
      exact ⟨_, rfl, Hoe.out, Hb.out⟩

set_option maxRecDepth 100000 in
set_option maxHeartbeats 4000000 in
theorem rrow_any (S : Nat → Prop) (p : Option Addr) (l : List UInt8) (cap : Nat) (q : Option Addr) (n c : Nat) (xs : List CeV) (w : World) (hin : BytesIn w p l) (hx : SliceS 2 CeS S w [.slice q n c] xs) (hl : l.length ≤ 1000000) (hxl : xs.length ≤ 10000) (hm : ∀ c ∈ xs, c.bytes.length ≤ 10000) :
    Calls Tryz.prog 48 #[.slice p l.length cap, .slice q n c] w fun e w' => ∃ v', e = .returned v' ∧ OwnBR w.heap.size w' v' (rowB l xs) ∧ Below w.heap.size w w' := by
  obtain ⟨rfl, hlc, hcm⟩ := hx.len
  unfold maxLen at hcm
  have Hx := Lib.hid hx
  have Hp := Lib.hid (putR_any p l cap (xs.length : Int) 2 w (by omega) hin)
  have Hall := Lib.hid (rowP_all l xs)
  have Hlen := Lib.hid (fun k hk => rowP_len l xs 10000 hm k hk)
  have Hm := Lib.hid hm
  clear hx hin hm
  go_enter Tryz.func48, Tryz.ntmps48
  go_wp2_with fail
  refine Hp.out.mono ?_
  rintro e w1 ⟨v1, rfl, ho1, hb1⟩
  have Ho1 : Hid (OwnBR w.heap.size w1 v1 (rowP l xs 0)) := Lib.hid (OwnBR.of ho1)
  have HB1 := Lib.hid hb1
  clear ho1 hb1 Hp
  go_wp2_with fail
  go_loopw [0, 5] (fun v i wr => ∃ k : Nat, k ≤ xs.length ∧ i = .int .i64 k ∧ OwnBR w.heap.size wr v (rowP l xs k) ∧ Below w.heap.size w wr) (fun _ i _ => xs.length - (intOf i).toNat)
  case atStart => exact ⟨0, Nat.zero_le _, rfl, Ho1.out, HB1.out⟩
  case round =>
    obtain ⟨k, hk, rfl, ho, hb⟩ := hrel
    have hsz := hb.size
    have Hb := Lib.hid hb
    have Ho := Lib.hid ho
    by_cases hlt : k < xs.length
    · obtain ⟨b, o, qx, dx, rfl, hS, hbl, c0, c1, hqx⟩ := ce_at (Hx.out.below CeS.still hb) hlt
      have hlk := Hlen.out k hk
      have hbk := Hm.out xs[k] (List.getElem_mem hlt)
      have Hstep := Lib.hid (rowP_succ (b := l) hlt)
      have Hcb : Hid (∀ b0, cellB b0 xs[k] = if xs[k].null then putV b0 4294967295 4 else putV b0 xs[k].bytes.length 4 ++ xs[k].bytes) := Lib.hid (fun _ => rfl)
      have Hqx := Lib.hid hqx.parts.2.2.2
      obtain ⟨p2, c2, hv2, k2, m2, q2, -⟩ := ho.slice
      subst hv2
      have Hq2 := Lib.hid q2
      have hl9 : (rowP l xs k).length ≤ 200000000 := by
        have : 10004 * k ≤ 10004 * 10000 := Nat.mul_le_mul (Nat.le_refl _) (by omega)
        omega
      clear ho hb hS hqx q2
      generalize xs[k] = x at *
      obtain ⟨xn, xb⟩ := x
      dsimp only at *
      have hlti : (k : Int) < (xs.length : Int) := by omega
      cases xn with
      | true =>
        have Hp2 := Lib.hid (putR_any p2 (rowP l xs k) c2 (-1) 4 wr (by omega) Hq2.out)
        rw [putV_null] at Hp2
        generalize (rowP l xs k).length = nl at *
        go_wp2_with fail
        refine Hp2.out.mono ?_
        rintro e w2 ⟨v3, rfl, ho3, hb3⟩
        have Ho3 : Hid (OwnBR w.heap.size w2 v3 (rowP l xs (k + 1))) := Lib.hid (by rw [Hstep.out, Hcb.out]; exact OwnR.base (OwnBR.of ho3) hsz)
        have HB3 := Lib.hid (Hb.out.trans (hb3.mono hsz))
        clear ho3 hb3 Hp2
        go_wp2_with fail
        go_roundw
        case rel => exact ⟨k + 1, by omega, by go_num, Ho3.out, HB3.out⟩
        case measure => simp [intOf]; omega
      | false =>
        have hpl4 := putV_len4 (rowP l xs k) (xb.length : Int) 4
        have Hp2 := Lib.hid (putR_any p2 (rowP l xs k) c2 (xb.length : Int) 4 (wr.drewN 1) (by omega) (Hq2.out.drewN 1))
        have Hqd := Lib.hid (Hqx.out.drewN 1)
        have Hnx : Hid (rowP l xs (k + 1) = putV (rowP l xs k) (xb.length : Int) 4 ++ xb) := Lib.hid (by rw [Hstep.out, Hcb.out]; rfl)
        generalize putV (rowP l xs k) (xb.length : Int) 4 = Q at *
        generalize (rowP l xs k).length = nl at *
        have hS0 : wr.cell? ⟨b, o + k * 2 + 1, none⟩ = some (.slice qx xb.length dx) := c1
        go_upto_region 7 with fail
        go_region_held3 (fun w' => w'.cell? ⟨b, o + k * 2 + 1, none⟩ = some (.slice qx xb.length dx))
          (first | exact hS0 | exact hS3 | exact hS4 | go_keep)
          (first
            | (go_at_call 46; refine Hp2.out.mono ?_; rintro e w3 ⟨v3, rfl, ho3, hb3⟩; have Ho3 : Hid (OwnBR wr.heap.size w3 v3 Q) := Lib.hid (OwnBR.of ho3); have hb3' : Below wr.heap.size wr w3 := (bel_drewN1 wr).trans hb3; have HB3 := Lib.hid hb3'; have Hq3 := Lib.hid (Hqx.out.below hb3'); have hS3 : w3.cell? ⟨b, o + k * 2 + 1, none⟩ = some (.slice qx xb.length dx) := (hb3'.cell (p := ⟨b, o + k * 2 + 1, none⟩) hbl).trans hS0; have hz3 : wr.heap.size ≤ w3.heap.size := hb3'.size; clear ho3 hb3 hb3')
            | (refine rgn_appendBR rfl (.tmp 30) (.tmp 35) rfl wr.heap.size _ _ rfl Ho3.out _ xb _ _ rfl rfl Hq3.out (by omega) hz3 ?_; intro v4 w4 ho4 hg4 _; have Ho4 := Lib.hid ho4; have hb4 : Below wr.heap.size wr w4 := HB3.out.trans (Below.of_row hg4 hz3 (fun k hk => (Ho3.out.row k hk).1)); have HB4 := Lib.hid hb4; have hS4 : w4.cell? ⟨b, o + k * 2 + 1, none⟩ = some (.slice qx xb.length dx) := (hb4.cell (p := ⟨b, o + k * 2 + 1, none⟩) hbl).trans hS0; clear ho4 hg4 hb4))
        clear hS0 hS3 hS4
        have Ho5 : Hid (OwnBR w.heap.size w4 v4 (rowP l xs (k + 1))) := Lib.hid (by rw [Hnx.out]; exact OwnR.base Ho4.out hsz)
        have HB5 := Lib.hid (Hb.out.trans (HB4.out.mono hsz))
        go_wp2_with fail
        go_roundw
        case rel => exact ⟨k + 1, by omega, by go_num, Ho5.out, HB5.out⟩
        case measure => simp [intOf]; omega
    · obtain rfl : k = xs.length := by omega
      rw [Hall.out] at ho
      have Hoe := Lib.hid ho
      clear ho hb Ho
      go_wp2_with fail
      go_ret
      exact ⟨_, rfl, Hoe.out, Hb.out⟩

end Go.Proofs.YthhebfknikfleaaGreat

/-
  Messages of clients (layer 6): the program's writer: text, list, row.
-/
namespace Go.Proofs.YthhebfknikfleaaGreat
open Go.RowKit
set_option linter.unusedVariables false
set_option linter.unusedSimpArgs false

/-- A call of a Go function as a step of a region that draws its order. -/
theorem rgn_callF {ops : Array Oper} {o : Oper} {a : Act} {w : World} {K : Act → World → Prop} {Q : Exit → Act → World → Prop} {F : Prop} (hgd : o.guard = none) (f : FuncId) (vs : Array Value) (R : Ending → World → Prop) (hC : Calls Tryz.prog f vs w R)
    (hr : (execOp a.eval o).run Tryz.prog w = .ok (.enter f vs) w) (h : ∀ e w', R e w' → ∃ v, e = .returned v ∧ K (a.put o.dst v) w') :
    if Region.wanted o (yielded ops a.tmps) = true then Oper.wp Tryz.prog o a w K Q else F := by
  have hw : Region.wanted o (yielded ops a.tmps) = true := by simp [Region.wanted, hgd]
  rw [if_pos hw]
  unfold Oper.wp
  rw [hr, Oper.upon_enter]
  refine hC.mono ?_
  intro e w' hR
  obtain ⟨v, rfl, hK⟩ := h e w' hR
  exact hK
theorem bel_drew (w : World) : Below w.heap.size w w.drew := ((Touch.refl (fun _ => False) w).drew).below (Nat.le_refl _) (fun _ e => e.elim)

/-- What a writer's step turns. -/
def wrT (wb : Nat) (v : Value) (k : Nat) : Prop := k = wb ∨ rowOf v = some k
/-- Where the row lies behind it. -/
def wrN (w : World) (v v' : Value) : Prop := ∀ k, rowOf v' = some k → rowOf v = some k ∨ w.heap.size ≤ k
section
variable {B : Nat} {w w' : World} {wb : Nat} {v v' : Value} {l l' : List UInt8}
end

/-- Bytes with the first texts behind them. -/
def textP (b : List UInt8) (ss : List ByteArray) (k : Nat) : List UInt8 := (ss.take k).foldl strB b
theorem textP_succ {b : List UInt8} {ss : List ByteArray} {k : Nat} (hk : k < ss.length) : textP b ss (k + 1) = strB (textP b ss k) ss[k] := by
  unfold textP
  rw [List.take_succ_eq_append_getElem hk, List.foldl_append]
  rfl
theorem textP_all (b : List UInt8) (ss : List ByteArray) : textP b ss ss.length = ss.foldl strB b := by
  unfold textP
  rw [List.take_length]
theorem textP_len (b : List UInt8) (ss : List ByteArray) (m : Nat) (hm : ∀ s ∈ ss, s.size ≤ m) : ∀ k, k ≤ ss.length → (textP b ss k).length ≤ b.length + (m + 1) * k
  | 0, _ => by simp [textP]
  | k + 1, hk => by
    have ih := textP_len b ss m hm k (by omega)
    rw [textP_succ (by omega), strB_len]
    have := hm ss[k] (List.getElem_mem _)
    rw [Nat.mul_add]
    omega

end Go.Proofs.YthhebfknikfleaaGreat

