/-
  Ground: NumC, NumD, NumBack, FoA, BytesClone, ScanA, ScanB, IndexBytes, ScanC, ScanF, ScanG.
-/
import Derived.Test.YtacnmdlefonjmaaGreatPdZP1
import Derived.Test.YtacnmdlefonjmaaGreatPdZP0
import Derived.Laws.StructEq
import Derived.BigQuiet
import Derived.WalkMore
import Derived.Deep.QuietTactic
import Derived.Deep.RegionLaw
import Derived.Deep.RegionWith
import Derived.Deep.RegionHeld3
import Derived.Deep.DeepCutAuto
import Derived.Deep.CutBlock
import Derived.Lib.SlBytesConst
import Derived.Lib.BytesEntry
/-
  The contracts of num.Get and remudaref01.Get: the number that some bytes are.
-/
namespace Go.Proofs.YtacnmdlefonjmaaGreat
open Go.RowKit

/-- The number of some bytes, and the error's number. -/
def getV (l : List UInt8) (at' size : Int) : Int × Int :=
  if sizedB size = false ∨ at' < 0 then (0, 1)
  else if (l.length : Int) - size < at' then (0, 3)
  else (be ((l.drop at'.toNat).take size.toNat), 0)

theorem getV_arg {l : List UInt8} {at' size : Int} (h : sizedB size = false ∨ at' < 0) : getV l at' size = (0, 1) := by
  unfold getV; rw [if_pos h]
theorem getV_short {l : List UInt8} {at' size : Int} (h1 : sizedB size = true) (h2 : ¬ at' < 0) (h : (l.length : Int) - size < at') : getV l at' size = (0, 3) := by
  unfold getV; rw [if_neg (by simp [h1, h2]), if_pos h]
theorem getV_yes {l : List UInt8} {at' size : Int} (h1 : sizedB size = true) (h2 : ¬ at' < 0) (h : ¬ (l.length : Int) - size < at') :
    getV l at' size = (be ((l.drop at'.toNat).take size.toNat), 0) := by
  unfold getV; rw [if_neg (by simp [h1, h2]), if_neg h]

theorem pow_le4 (k n : Nat) (h : k ≤ n) (hn : n ≤ 4) : (256 : Int) ^ k ≤ 4294967296 := by
  have : k = 0 ∨ k = 1 ∨ k = 2 ∨ k = 3 ∨ k = 4 := by omega
  rcases this with rfl | rfl | rfl | rfl | rfl <;> decide

theorem be_le4 (l : List UInt8) (k : Nat) (h : k ≤ 4) : 0 ≤ be (l.take k) ∧ be (l.take k) < 4294967296 := by
  have h1 := be_bd (l.take k)
  have h2 := pow_le4 (l.take k).length 4 (by rw [List.length_take]; omega) (by omega)
  omega

set_option maxHeartbeats 400000 in
theorem getR_any (p : Option Addr) (l : List UInt8) (cap : Nat) (at' size : Int) (w : World) (hl : l.length ≤ cap) (hc : cap ≤ maxLen) (hb : BytesIn w p l) :
    Calls Tryz.prog 53 #[.slice p l.length cap, .int .i64 at', .int .i64 size] w fun e w' =>
      e = .returned (.tuple #[.int .i64 (getV l at' size).1, .int .i64 (getV l at' size).2]) ∧ w = w' := by
  unfold maxLen at hc
  by_cases h0 : sizedB size = false ∨ at' < 0
  · rw [getV_arg h0]
    by_cases hs : sizedB size = true
    · have hlt : at' < 0 := by simpa [hs] using h0
      have Hs := Lib.hid hs
      clear hs h0
      go_enter Tryz.func53, Tryz.ntmps53
      go_wp2_with (first | (go_at_call 75; refine (sizedR_any _ _).mono ?_; rintro e w' ⟨rfl, rfl⟩; rw [Hs.out]))
      go_ret2
      exact ⟨rfl, rfl⟩
    · have Hs := Lib.hid (show sizedB size = false by simpa using hs)
      clear hs h0
      go_enter Tryz.func53, Tryz.ntmps53
      go_wp2_with (first | (go_at_call 75; refine (sizedR_any _ _).mono ?_; rintro e w' ⟨rfl, rfl⟩; rw [Hs.out]))
      go_ret2
      exact ⟨rfl, rfl⟩
  · have hs : sizedB size = true := by cases h : sizedB size <;> simp_all
    have ha : ¬ at' < 0 := fun h => h0 (.inr h)
    have hsz := sizedB_cases hs
    clear h0
    by_cases hsh : (l.length : Int) - size < at'
    · rw [getV_short hs ha hsh]
      have Hs := Lib.hid hs
      clear hs
      go_enter Tryz.func53, Tryz.ntmps53
      go_wp2_with (first | (go_at_call 75; refine (sizedR_any _ _).mono ?_; rintro e w' ⟨rfl, rfl⟩; rw [Hs.out]))
      go_ret2
      exact ⟨rfl, rfl⟩
    · rw [getV_yes hs ha hsh]
      obtain ⟨b, o, rfl⟩ := hb.addr (by omega)
      obtain ⟨a, rfl⟩ := Int.eq_ofNat_of_zero_le (show 0 ≤ at' by omega)
      obtain ⟨z, rfl⟩ := Int.eq_ofNat_of_zero_le (show 0 ≤ size by omega)
      rw [Int.toNat_natCast, Int.toNat_natCast]
      have hz4 : z ≤ 4 := by omega
      have hz1 : 1 ≤ z := by omega
      have hfit : a + z ≤ l.length := by omega
      have Hs := Lib.hid hs
      have Hb := Lib.hid hb
      clear hs hb hsz hsh ha
      go_enter Tryz.func53, Tryz.ntmps53
      go_wp2_with (first | (go_at_call 75; refine (sizedR_any _ _).mono ?_; rintro e w' ⟨rfl, rfl⟩; rw [Hs.out]))
      go_loop [8, 9] (fun n i => ∃ k : Nat, k ≤ z ∧ i = .int .i64 k ∧ n = .int .i64 (be ((l.drop a).take k))) (fun _ i => z - (intOf i).toNat)
      case atStart => exact ⟨0, Nat.zero_le _, rfl, rfl⟩
      case round =>
        obtain ⟨k, hk, rfl, rfl⟩ := hrel
        have hbd := be_le4 (l.drop a) k (by omega)
        by_cases hlt : k < z
        · have hcell := Hb.out.cellAt (a + k) (by omega)
          have hu := u8_bd (l.getD (a + k) 0)
          have hbe := be_take_succ (l.drop a) k (by rw [List.length_drop]; omega)
          rw [show (l.drop a).getD k 0 = l.getD (a + k) 0 from by simp [List.getD]] at hbe
          have Hbe := Lib.hid hbe
          clear hbe
          generalize l.getD (a + k) 0 = c at hcell hu Hbe
          generalize be ((l.drop a).take k) = n at hbd Hbe
          go_wp2
          go_round
          case rel => exact ⟨k + 1, by omega, by go_num, by rw [Hbe.out]⟩
          case measure => simp [intOf]; omega
        · go_wp2
          go_ret2
          obtain rfl : k = z := by omega
          exact ⟨rfl, rfl⟩

set_option maxHeartbeats 400000 in
theorem get_any (p : Option Addr) (l : List UInt8) (cap : Nat) (at' size : Int) (w : World) (hl : l.length ≤ cap) (hc : cap ≤ maxLen) (hb : BytesIn w p l) :
    Calls Tryz.prog 94 #[.slice p l.length cap, .int .i64 at', .int .i64 size] w fun e w' =>
      e = .returned (.tuple #[.int .i64 (getV l at' size).1, .int .i64 (getV l at' size).2]) ∧ w = w' := by
  unfold maxLen at hc
  by_cases h0 : sizedB size = false ∨ at' < 0
  · rw [getV_arg h0]
    by_cases hs : sizedB size = true
    · have hlt : at' < 0 := by simpa [hs] using h0
      have Hs := Lib.hid hs
      clear hs h0
      go_enter Tryz.func94, Tryz.ntmps94
      go_wp2_with (first | (go_at_call 112; refine (sized_any _ _).mono ?_; rintro e w' ⟨rfl, rfl⟩; rw [Hs.out]))
      go_ret2
      exact ⟨rfl, rfl⟩
    · have Hs := Lib.hid (show sizedB size = false by simpa using hs)
      clear hs h0
      go_enter Tryz.func94, Tryz.ntmps94
      go_wp2_with (first | (go_at_call 112; refine (sized_any _ _).mono ?_; rintro e w' ⟨rfl, rfl⟩; rw [Hs.out]))
      go_ret2
      exact ⟨rfl, rfl⟩
  · have hs : sizedB size = true := by cases h : sizedB size <;> simp_all
    have ha : ¬ at' < 0 := fun h => h0 (.inr h)
    have hsz := sizedB_cases hs
    clear h0
    by_cases hsh : (l.length : Int) - size < at'
    · rw [getV_short hs ha hsh]
      have Hs := Lib.hid hs
      clear hs
      by_cases hsl : (l.length : Int) < size
      all_goals
        go_enter Tryz.func94, Tryz.ntmps94
        go_wp2_with (first | (go_at_call 112; refine (sized_any _ _).mono ?_; rintro e w' ⟨rfl, rfl⟩; rw [Hs.out]))
        go_ret2
        exact ⟨rfl, rfl⟩
    · rw [getV_yes hs ha hsh]
      obtain ⟨b, o, rfl⟩ := hb.addr (by omega)
      obtain ⟨a, rfl⟩ := Int.eq_ofNat_of_zero_le (show 0 ≤ at' by omega)
      obtain ⟨z, rfl⟩ := Int.eq_ofNat_of_zero_le (show 0 ≤ size by omega)
      rw [Int.toNat_natCast, Int.toNat_natCast]
      have hz4 : z ≤ 4 := by omega
      have hz1 : 1 ≤ z := by omega
      have hfit : a + z ≤ l.length := by omega
      have hnc : ¬ cap = a := by omega
      have Hs := Lib.hid hs
      have Hb := Lib.hid hb
      clear hs hb hsz hsh ha
      go_enter Tryz.func94, Tryz.ntmps94
      go_wp2_with (first | (go_at_call 112; refine (sized_any _ _).mono ?_; rintro e w' ⟨rfl, rfl⟩; rw [Hs.out]))
      go_loop [8, 35] (fun n i => ∃ k : Nat, k ≤ z ∧ i = .int .i64 k ∧ n = .int .i64 (be ((l.drop a).take k))) (fun _ i => z - (intOf i).toNat)
      case atStart => exact ⟨0, Nat.zero_le _, rfl, rfl⟩
      case round =>
        obtain ⟨k, hk, rfl, rfl⟩ := hrel
        have hbd := be_le4 (l.drop a) k (by omega)
        by_cases hlt : k < z
        · have hcell := Hb.out.cellAt (a + k) (by omega)
          rw [← Nat.add_assoc] at hcell
          have hu := u8_bd (l.getD (a + k) 0)
          have hbe := be_take_succ (l.drop a) k (by rw [List.length_drop]; omega)
          rw [show (l.drop a).getD k 0 = l.getD (a + k) 0 from by simp [List.getD]] at hbe
          have Hbe := Lib.hid hbe
          clear hbe
          generalize l.getD (a + k) 0 = c at hcell hu Hbe
          generalize be ((l.drop a).take k) = n at hbd Hbe
          go_wp2
          go_round
          case rel => exact ⟨k + 1, by omega, by go_num, by rw [Hbe.out, or_byte n _ hbd.1 hbd.2 hu.1 hu.2]⟩
          case measure => simp [intOf]; omega
        · go_wp2
          go_ret2
          obtain rfl : k = z := by omega
          exact ⟨rfl, rfl⟩

end Go.Proofs.YtacnmdlefonjmaaGreat

/-
  The contract of num.Put: bytes with a number behind them.
-/
namespace Go.Proofs.YtacnmdlefonjmaaGreat
open Go.RowKit

/-- The byte at place j of a number of z bytes. -/
def putAt (n : Int) (z j : Nat) : UInt8 := UInt8.ofNat ((n % 4294967296).toNat / 256 ^ (z - 1 - j))
def putB (n : Int) (z j : Nat) : List UInt8 := (List.range j).map (putAt n z)
/-- Bytes with a number behind them. -/
def putV (l : List UInt8) (n size : Int) : List UInt8 := l ++ if rightB n size = true then putB n size.toNat size.toNat else []

theorem putB_succ (n : Int) (z j : Nat) : putB n z (j + 1) = putB n z j ++ [putAt n z j] := by
  simp [putB, List.range_succ]
theorem putB_length (n : Int) (z j : Nat) : (putB n z j).length = j := by simp [putB]

theorem putAt_shr (n : Int) (z j : Nat) (hz : z = 1 ∨ z = 2 ∨ z = 4) (hj : j < z) : ((putAt n z j).toNat : Int) = n / 2 ^ (8 * (z - 1 - j)) % 256 := by
  have : (z = 1 ∧ j = 0) ∨ (z = 2 ∧ j = 0) ∨ (z = 2 ∧ j = 1) ∨ (z = 4 ∧ j = 0) ∨ (z = 4 ∧ j = 1) ∨ (z = 4 ∧ j = 2) ∨ (z = 4 ∧ j = 3) := by omega
  rcases this with ⟨rfl, rfl⟩ | ⟨rfl, rfl⟩ | ⟨rfl, rfl⟩ | ⟨rfl, rfl⟩ | ⟨rfl, rfl⟩ | ⟨rfl, rfl⟩ | ⟨rfl, rfl⟩ <;> simp [putAt] <;> omega

end Go.Proofs.YtacnmdlefonjmaaGreat

/-
  Plain laws: a number that was put is got.
-/
namespace Go.Proofs.YtacnmdlefonjmaaGreat
open Go.RowKit

theorem be_putB' (n : Int) (z : Nat) (hz : z = 1 ∨ z = 2 ∨ z = 4) : be (putB n z z) = n % 2 ^ (8 * z) := by
  rcases hz with rfl | rfl | rfl
  · have h0 := putAt_shr n 1 0 (by omega) (by omega)
    simp [putB, be, List.range_succ] at *
    omega
  · have h0 := putAt_shr n 2 0 (by omega) (by omega)
    have h1 := putAt_shr n 2 1 (by omega) (by omega)
    simp [putB, be, List.range_succ] at *
    omega
  · have h0 := putAt_shr n 4 0 (by omega) (by omega)
    have h1 := putAt_shr n 4 1 (by omega) (by omega)
    have h2 := putAt_shr n 4 2 (by omega) (by omega)
    have h3 := putAt_shr n 4 3 (by omega) (by omega)
    simp [putB, be, List.range_succ] at *
    omega

theorem putV_right {l : List UInt8} {n : Int} {z : Nat} (h : rightB n z = true) : putV l n z = l ++ putB n z z := by
  unfold putV
  rw [if_pos h]
  rfl

theorem putV_len4 (l : List UInt8) (n size : Int) : (putV l n size).length ≤ l.length + 4 := by
  unfold putV
  split
  · rename_i h
    have hs : sizedB size = true := by unfold rightB at h; simp at h; exact h.1
    rw [List.length_append, putB_length]
    rcases sizedB_cases hs with rfl | rfl | rfl <;> simp
  · simp

theorem rightB_4 {n : Int} (h0 : 0 ≤ n) (h1 : n < 4294967296) : rightB n (4 : Nat) = true := by
  simp [rightB, sizedB]
  omega
theorem rightB_2 {n : Int} (h0 : 0 ≤ n) (h1 : n < 65536) : rightB n (2 : Nat) = true := by
  simp [rightB, sizedB]
  omega

theorem be_put4 {n : Int} (h0 : 0 ≤ n) (h1 : n < 4294967296) : be (putB n 4 4) = n := by
  rw [be_putB' n 4 (by omega)]
  omega
theorem be_put2 {n : Int} (h0 : 0 ≤ n) (h1 : n < 65536) : be (putB n 2 2) = n := by
  rw [be_putB' n 2 (by omega)]
  omega

end Go.Proofs.YtacnmdlefonjmaaGreat

/-
  Messages of clients (layer 6): as values and in memory; what may be, as plain laws.
-/
namespace Go.Proofs.YtacnmdlefonjmaaGreat
open Go.RowKit
set_option linter.unusedVariables false
set_option linter.unusedSimpArgs false

structure CeV where
  null : Bool
  bytes : List UInt8
def CeS : Rd CeV := fun S w cs x => ∃ p c, cs = [.bool x.null, .slice p x.bytes.length c] ∧ BytesS S w [.slice p x.bytes.length c] x.bytes
theorem CeS.still : Still CeS := fun S S' w w' cs x ⟨p, c, e, h⟩ hk => ⟨p, c, e, BytesS.still _ _ _ _ _ _ h hk⟩
theorem CeS.one (S : Nat → Prop) (w : World) (cs : List Value) (x : CeV) (h : CeS S w cs x) : ∀ u ∈ cs, u.oneCell' = true := by
  obtain ⟨p, c, rfl, _⟩ := h
  intro u hu
  simp only [List.mem_cons, List.not_mem_nil, or_false] at hu
  rcases hu with rfl | rfl <;> rfl
/-- The cells of a value in a list. -/
theorem ce_at {S : Nat → Prop} {w : World} {p : Option Addr} {n c k : Nat} {xs : List CeV} (h : SliceS 2 CeS S w [.slice p n c] xs) (hk : k < xs.length) :
    ∃ b o q d, p = some ⟨b, o, none⟩ ∧ S b ∧ b < w.heap.size ∧ w.cell? ⟨b, o + k * 2, none⟩ = some (.bool xs[k].null) ∧ w.cell? ⟨b, o + k * 2 + 1, none⟩ = some (.slice q xs[k].bytes.length d) ∧ BytesS S w [.slice q xs[k].bytes.length d] xs[k].bytes := by
  obtain ⟨b, o, cs, rfl, hS, hb, _, hc, q, d, rfl, hq⟩ := h.elem (by omega) k xs[k] (List.getElem?_eq_getElem hk)
  have c0 := hc 0 _ rfl
  rw [Nat.add_zero] at c0
  exact ⟨b, o, q, d, rfl, hS, hb, c0, hc 1 _ rfl, hq⟩
theorem int_at {S : Nat → Prop} {w : World} {p : Option Addr} {n c k : Nat} {xs : List Int} (h : SliceS 1 IntU S w [.slice p n c] xs) (hk : k < xs.length) :
    ∃ b o, p = some ⟨b, o, none⟩ ∧ S b ∧ b < w.heap.size ∧ w.cell? ⟨b, o + k, none⟩ = some (.int .i64 xs[k]) := by
  obtain ⟨b, o, cs, rfl, hS, hb, _, hc, rfl⟩ := h.elem (by omega) k xs[k] (List.getElem?_eq_getElem hk)
  have c0 := hc 0 _ rfl
  rw [Nat.add_zero, Nat.mul_one] at c0
  exact ⟨b, o, rfl, hS, hb, c0⟩

structure FoV where
  kind : Int
  what : Int
  name : ByteArray
  portal : ByteArray
  text : ByteArray
  oids : List Int
  formats : List Int
  results : List Int
  params : List CeV
  max : Int
/-- Where the lists of a message lie. -/
structure FoP where
  po : Option Addr
  co : Nat
  pf : Option Addr
  cf : Nat
  pr : Option Addr
  cr : Nat
  pp : Option Addr
  cp : Nat
def foNil : FoP := ⟨none, 0, none, 0, none, 0, none, 0⟩
def foCells (f : FoV) (a : FoP) : Array Value := #[.int .u8 f.kind, .int .u8 f.what, .string f.name, .string f.portal, .string f.text, .slice a.po f.oids.length a.co, .slice a.pf f.formats.length a.cf, .slice a.pr f.results.length a.cr, .slice a.pp f.params.length a.cp, .int .i64 f.max]
def foArg (f : FoV) (a : FoP) : Value := .agg (foCells f a)
/-- The lists of a message are read. -/
structure FoL (S : Nat → Prop) (w : World) (f : FoV) (a : FoP) : Prop where
  lo : SliceS 1 IntU S w [.slice a.po f.oids.length a.co] f.oids
  lf : SliceS 1 IntU S w [.slice a.pf f.formats.length a.cf] f.formats
  lr : SliceS 1 IntU S w [.slice a.pr f.results.length a.cr] f.results
  lp : SliceS 2 CeS S w [.slice a.pp f.params.length a.cp] f.params
/-- Its bytes are bytes. -/
def FoB (f : FoV) : Prop := 0 ≤ f.kind ∧ f.kind < 256 ∧ 0 ≤ f.what ∧ f.what < 256
section
variable {S S' : Nat → Prop} {w w' : World} {f : FoV} {a : FoP}
theorem FoL.keep (h : FoL S w f a) (hk : Kept S S' w w') : FoL S' w' f a :=
  ⟨(SliceS.still IntU.still) _ _ _ _ _ _ h.lo hk, (SliceS.still IntU.still) _ _ _ _ _ _ h.lf hk, (SliceS.still IntU.still) _ _ _ _ _ _ h.lr hk, (SliceS.still CeS.still) _ _ _ _ _ _ h.lp hk⟩
theorem FoL.below (h : FoL S w f a) (hb : Below w.heap.size w w') : FoL S w' f a := h.keep (Kept.all hb)
theorem FoL.weak (h : FoL S w f a) (hS : ∀ k, k < w.heap.size → S k → S' k) : FoL S' w f a := h.keep (Kept.mono w hS)
theorem FoL.any (h : FoL S w f a) : FoL (fun _ => True) w f a := h.weak (fun _ _ _ => trivial)
theorem FoL.lens (h : FoL S w f a) : f.oids.length ≤ maxLen ∧ f.formats.length ≤ maxLen ∧ f.results.length ≤ maxLen ∧ f.params.length ≤ maxLen :=
  ⟨Nat.le_trans h.lo.len.2.1 h.lo.len.2.2, Nat.le_trans h.lf.len.2.1 h.lf.len.2.2, Nat.le_trans h.lr.len.2.1 h.lr.len.2.2, Nat.le_trans h.lp.len.2.1 h.lp.len.2.2⟩
end

/-- Whether a kind is served, known, or none. -/
def knownV (k : Int) : Int := if k ∈ [66, 67, 68, 69, 72, 80, 81, 83, 88] then 1 else if k ∈ [70, 99, 100, 102, 112] then 2 else 0
def outside (lo hi n : Int) : Bool := decide (n < lo) || decide (hi < n)
def between (l : List Int) (lo hi : Int) : Bool := decide (l.length ≤ 65535) && !l.any (outside lo hi)
def wrongC (c : CeV) : Bool := (c.null && decide (0 < c.bytes.length)) || decide (1048576 < c.bytes.length)
def valuesV (l : List CeV) : Bool := decide (l.length ≤ 65535) && !l.any wrongC
def intsEq (a b : Int) : Bool := a == b
theorem intsEq_self (a : Int) : intsEq a a = true := by simp [intsEq]
def ceEq (a b : CeV) : Bool := (a.null == b.null) && (a.bytes == b.bytes)
theorem ceEq_self (a : CeV) : ceEq a a = true := by simp [ceEq]
def headEq (a b : FoV) : Bool := (a.kind == b.kind) && ((a.what == b.what) && ((a.name.toList == b.name.toList) && ((a.portal.toList == b.portal.toList) && ((a.text.toList == b.text.toList) && (a.max == b.max)))))
def foEq (a b : FoV) : Bool := headEq a b && (listEq intsEq a.oids b.oids && (listEq intsEq a.formats b.formats && (listEq intsEq a.results b.results && listEq ceEq a.params b.params)))
theorem foEq_self (a : FoV) : foEq a a = true := by
  simp [foEq, headEq, listEq_self intsEq_self, listEq_self ceEq_self]
/-- A message with just the fields that its body has. -/
def keptV (f : FoV) : FoV :=
  if f.kind = 80 then ⟨f.kind, 0, f.name, ⟨#[]⟩, f.text, f.oids, [], [], [], 0⟩
  else if f.kind = 66 then ⟨f.kind, 0, f.name, f.portal, ⟨#[]⟩, [], f.formats, f.results, f.params, 0⟩
  else if f.kind = 67 ∨ f.kind = 68 then
    if f.what = 83 then ⟨f.kind, f.what, f.name, ⟨#[]⟩, ⟨#[]⟩, [], [], [], [], 0⟩
    else ⟨f.kind, f.what, ⟨#[]⟩, f.portal, ⟨#[]⟩, [], [], [], [], 0⟩
  else if f.kind = 69 then ⟨f.kind, 0, ⟨#[]⟩, f.portal, ⟨#[]⟩, [], [], [], [], f.max⟩
  else if f.kind = 81 then ⟨f.kind, 0, ⟨#[]⟩, ⟨#[]⟩, f.text, [], [], [], [], 0⟩
  else ⟨f.kind, 0, ⟨#[]⟩, ⟨#[]⟩, ⟨#[]⟩, [], [], [], [], 0⟩
def whatV (f : FoV) : Bool := if f.kind = 67 ∨ f.kind = 68 then (f.what == 83) || (f.what == 80) else f.what == 0
def listsV (f : FoV) : Bool := between f.oids 0 4294967295 && (between f.formats 0 65535 && (between f.results 0 65535 && valuesV f.params))
def textsV (f : FoV) : Bool := cleanB f.name && (cleanB f.portal && cleanB f.text)
def maxV (f : FoV) : Bool := decide (-2147483648 ≤ f.max) && decide (f.max < 2147483648)
/-- Whether a message of a served kind may be. -/
def okF (f : FoV) : Bool := whatV f && (listsV f && (textsV f && (maxV f && foEq f (keptV f))))
def checkF (f : FoV) : Int := if knownV f.kind = 1 then (if okF f = true then 0 else 1) else 9

/-- Bytes with a list behind them; with values behind them. -/
def listB (b : List UInt8) (l : List Int) (size : Nat) : List UInt8 := l.foldl (fun b n => putV b n size) (putV b l.length 2)
def cellB (b : List UInt8) (c : CeV) : List UInt8 := if c.null then putV b 4294967295 4 else putV b c.bytes.length 4 ++ c.bytes
def rowB (b : List UInt8) (l : List CeV) : List UInt8 := l.foldl cellB (putV b l.length 2)
def strB (b : List UInt8) (s : ByteArray) : List UInt8 := (b ++ s.data.toList) ++ [0]
/-- The body of a message that may be. -/
def bodyF (f : FoV) : List UInt8 :=
  if f.kind = 80 then listB (strB (strB [] f.name) f.text) f.oids 4
  else if f.kind = 66 then listB (rowB (listB (strB (strB [] f.portal) f.name) f.formats 2) f.params) f.results 2
  else if f.kind = 67 ∨ f.kind = 68 then strB [UInt8.ofNat f.what.toNat] (if f.what = 83 then f.name else f.portal)
  else if f.kind = 69 then putV (strB [] f.portal) f.max 4
  else if f.kind = 81 then strB [] f.text
  else []
/-- A message's type, body and error. -/
def encF (f : FoV) : Int × List UInt8 × Int := if checkF f = 0 then (f.kind, bodyF f, 0) else (0, [], checkF f)

end Go.Proofs.YtacnmdlefonjmaaGreat

/-
  The contract of bytes.Clone.
-/
namespace Go.Proofs.YtacnmdlefonjmaaGreat
open Go.RowKit

/-- bytes.Clone: nil stays nil; else a row of its own. -/
theorem clone_any (p : Option Addr) (l : List UInt8) (cap : Nat) (w : World) (hl : l.length ≤ 1000000000) (hb : BytesIn w p l) :
    Calls Tryz.prog 97 #[.slice p l.length cap] w fun e w' =>
      ∃ v, e = .returned v ∧ OwnB w.heap.size w' v l ∧ Below w.heap.size w w' := by
  have q22 : ∀ (w : World) (a : Option Addr) (n c n' c' : Nat), (binOp .eql 32 (.slice a n c) (.slice none n' c')).run Tryz.prog w = .ok (.bool a.isNone) w :=
    fun w a n c n' c' => Lib.run_eql_slice_nil w _ _ a n c n' c' Tryz.underlying32
  have Hb := Lib.hid hb
  cases p with
  | none =>
    have hl0 : l = [] := by
      by_cases h0 : l = []
      · exact h0
      · obtain ⟨b, o, e⟩ := hb.addr (List.length_pos_iff.2 h0)
        cases e
    subst hl0
    clear hb
    go_enter Tryz.func97, Tryz.ntmps97
    go_wp2
    go_ret
    exact ⟨_, rfl, OwnB.none _ _, Below.refl _ _⟩
  | some a =>
    clear hb
    go_enter Tryz.func97, Tryz.ntmps97
    go_wp2_with (first | (at_builtin; refine step_appendB _ rfl _ _ rfl w.heap.size _ [] rfl (OwnB.empty (Nat.le_refl _)) _ l _ rfl (Hb.out.alloc _) (by simp; omega) (by simp) ?_; intro v1 w1 hown1 hb1 _))
    go_ret
    exact ⟨_, rfl, by simpa using hown1, ((Below.refl _ _).alloc (Nat.le_refl _) _).trans hb1⟩

end Go.Proofs.YtacnmdlefonjmaaGreat

/-
  The contracts of package scan (layer 3): New, good, fail, cut.
-/
namespace Go.Proofs.YtacnmdlefonjmaaGreat
open Go.RowKit

/-- A scan in memory: its struct in block sb, its bytes in block g. -/
def ScanO (w : World) (sb g : Nat) (L : List UInt8) (bad : Bool) : Prop :=
  ∃ p c, Blk w sb 146 #[.slice p L.length c, .bool bad, .bool true] ∧ L.length ≤ c ∧ c ≤ maxLen ∧ BytesIn w p L ∧ (∀ x, p = some x → x.block = g) ∧ (L ≠ [] → g ≠ sb) ∧ (bad = true → L = []) ∧ (p = none → c = 0)

theorem ScanO.touch {w w' : World} {sb g : Nat} {L : List UInt8} {bad : Bool} {p : Nat → Prop} (h : ScanO w sb g L bad) (ht : Touch p w w') (h1 : ¬ p sb) (h2 : L ≠ [] → ¬ p g) : ScanO w' sb g L bad := by
  obtain ⟨q, c, hb, h3, h4, h5, h6, h7, h8, h9⟩ := h
  exact ⟨q, c, ht.blk hb h1, h3, h4, ht.bytesIn h5 (fun hne x hx => by rw [h6 x hx]; exact h2 hne), h6, h7, h8, h9⟩

theorem ScanO.lt {w : World} {sb g : Nat} {L : List UInt8} {bad : Bool} (h : ScanO w sb g L bad) : sb < w.heap.size := by
  obtain ⟨q, c, hb, _⟩ := h
  exact hb.lt

theorem ScanO.ltg {w : World} {sb g : Nat} {L : List UInt8} {bad : Bool} (h : ScanO w sb g L bad) (hL : L ≠ []) : g < w.heap.size := by
  obtain ⟨q, c, hb, h3, h4, h5, h6, h7, h8⟩ := h
  obtain ⟨b, o, e, hc⟩ := h5 0 (List.length_pos_iff.2 hL)
  have := h6 _ e
  subst this
  exact World.block_lt_of_cell? w _ hc

theorem scanGood_nil (w : World) :
    Calls Tryz.prog 102 #[.pointer none] w fun e w' => e = .returned (.bool false) ∧ w = w' := by
  go_enter Tryz.func102, Tryz.ntmps102
  go_wp2
  go_ret
  exact ⟨rfl, rfl⟩

theorem scanGood_blk (sb : Nat) (v : Value) (bad made : Bool) (w : World) (h : ∀ i, w.cell? ⟨sb, i, none⟩ = (#[v, .bool bad, .bool made] : Array Value)[i]?) :
    Calls Tryz.prog 102 #[.pointer (some ⟨sb, 0, none⟩)] w fun e w' => e = .returned (.bool (made && !bad)) ∧ w = w' := by
  cases made
  · go_enter Tryz.func102, Tryz.ntmps102
    go_wp2
    go_ret
    exact ⟨rfl, rfl⟩
  · go_enter Tryz.func102, Tryz.ntmps102
    go_wp2
    go_ret
    exact ⟨ret_bool (by simp), rfl⟩

theorem scanFail_nil (w : World) :
    Calls Tryz.prog 110 #[.pointer none] w fun e w' => e = .returned (.tuple #[]) ∧ w = w' := by
  go_enter Tryz.func110, Tryz.ntmps110
  go_wp2
  go_end0
  exact ⟨rfl, rfl⟩

theorem scanFail_blk (sb : Nat) (v : Value) (bad made : Bool) (w : World) (h : Blk w sb 146 #[v, .bool bad, .bool made]) :
    Calls Tryz.prog 110 #[.pointer (some ⟨sb, 0, none⟩)] w fun e w' => e = .returned (.tuple #[]) ∧ Blk w' sb 146 #[.slice none 0 0, .bool true, .bool made] ∧ Touch (fun i => i = sb) w w' := by
  have hc := h.cell
  have hf0 := h.frozen 0
  have hf1 := h.frozen 1
  have Hb := Lib.hid h
  clear h
  go_enter Tryz.func110, Tryz.ntmps110
  go_wp2
  go_end0
  refine ⟨rfl, ?_, ((Touch.refl (fun i => i = sb) w).setCell (x := ⟨sb, 1, none⟩) (fun _ => rfl) _).setCell (x := ⟨sb, 0, none⟩) (fun _ => rfl) _⟩
  have := (Hb.out.set_ 1 (.bool true)).set_ 0 (.slice none 0 0)
  simpa using this

theorem ScanO.failed {w : World} {sb g : Nat} (h : Blk w sb 146 #[.slice none 0 0, .bool true, .bool true]) : ScanO w sb g [] true :=
  ⟨none, 0, h, Nat.le_refl _, by simp [maxLen], BytesIn.nil _ _, (by simp), (by simp), fun _ => rfl, fun _ => rfl⟩

/-- Nothing is cut: the scan is bad, or there are not so many. -/
theorem scanCut_no (sb g : Nat) (L : List UInt8) (bad : Bool) (n : Int) (w : World) (h : ScanO w sb g L bad) (hn : bad = true ∨ n < 0 ∨ (L.length : Int) < n) :
    Calls Tryz.prog 111 #[.pointer (some ⟨sb, 0, none⟩), .int .i64 n] w fun e w' =>
      e = .returned (.tuple #[.slice none 0 0, .bool false]) ∧ ScanO w' sb g [] true ∧ Touch (fun i => i = sb) w w' := by
  obtain ⟨p, c, hb, h1, h2, h3, h4, h5, h6, h7⟩ := h
  have hc := hb.cell
  have Hb := Lib.hid hb
  have hbb : bad = true ∨ (bad = false ∧ n < 0) ∨ (bad = false ∧ ¬ n < 0 ∧ (L.length : Int) < n) := by
    cases bad <;> by_cases q : n < 0 <;> simp_all
  clear hb h3 h4 h5 h6 h7 hn
  rcases hbb with rfl | ⟨rfl, hn⟩ | ⟨rfl, hn, hn2⟩
  all_goals
    go_enter Tryz.func111, Tryz.ntmps111
    go_wp2_with (first
      | (go_at_call 102; refine (scanGood_blk sb _ _ true _ hc).mono ?_; rintro e w1 ⟨rfl, rfl⟩)
      | (go_at_call 110; refine (scanFail_blk sb _ _ true _ Hb.out).mono ?_; rintro e w1 ⟨rfl, hb1, ht1⟩; have Hb1 := Lib.hid hb1; have Ht1 := Lib.hid ht1; clear hb1 ht1 hc))
    go_ret2
    exact ⟨rfl, ScanO.failed Hb1.out, Ht1.out⟩

theorem scan_moved {w w' : World} {sb g : Nat} {L : List UInt8} {a : Addr} (n : Nat) (hT : Touch (fun i => i = sb) w w') (hin : BytesIn w (some a) L) (hg : ∀ x, some a = some x → x.block = g) (hne : L ≠ [] → g ≠ sb) :
    BytesIn w' (some a) (L.take n) ∧ BytesIn w' (some (a.add n)) (L.drop n) ∧ (∀ x, some (a.add n) = some x → x.block = g) := by
  have h1 : BytesIn w' (some a) L := hT.bytesIn hin (fun h x hx e => hne h (by rw [← hg x hx]; exact e))
  refine ⟨h1.take n, ?_, fun x hx => ?_⟩
  · by_cases h0 : L = []
    · subst h0
      simp only [List.drop_nil]
      exact BytesIn.nil _ _
    · obtain ⟨b, o, e⟩ := h1.addr (List.length_pos_iff.2 h0)
      cases e
      rw [Addr.add_lit]
      exact h1.drop n
  · cases hx
    rw [← hg a rfl]
    unfold Addr.add
    split <;> rfl

theorem scanCut_yes (sb g : Nat) (L : List UInt8) (n : Nat) (w : World) (h : ScanO w sb g L false) (hn : n ≤ L.length) :
    Calls Tryz.prog 111 #[.pointer (some ⟨sb, 0, none⟩), .int .i64 (n : Int)] w fun e w' =>
      ∃ p, e = .returned (.tuple #[.slice p n n, .bool true]) ∧ BytesIn w' p (L.take n) ∧ (∀ x, p = some x → x.block = g) ∧ ScanO w' sb g (L.drop n) false ∧ Touch (fun i => i = sb) w w' := by
  obtain ⟨p, c, hb, h1, h2, h3, h4, h5, h6, h7⟩ := h
  have hc := hb.cell
  have hf := hb.frozen 0
  have Hb := Lib.hid hb
  have Hin := Lib.hid h3
  have Hg := Lib.hid h4
  have Hne := Lib.hid h5
  have hn0 : ¬ (n : Int) < 0 := by omega
  have hn1 : ¬ (L.length : Int) < (n : Int) := by omega
  have h2' := h2
  unfold maxLen at h2
  have H2 := Lib.hid h2'
  have Hbt : ∀ (q : Option Addr) (k d : Nat), Blk (w.setCell ⟨sb, 0, none⟩ (.slice q k d)) sb 146 #[.slice q k d, .bool false, .bool true] := fun q k d => by
    have := hb.set_ 0 (.slice q k d)
    simpa using this
  have HBt := Lib.hid Hbt
  have Ht : ∀ (u : Value), Touch (fun i => i = sb) w (w.setCell ⟨sb, 0, none⟩ u) := fun u => (Touch.refl (fun i => i = sb) w).setCell (x := ⟨sb, 0, none⟩) (fun _ => rfl) u
  have HT := Lib.hid Ht
  have Hlen := Lib.hid (show (L.drop n).length = L.length - n from List.length_drop)
  clear hb h3 h4 h5 h6 h2' Hbt Ht
  cases p with
  | none =>
    have hL : L = [] := by
      by_cases h0 : L = []
      · exact h0
      · obtain ⟨b, o, e⟩ := Hin.out.addr (List.length_pos_iff.2 h0)
        cases e
    subst hL
    obtain rfl : n = 0 := by simpa using hn
    obtain rfl : c = 0 := h7 rfl
    clear h7 hn0 hn1 Hlen
    go_enter Tryz.func111, Tryz.ntmps111
    go_wp2_with (first
      | (go_at_call 102; refine (scanGood_blk sb _ _ true _ hc).mono ?_; rintro e w1 ⟨rfl, rfl⟩))
    go_ret2
    exact ⟨none, rfl, BytesIn.nil _ _, (by simp), ⟨none, 0, HBt.out _ _ _, Nat.le_refl _, by simp [maxLen], BytesIn.nil _ _, (by simp), (by simp), (by simp), fun _ => rfl⟩, HT.out _⟩
  | some a =>
    clear h7
    have Htk := Lib.hid (show BytesIn w (some a) (L.take n) from Hin.out.take n)
    by_cases hcn : n = c
    · subst hcn
      have hd0 : L.drop n = [] := List.eq_nil_of_length_eq_zero (by rw [List.length_drop]; omega)
      have Hd0 := Lib.hid hd0
      have hLn : L.length = n := by omega
      clear hd0
      go_enter Tryz.func111, Tryz.ntmps111
      go_wp2_with (first
        | (go_at_call 102; refine (scanGood_blk sb _ _ true _ hc).mono ?_; rintro e w1 ⟨rfl, rfl⟩))
      go_ret2
      obtain ⟨m1, _, _⟩ := scan_moved n (HT.out (.slice (some a) 0 0)) Hin.out Hg.out Hne.out
      rw [Hd0.out]
      exact ⟨_, rfl, m1, Hg.out, ⟨some a, 0, HBt.out _ _ _, Nat.le_refl _, by simp [maxLen], BytesIn.nil _ _, Hg.out, (by simp), (by simp), (by simp)⟩, HT.out _⟩
    · have hcn2 : ¬ c = n := fun e => hcn e.symm
      clear hcn
      go_enter Tryz.func111, Tryz.ntmps111
      go_wp2_with (first
        | (go_at_call 102; refine (scanGood_blk sb _ _ true _ hc).mono ?_; rintro e w1 ⟨rfl, rfl⟩))
      go_ret2
      obtain ⟨m1, m2, m3⟩ := scan_moved n (HT.out (.slice (some (a.add n)) (L.length - n) (c - n))) Hin.out Hg.out Hne.out
      refine ⟨_, rfl, m1, Hg.out, ⟨some (a.add n), c - n, ?_, ?_, ?_, m2, m3, fun h => Hne.out (fun e => h (by rw [e]; exact List.drop_nil)), (by simp), (by simp)⟩, HT.out _⟩
      · rw [Hlen.out]; exact HBt.out _ _ _
      · rw [Hlen.out]; omega
      · unfold maxLen; omega

/-- Cut of a scan that no call made, and of none. -/
theorem scanCut_none (n : Int) (w : World) :
    Calls Tryz.prog 111 #[.pointer none, .int .i64 n] w fun e w' => e = .returned (.tuple #[.slice none 0 0, .bool false]) ∧ w = w' := by
  go_enter Tryz.func111, Tryz.ntmps111
  go_wp2_with (first
    | (go_at_call 102; refine (scanGood_nil _).mono ?_; rintro e w1 ⟨rfl, rfl⟩)
    | (go_at_call 110; refine (scanFail_nil _).mono ?_; rintro e w1 ⟨rfl, rfl⟩))
  go_ret2
  exact ⟨rfl, rfl⟩

theorem scanCut_zero (sb : Nat) (v : Value) (bad : Bool) (n : Int) (w : World) (h : Blk w sb 146 #[v, .bool bad, .bool false]) :
    Calls Tryz.prog 111 #[.pointer (some ⟨sb, 0, none⟩), .int .i64 n] w fun e w' =>
      e = .returned (.tuple #[.slice none 0 0, .bool false]) ∧ Blk w' sb 146 #[.slice none 0 0, .bool true, .bool false] ∧ Touch (fun i => i = sb) w w' := by
  have hc := h.cell
  have Hb := Lib.hid h
  clear h
  go_enter Tryz.func111, Tryz.ntmps111
  go_wp2_with (first
    | (go_at_call 102; refine (scanGood_blk sb _ _ false _ hc).mono ?_; rintro e w1 ⟨rfl, rfl⟩)
    | (go_at_call 110; refine (scanFail_blk sb _ _ false _ Hb.out).mono ?_; rintro e w1 ⟨rfl, hb1, ht1⟩; have Hb1 := Lib.hid hb1; have Ht1 := Lib.hid ht1; clear hb1 ht1 hc))
  go_ret2
  exact ⟨rfl, Hb1.out, Ht1.out⟩

end Go.Proofs.YtacnmdlefonjmaaGreat

/-
  The contracts of package scan (layer 3): New, Num, Take, Left, Bad, Done.
-/
namespace Go.Proofs.YtacnmdlefonjmaaGreat
open Go.RowKit

theorem rightB_zero (n : Int) : rightB 0 n = sizedB n := by
  unfold rightB
  by_cases h : sizedB n = true
  · rcases sizedB_cases h with rfl | rfl | rfl <;> decide
  · have h' : sizedB n = false := by simpa using h
    rw [h']; rfl

theorem ScanO.cells {w : World} {sb g : Nat} {L : List UInt8} {bad : Bool} (h : ScanO w sb g L bad) : ∃ p c, Blk w sb 146 #[.slice p L.length c, .bool bad, .bool true] := by
  obtain ⟨p, c, hb, _⟩ := h
  exact ⟨p, c, hb⟩

theorem scanNew_any (p : Option Addr) (l : List UInt8) (cap : Nat) (w : World) (hl : l.length ≤ 1000000000) (hb : BytesIn w p l) :
    Calls Tryz.prog 88 #[.slice p l.length cap] w fun e w' =>
      ∃ sb g, e = .returned (.pointer (some ⟨sb, 0, none⟩)) ∧ ScanO w' sb g l false ∧ w.heap.size ≤ sb ∧ w.heap.size ≤ g ∧ Touch (fun _ => False) w w' := by
  have Hb := Lib.hid hb
  clear hb
  go_enter Tryz.func88, Tryz.ntmps88
  go_wp2_with fail
  refine (clone_any p l cap w hl Hb.out).mono ?_
  rintro e w1 ⟨v, rfl, ho, hb1⟩
  have hs1 := hb1.size
  have Ho := Lib.hid ho
  have Ht1 := Lib.hid (Touch.of_below (p := fun _ => False) hb1)
  clear ho hb1
  rcases Ho.out.2 with ⟨rfl, h0⟩ | ⟨g, cap', cur, rfl, h1, h2, h3, h4, _⟩
  · have hl0 : l = [] := List.eq_nil_of_length_eq_zero h0
    subst hl0
    go_wp2
    go_ret
    exact ⟨_, _, rfl, ⟨none, 0, Blk.new _ _ _, Nat.le_refl _, by simp [maxLen], BytesIn.nil _ _, (by simp), fun h => absurd rfl h, (by simp), fun _ => rfl⟩, hs1, Nat.le_refl _, Ht1.out.alloc _⟩
  · obtain ⟨p2, c2, e2, k1, k2, k3⟩ := Ho.out.slice
    simp only [Value.slice.injEq] at e2
    obtain ⟨rfl, -, rfl⟩ := e2
    have K3 := Lib.hid k3
    have hgl : g < w1.heap.size := (Ho.out.lt g rfl).2
    clear h2 k3
    go_wp2
    go_ret
    exact ⟨_, g, rfl, ⟨some ⟨g, 0, none⟩, cap', Blk.new _ _ _, k1, k2, K3.out.alloc _, (by simp), fun _ => by omega, (by simp), (by simp)⟩, hs1, h1, Ht1.out.alloc _⟩

theorem scanDone_any (sb g : Nat) (L : List UInt8) (bad : Bool) (w : World) (h : ScanO w sb g L bad) :
    Calls Tryz.prog 90 #[.pointer (some ⟨sb, 0, none⟩)] w fun e w' => e = .returned (.bool (!bad && L.isEmpty)) ∧ w = w' := by
  obtain ⟨p, c, hb, _⟩ := h
  have hc := hb.cell
  clear hb
  generalize hm : L.isEmpty = em
  have he : ((L.length : Int) == 0) = em := by rw [← hm]; cases L <;> simp; omega
  have He := Lib.hid he
  clear hm he
  cases bad
  · go_enter Tryz.func90, Tryz.ntmps90
    go_wp2_with (first | (go_at_call 102; refine (scanGood_blk sb _ _ true _ hc).mono ?_; rintro e w1 ⟨rfl, rfl⟩))
    go_ret
    refine ⟨ret_bool ?_, rfl⟩
    have := He.out
    simpa using this
  · go_enter Tryz.func90, Tryz.ntmps90
    go_wp2_with (first | (go_at_call 102; refine (scanGood_blk sb _ _ true _ hc).mono ?_; rintro e w1 ⟨rfl, rfl⟩))
    go_ret
    exact ⟨rfl, rfl⟩

theorem scanNum_no (sb g : Nat) (L : List UInt8) (bad : Bool) (n : Int) (w : World) (h : ScanO w sb g L bad) (hn : bad = true ∨ sizedB n = false ∨ (L.length : Int) < n) :
    Calls Tryz.prog 92 #[.pointer (some ⟨sb, 0, none⟩), .int .i64 n] w fun e w' =>
      e = .returned (.int .i64 0) ∧ ScanO w' sb g [] true ∧ Touch (fun i => i = sb) w w' := by
  have hr := rightB_zero n
  have H := Lib.hid h
  by_cases hs : sizedB n = true
  · rw [hs] at hr
    have Hr := Lib.hid hr
    have Hn : Hid (bad = true ∨ n < 0 ∨ (L.length : Int) < n) := Lib.hid (by rcases hn with e | e | e; (· exact .inl e); (· rw [hs] at e; cases e); (· exact .inr (.inr e)))
    clear h hn hr hs
    go_enter Tryz.func92, Tryz.ntmps92
    go_wp2_with (first
      | (go_at_call 109; refine (right_any _ _ _).mono ?_; rintro e w1 ⟨rfl, rfl⟩; rw [Hr.out])
      | (go_at_call 111; refine (scanCut_no sb g L bad n w H.out Hn.out).mono ?_; rintro e w1 ⟨rfl, h1, ht1⟩; have H1 := Lib.hid h1; have Ht1 := Lib.hid ht1; clear h1 ht1))
    go_ret
    exact ⟨rfl, H1.out, Ht1.out⟩
  · have hs' : sizedB n = false := by simpa using hs
    rw [hs'] at hr
    have Hr := Lib.hid hr
    obtain ⟨p, c, hb⟩ := h.cells
    have Hb := Lib.hid hb
    clear h hn hr hs hs' hb
    go_enter Tryz.func92, Tryz.ntmps92
    go_wp2_with (first
      | (go_at_call 109; refine (right_any _ _ _).mono ?_; rintro e w1 ⟨rfl, rfl⟩; rw [Hr.out])
      | (go_at_call 110; refine (scanFail_blk sb _ _ true _ Hb.out).mono ?_; rintro e w1 ⟨rfl, hb1, ht1⟩; have Hb1 := Lib.hid hb1; have Ht1 := Lib.hid ht1; clear hb1 ht1))
    go_ret
    exact ⟨rfl, ScanO.failed Hb1.out, Ht1.out⟩

theorem scanNum_yes (sb g : Nat) (L : List UInt8) (n : Nat) (w : World) (h : ScanO w sb g L false) (hs : sizedB n = true) (hn : n ≤ L.length) :
    Calls Tryz.prog 92 #[.pointer (some ⟨sb, 0, none⟩), .int .i64 (n : Int)] w fun e w' =>
      e = .returned (.int .i64 (be (L.take n))) ∧ ScanO w' sb g (L.drop n) false ∧ Touch (fun i => i = sb) w w' := by
  have hr := rightB_zero n
  rw [hs] at hr
  have Hr := Lib.hid hr
  have H := Lib.hid h
  have htk : (L.take n).length = n := by rw [List.length_take]; omega
  have hsz := sizedB_cases hs
  have hv : getV (L.take n) 0 n = (be (L.take n), 0) := by
    rw [getV_yes hs (by omega) (by rw [htk]; omega)]
    simp [List.take_take]
  have hget : ∀ (w : World) (p : Option Addr), BytesIn w p (L.take n) → Calls Tryz.prog 94 #[.slice p n n, .int .i64 0, .int .i64 (n : Int)] w fun e w' => e = .returned (.tuple #[.int .i64 (be (L.take n)), .int .i64 0]) ∧ w = w' := by
    intro w p hin
    have := get_any p (L.take n) n 0 n w (by omega) (by unfold maxLen; omega) hin
    rw [htk, hv] at this
    exact this
  have Hget := Lib.hid hget
  clear h hr hs htk hsz hv hget
  go_enter Tryz.func92, Tryz.ntmps92
  go_wp2_with (first
    | (go_at_call 109; refine (right_any _ _ _).mono ?_; rintro e w1 ⟨rfl, rfl⟩; rw [Hr.out])
    | (go_at_call 111; refine (scanCut_yes sb g L n w H.out hn).mono ?_; rintro e w1 ⟨p, rfl, hin, _, h1, ht1⟩; have H1 := Lib.hid h1; have Ht1 := Lib.hid ht1; have Hin := Lib.hid hin; clear h1 ht1 hin)
    | (go_at_call 94; refine (Hget.out _ _ Hin.out).mono ?_; rintro e w2 ⟨rfl, rfl⟩))
  go_ret
  exact ⟨rfl, H1.out, Ht1.out⟩

end Go.Proofs.YtacnmdlefonjmaaGreat

/-
  The contract of bytes.IndexByte: the place of the first such byte, or -1.
-/
namespace Go.Proofs.YtacnmdlefonjmaaGreat
open Go.RowKit

set_option maxRecDepth 100000 in
theorem run_indexBytes (w : World) (p : Option Addr) (l : List UInt8) (c : Nat) (cv : Int) (hin : BytesIn w p l) :
    (Extern.BytealgIndexByte.indexByte #[.slice p l.length c, .int .u8 cv]).run Tryz.prog w = .ok (.int .i64 (Lib.indexByte l cv.toNat.toUInt8)) w := by
  by_cases h0 : l = []
  · subst h0
    cases p with
    | none => exact Lib.run_indexByteNil w 0 c cv
    | some a =>
      have hs := Lib.run_indexByteString (P := Tryz.prog) .empty cv w
      exact hs
  · obtain ⟨b, o, rfl⟩ := hin.addr (List.length_pos_iff.2 h0)
    have := Lib.run_indexByteSlice (P := Tryz.prog) w b o l.length c (l.map fun x => (x.toNat : Int)) (by simp) (fun i hi => by
      rw [hin.cellAt i hi]; simp [List.getD, hi]) cv
    rw [this]
    have e : Lib.bytesOf (l.map fun x => (x.toNat : Int)) = l := by simp [Lib.bytesOf, Function.comp_def]
    rw [e]

set_option maxRecDepth 100000 in
theorem bytesIndexByte (p : Option Addr) (l : List UInt8) (c : Nat) (cv : Int) (w : World) (hin : BytesIn w p l) :
    Calls Tryz.prog 96 #[.slice p l.length c, .int .u8 cv] w fun e w' => e = .returned (.int .i64 (Lib.indexByte l cv.toNat.toUInt8)) ∧ w = w' := by
  have hrun := run_indexBytes w p l c cv hin
  generalize Lib.indexByte l cv.toNat.toUInt8 = r at hrun
  have Hrun := Lib.hid hrun
  clear hrun
  go_enter Tryz.func96, Tryz.ntmps96
  go_wp2
  rw [run_callFunc_extern Tryz.func113 (by kernel_rfl) (by kernel_rfl) (by kernel_rfl) (e := Extern.BytealgIndexByte.indexByte) (by kernel_rfl), Hrun.out]
  simp only [Result.andThen]
  rw [Oper.upon_value]
  go_wp2
  go_ret
  exact ⟨rfl, rfl⟩

/-- Where the first such byte stands: those ahead of it are others. -/
theorem indexByte_spec (l : List UInt8) (c : UInt8) : Lib.indexByte l c = -1 ∨ ∃ k : Nat, Lib.indexByte l c = k ∧ k < l.length := by
  induction l with
  | nil => exact .inl rfl
  | cons b l ih =>
    unfold Lib.indexByte
    by_cases hb : (b == c) = true
    · rw [if_pos hb]; exact .inr ⟨0, rfl, by simp⟩
    · rw [if_neg hb]
      rcases ih with h | ⟨k, h, hk⟩
      · rw [h]; exact .inl rfl
      · rw [h, if_neg (by simp)]
        exact .inr ⟨k + 1, by omega, by simpa using hk⟩

end Go.Proofs.YtacnmdlefonjmaaGreat

/-
  The contracts of scan.Text, and of scans that no call made (layer 3).
-/
namespace Go.Proofs.YtacnmdlefonjmaaGreat
open Go.RowKit

theorem scanText_bad (sb g : Nat) (L : List UInt8) (w : World) (h : ScanO w sb g L true) :
    Calls Tryz.prog 98 #[.pointer (some ⟨sb, 0, none⟩)] w fun e w' => e = .returned (.string ⟨#[]⟩) ∧ w = w' := by
  obtain ⟨p, c, hb, _⟩ := h
  have hc := hb.cell
  clear hb
  go_enter Tryz.func98, Tryz.ntmps98
  go_wp2_with (first | (go_at_call 102; refine (scanGood_blk sb _ _ true _ hc).mono ?_; rintro e w1 ⟨rfl, rfl⟩))
  go_ret
  exact ⟨rfl, rfl⟩

theorem scanText_no (sb g : Nat) (L : List UInt8) (w : World) (h : ScanO w sb g L false) (hi : Lib.indexByte L 0 = -1) :
    Calls Tryz.prog 98 #[.pointer (some ⟨sb, 0, none⟩)] w fun e w' => e = .returned (.string ⟨#[]⟩) ∧ ScanO w' sb g [] true ∧ Touch (fun i => i = sb) w w' := by
  obtain ⟨p, c, hb, _, _, hin, _⟩ := h
  have hc := hb.cell
  have Hb := Lib.hid hb
  have Hin := Lib.hid hin
  have Hi := Lib.hid (show Lib.indexByte L (0 : Int).toNat.toUInt8 = -1 from hi)
  clear hb hin hi
  go_enter Tryz.func98, Tryz.ntmps98
  go_wp2_with (first
    | (go_at_call 102; refine (scanGood_blk sb _ _ true _ hc).mono ?_; rintro e w1 ⟨rfl, rfl⟩)
    | (go_at_call 96; refine (bytesIndexByte p L c 0 _ Hin.out).mono ?_; rintro e w1 ⟨rfl, rfl⟩; rw [Hi.out])
    | (go_at_call 110; refine (scanFail_blk sb _ _ true _ Hb.out).mono ?_; rintro e w1 ⟨rfl, hb1, ht1⟩; have Hb1 := Lib.hid hb1; have Ht1 := Lib.hid ht1; clear hb1 ht1))
  go_ret
  exact ⟨rfl, ScanO.failed Hb1.out, Ht1.out⟩

theorem scanText_yes (sb g : Nat) (L : List UInt8) (k : Nat) (w : World) (h : ScanO w sb g L false) (hi : Lib.indexByte L 0 = k) (hk : k < L.length) :
    Calls Tryz.prog 98 #[.pointer (some ⟨sb, 0, none⟩)] w fun e w' => e = .returned (.string (strOf (L.take k))) ∧ ScanO w' sb g (L.drop (k + 1)) false ∧ Touch (fun i => i = sb) w w' := by
  have H := Lib.hid h
  obtain ⟨p, c, hb, hlc, hcm, hin, _⟩ := h
  have hc := hb.cell
  have Hin := Lib.hid hin
  have Hi := Lib.hid (show Lib.indexByte L (0 : Int).toNat.toUInt8 = k from hi)
  have hk1 : (k : Int) + 1 = ((k + 1 : Nat) : Int) := by omega
  have Hk1 := Lib.hid hk1
  have hconv : ∀ (w : World) (q : Option Addr), BytesIn w q (L.take (k + 1)) → (convert 32 9 (.slice q k (k + 1))).run Tryz.prog w = .ok (.string (strOf (L.take k))) w := by
    intro w q hq
    have h2 := hq.take k
    rw [List.take_take, Nat.min_eq_left (by omega)] at h2
    have := h2.convert (k + 1) 32 5 9 Tryz.underlying32 Tryz.underlying5 Tryz.underlying9
    rw [List.length_take, Nat.min_eq_left (by omega)] at this
    exact this
  have Hconv := Lib.hid hconv
  unfold maxLen at hcm
  clear hb hin hi hk1 hconv
  generalize strOf (L.take k) = r at Hconv
  go_enter Tryz.func98, Tryz.ntmps98
  go_wp2_with (first
    | (go_at_call 102; refine (scanGood_blk sb _ _ true _ hc).mono ?_; rintro e w1 ⟨rfl, rfl⟩)
    | (go_at_call 96; refine (bytesIndexByte p L c 0 _ Hin.out).mono ?_; rintro e w1 ⟨rfl, rfl⟩; rw [Hi.out])
    | (go_at_call 111; rw [Hk1.out]; refine (scanCut_yes sb g L (k + 1) _ H.out (by omega)).mono ?_; rintro e w1 ⟨q, rfl, hq, _, h1, ht1⟩; have hcv := Hconv.out _ _ hq; have H1 := Lib.hid h1; have Ht1 := Lib.hid ht1; clear h1 ht1 hq hc))
  go_ret
  exact ⟨rfl, H1.out, Ht1.out⟩

end Go.Proofs.YtacnmdlefonjmaaGreat

/-
  The contracts of remudaref03 (layer 3): New, Num, Take, Left, Done.
-/
namespace Go.Proofs.YtacnmdlefonjmaaGreat
open Go.RowKit

/-- The document's scan in memory. -/
def RefS (w : World) (xb g : Nat) (L : List UInt8) (no : Bool) : Prop :=
  ∃ p c, Blk w xb 126 #[.slice p L.length c, .bool no] ∧ L.length ≤ c ∧ c ≤ maxLen ∧ BytesIn w p L ∧ (∀ x, p = some x → x.block = g) ∧ (L ≠ [] → g ≠ xb) ∧ (p = none → c = 0)

theorem RefS.touch {w w' : World} {xb g : Nat} {L : List UInt8} {no : Bool} {p : Nat → Prop} (h : RefS w xb g L no) (ht : Touch p w w') (h1 : ¬ p xb) (h2 : L ≠ [] → ¬ p g) : RefS w' xb g L no := by
  obtain ⟨q, c, hb, h3, h4, h5, h6, h7, h8⟩ := h
  exact ⟨q, c, ht.blk hb h1, h3, h4, ht.bytesIn h5 (fun hne x hx => by rw [h6 x hx]; exact h2 hne), h6, h7, h8⟩

theorem RefS.lt {w : World} {xb g : Nat} {L : List UInt8} {no : Bool} (h : RefS w xb g L no) : xb < w.heap.size := by
  obtain ⟨q, c, hb, _⟩ := h
  exact hb.lt

theorem refSNew_any (p : Option Addr) (l : List UInt8) (cap : Nat) (w : World) (hl : l.length ≤ 1000000000) (hb : BytesIn w p l) :
    Calls Tryz.prog 55 #[.slice p l.length cap] w fun e w' =>
      ∃ xb g, e = .returned (.pointer (some ⟨xb, 0, none⟩)) ∧ RefS w' xb g l false ∧ w.heap.size ≤ xb ∧ w.heap.size ≤ g ∧ Touch (fun _ => False) w w' := by
  have Hb := Lib.hid hb
  clear hb
  go_enter Tryz.func55, Tryz.ntmps55
  go_wp2_with (at_builtin; refine step_appendB' _ rfl (.const (.slice none 0 0)) (.tmp 3) rfl w.heap.size (.slice none 0 0) [] rfl (OwnB.none _ _) p l l.length cap rfl rfl Hb.out (by simp; omega) (Nat.le_refl _) ?_; intro v w1 ho hg hn; rw [List.nil_append] at ho; have Ho := Lib.hid ho; have Ht1 : Hid (Touch (fun _ => False) w w1) := Lib.hid ((Touch.of_grown hg).mono (fun k _ e => by simp [Value.ownBlock] at e)); have hs1 := Ht1.out.size; clear ho hg hn; obtain ⟨p2, n2, c2, rfl⟩ : ∃ p n c, v = .slice p n c := (by obtain ⟨p, c, h, _⟩ := Ho.out.slice; exact ⟨p, _, c, h⟩))
  go_ret
  obtain ⟨p', c', e, k1, k2, k3⟩ := Ho.out.slice
  simp only [Value.slice.injEq] at e
  obtain ⟨rfl, rfl, rfl⟩ := e
  rcases Ho.out.2 with ⟨e, h0⟩ | ⟨g, cap', cur, e, h1, h2, h3, h4, _⟩
  · simp only [Value.slice.injEq] at e
    obtain ⟨rfl, -, rfl⟩ := e
    have hl0 : l = [] := List.eq_nil_of_length_eq_zero h0
    subst hl0
    exact ⟨_, w.heap.size, rfl, ⟨none, 0, Blk.new _ _ _, Nat.le_refl _, by simp [maxLen], BytesIn.nil _ _, (by simp), fun h => absurd rfl h, fun _ => rfl⟩, hs1, Nat.le_refl _, Ht1.out.alloc _⟩
  · simp only [Value.slice.injEq] at e
    obtain ⟨rfl, -, rfl⟩ := e
    have hgl : g < w1.heap.size := (Ho.out.lt g rfl).2
    exact ⟨_, g, rfl, ⟨some ⟨g, 0, none⟩, c2, Blk.new _ _ _, k1, k2, k3.alloc _, (by simp), fun _ => by omega, (by simp)⟩, hs1, h1, Ht1.out.alloc _⟩

theorem refSDone_any (xb g : Nat) (L : List UInt8) (no : Bool) (w : World) (h : RefS w xb g L no) :
    Calls Tryz.prog 58 #[.pointer (some ⟨xb, 0, none⟩)] w fun e w' => e = .returned (.bool (!no && L.isEmpty)) ∧ w = w' := by
  obtain ⟨p, c, hb, _⟩ := h
  have hc := hb.cell
  clear hb
  generalize hm : L.isEmpty = em
  have he : ((L.length : Int) == 0) = em := by rw [← hm]; cases L <;> simp; omega
  have He := Lib.hid he
  clear hm he
  cases no
  · go_enter Tryz.func58, Tryz.ntmps58
    go_wp2
    go_ret
    refine ⟨ret_bool ?_, rfl⟩
    have := He.out
    simpa using this
  · go_enter Tryz.func58, Tryz.ntmps58
    go_wp2
    go_ret
    exact ⟨rfl, rfl⟩

end Go.Proofs.YtacnmdlefonjmaaGreat

/-
  The contracts of remudaref03 (layer 3): Num, Take.
-/
namespace Go.Proofs.YtacnmdlefonjmaaGreat
open Go.RowKit

theorem refSNum_no (xb g : Nat) (L : List UInt8) (no : Bool) (n : Int) (w : World) (h : RefS w xb g L no) (hn : no = true ∨ sizedB n = false ∨ (L.length : Int) < n) :
    Calls Tryz.prog 56 #[.pointer (some ⟨xb, 0, none⟩), .int .i64 n] w fun e w' =>
      e = .returned (.int .i64 0) ∧ RefS w' xb g L true ∧ Touch (fun i => i = xb) w w' := by
  obtain ⟨p, c, hb, h1, h2, h3, h4, h5, h6⟩ := h
  have hc := hb.cell
  have hf := hb.frozen 1
  have Hin := Lib.hid h3
  have hT : Touch (fun i => i = xb) w (w.setCell ⟨xb, 1, none⟩ (.bool true)) := (Touch.refl (fun i => i = xb) w).setCell (x := ⟨xb, 1, none⟩) (fun _ => rfl) _
  have Hend : Hid (RefS (w.setCell ⟨xb, 1, none⟩ (.bool true)) xb g L true ∧ Touch (fun i => i = xb) w (w.setCell ⟨xb, 1, none⟩ (.bool true))) := Lib.hid ⟨⟨p, c, by have := hb.set_ 1 (.bool true); simpa using this, h1, h2, hT.bytesIn h3 (fun hne x hx e => h5 hne (by rw [← h4 x hx]; exact e)), h4, h5, h6⟩, hT⟩
  have hgetv : getV L 0 n = (0, 1) ∨ getV L 0 n = (0, 3) ∨ no = true := by
    rcases hn with e | e | e
    · exact .inr (.inr e)
    · exact .inl (getV_arg (.inl e))
    · by_cases hs : sizedB n = true
      · exact .inr (.inl (getV_short hs (by omega) (by omega)))
      · exact .inl (getV_arg (.inl (by simpa using hs)))
  have Hg := Lib.hid (fun w => getR_any p L c 0 n w h1 h2)
  clear hb h3 h4 h5 h6 hT hn
  cases no
  · have hv : ∃ r : Int, (r = 1 ∨ r = 3) ∧ getV L 0 n = (0, r) := by
      rcases hgetv with e | e | e
      · exact ⟨1, .inl rfl, e⟩
      · exact ⟨3, .inr rfl, e⟩
      · cases e
    obtain ⟨r, hr, hv⟩ := hv
    have Hv := Lib.hid hv
    clear hgetv hv
    have hr0 : (r == 0) = false := by simp; omega
    go_enter Tryz.func56, Tryz.ntmps56
    go_wp2_with (first | (go_at_call 53; refine (Hg.out _ Hin.out).mono ?_; rintro e w1 ⟨rfl, rfl⟩; rw [Hv.out]))
    go_ret
    exact ⟨rfl, Hend.out⟩
  · clear hgetv
    go_enter Tryz.func56, Tryz.ntmps56
    go_wp2_with (first | (go_at_call 53; refine (Hg.out _ Hin.out).mono ?_; rintro e w1 ⟨rfl, rfl⟩; generalize (getV L 0 n).1 = r1; generalize (getV L 0 n).2 = r2))
    go_ret
    exact ⟨rfl, Hend.out⟩

/-- The rest of the slice, as it is stored. -/
theorem refS_cut {w : World} {xb g : Nat} {L : List UInt8} (h : RefS w xb g L false) (n : Nat) (hn : n ≤ L.length) :
    ∃ p c, (∀ i, w.cell? ⟨xb, i, none⟩ = (#[.slice p L.length c, .bool false] : Array Value)[i]?) ∧ w.frozen? ⟨xb, 0, none⟩ = false ∧ L.length ≤ c ∧ c ≤ maxLen ∧ BytesIn w p L ∧ (∀ x, p = some x → x.block = g) ∧ (L ≠ [] → g ≠ xb) ∧
      ((n = c ∧ RefS (w.setCell ⟨xb, 0, none⟩ (.slice p 0 0)) xb g (L.drop n) false ∧ Touch (fun i => i = xb) w (w.setCell ⟨xb, 0, none⟩ (.slice p 0 0))) ∨
       (¬ n = c ∧ ∃ a, p = some a ∧ RefS (w.setCell ⟨xb, 0, none⟩ (.slice (some (a.add n)) (L.length - n) (c - n))) xb g (L.drop n) false ∧ Touch (fun i => i = xb) w (w.setCell ⟨xb, 0, none⟩ (.slice (some (a.add n)) (L.length - n) (c - n))))) := by
  obtain ⟨p, c, hb, h1, h2, h3, h4, h5, h6⟩ := h
  have hT : ∀ u, Touch (fun i => i = xb) w (w.setCell ⟨xb, 0, none⟩ u) := fun u => (Touch.refl (fun i => i = xb) w).setCell (x := ⟨xb, 0, none⟩) (fun _ => rfl) u
  have hB : ∀ u, Blk (w.setCell ⟨xb, 0, none⟩ u) xb 126 #[u, .bool false] := fun u => by
    have := hb.set_ 0 u
    simpa using this
  refine ⟨p, c, hb.cell, hb.frozen 0, h1, h2, h3, h4, h5, ?_⟩
  by_cases hc : n = c
  · refine .inl ⟨hc, ?_, hT _⟩
    have hd : L.drop n = [] := List.eq_nil_of_length_eq_zero (by rw [List.length_drop]; omega)
    rw [hd]
    exact ⟨p, 0, hB _, Nat.le_refl _, by simp [maxLen], BytesIn.nil _ _, h4, fun h => absurd rfl h, fun _ => rfl⟩
  · refine .inr ⟨hc, ?_⟩
    cases p with
    | none => exact absurd (h6 rfl) (by omega)
    | some a =>
      refine ⟨a, rfl, ?_, hT _⟩
      obtain ⟨_, m2, m3⟩ := scan_moved n (hT (.slice (some (a.add n)) (L.length - n) (c - n))) h3 h4 h5
      have hl : (L.drop n).length = L.length - n := List.length_drop
      exact ⟨some (a.add n), c - n, by rw [hl]; exact hB _, by rw [hl]; omega, by omega, m2, m3, fun h => h5 (fun e => h (by rw [e]; exact List.drop_nil)), (by simp)⟩

theorem refSNum_yes (xb g : Nat) (L : List UInt8) (n : Nat) (w : World) (h : RefS w xb g L false) (hs : sizedB n = true) (hn : n ≤ L.length) :
    Calls Tryz.prog 56 #[.pointer (some ⟨xb, 0, none⟩), .int .i64 (n : Int)] w fun e w' =>
      e = .returned (.int .i64 (be (L.take n))) ∧ RefS w' xb g (L.drop n) false ∧ Touch (fun i => i = xb) w w' := by
  obtain ⟨p, c, hc, hf, h1, h2, hin, _, _, hend⟩ := refS_cut h n hn
  have hsz := sizedB_cases hs
  have hv : getV L 0 n = (be (L.take n), 0) := by
    rw [getV_yes hs (by omega) (by omega)]
    simp
  have Hg := Lib.hid (getR_any p L c 0 n w h1 h2 hin)
  have Hv := Lib.hid hv
  have h2' := h2
  unfold maxLen at h2'
  generalize be (L.take n) = r at Hv
  clear h hs hsz hv hin
  rcases hend with ⟨e, hr, ht⟩ | ⟨hne, a, rfl, hr, ht⟩
  · subst e
    have Hr := Lib.hid hr
    have Ht := Lib.hid ht
    clear hr ht
    go_enter Tryz.func56, Tryz.ntmps56
    go_wp2_with (first | (go_at_call 53; refine Hg.out.mono ?_; rintro e w1 ⟨rfl, rfl⟩; rw [Hv.out]))
    go_ret
    exact ⟨rfl, Hr.out, Ht.out⟩
  · have Hr := Lib.hid hr
    have Ht := Lib.hid ht
    have hne2 : ¬ c = n := fun e => hne e.symm
    clear hr ht hne
    go_enter Tryz.func56, Tryz.ntmps56
    go_wp2_with (first | (go_at_call 53; refine Hg.out.mono ?_; rintro e w1 ⟨rfl, rfl⟩; rw [Hv.out]))
    go_ret
    exact ⟨rfl, Hr.out, Ht.out⟩

/-- The document's scan, its slice named. -/
def RefC (w : World) (xb g : Nat) (L : List UInt8) (no : Bool) (p : Option Addr) (c : Nat) : Prop :=
  Blk w xb 126 #[.slice p L.length c, .bool no] ∧ L.length ≤ c ∧ c ≤ maxLen ∧ BytesIn w p L ∧ (∀ x, p = some x → x.block = g) ∧ (L ≠ [] → g ≠ xb) ∧ (p = none → c = 0)

theorem RefC.touch {w w' : World} {xb g : Nat} {L : List UInt8} {no : Bool} {q : Option Addr} {c : Nat} {p : Nat → Prop} (h : RefC w xb g L no q c) (ht : Touch p w w') (h1 : ¬ p xb) (h2 : L ≠ [] → ¬ p g) : RefC w' xb g L no q c := by
  obtain ⟨hb, h3, h4, h5, h6, h7, h8⟩ := h
  exact ⟨ht.blk hb h1, h3, h4, ht.bytesIn h5 (fun hne x hx => by rw [h6 x hx]; exact h2 hne), h6, h7, h8⟩

theorem RefC.cut_eq {w : World} {xb g : Nat} {L : List UInt8} {p : Option Addr} {n : Nat} (h : RefC w xb g L false p n) :
    RefS (w.setCell ⟨xb, 0, none⟩ (.slice p 0 0)) xb g (L.drop n) false ∧ Touch (fun i => i = xb) w (w.setCell ⟨xb, 0, none⟩ (.slice p 0 0)) := by
  obtain ⟨hb, h1, h2, h3, h4, h5, h6⟩ := h
  have hd : L.drop n = [] := List.eq_nil_of_length_eq_zero (by rw [List.length_drop]; omega)
  have hB : Blk (w.setCell ⟨xb, 0, none⟩ (.slice p 0 0)) xb 126 #[.slice p 0 0, .bool false] := by
    have := hb.set_ 0 (.slice p 0 0)
    simpa using this
  rw [hd]
  exact ⟨⟨p, 0, hB, Nat.le_refl _, by simp [maxLen], BytesIn.nil _ _, h4, fun h => absurd rfl h, fun _ => rfl⟩, (Touch.refl (fun i => i = xb) w).setCell (x := ⟨xb, 0, none⟩) (fun _ => rfl) _⟩

theorem RefC.cut_ne {w : World} {xb g : Nat} {L : List UInt8} {a : Addr} {c : Nat} (h : RefC w xb g L false (some a) c) (n : Nat) (hn : n ≤ L.length) :
    RefS (w.setCell ⟨xb, 0, none⟩ (.slice (some (a.add n)) (L.length - n) (c - n))) xb g (L.drop n) false ∧ Touch (fun i => i = xb) w (w.setCell ⟨xb, 0, none⟩ (.slice (some (a.add n)) (L.length - n) (c - n))) := by
  obtain ⟨hb, h1, h2, h3, h4, h5, h6⟩ := h
  have hT : Touch (fun i => i = xb) w (w.setCell ⟨xb, 0, none⟩ (.slice (some (a.add n)) (L.length - n) (c - n))) := (Touch.refl (fun i => i = xb) w).setCell (x := ⟨xb, 0, none⟩) (fun _ => rfl) _
  have hB : Blk (w.setCell ⟨xb, 0, none⟩ (.slice (some (a.add n)) (L.length - n) (c - n))) xb 126 #[.slice (some (a.add n)) (L.length - n) (c - n), .bool false] := by
    have := hb.set_ 0 (.slice (some (a.add n)) (L.length - n) (c - n))
    simpa using this
  obtain ⟨_, m2, m3⟩ := scan_moved n hT h3 h4 h5
  have hl : (L.drop n).length = L.length - n := List.length_drop
  exact ⟨⟨some (a.add n), c - n, by rw [hl]; exact hB, by rw [hl]; omega, by omega, m2, m3, fun h => h5 (fun e => h (by rw [e]; exact List.drop_nil)), (by simp)⟩, hT⟩
end Go.Proofs.YtacnmdlefonjmaaGreat

