/-
  Ground: NumC, NumD, NumBack, FoA, IdxI, IdxC, IdxS, IndexBytes, FoC, BaA, BytesClone.
-/
import Derived.Test.YthhebfknikfleaaGreatPbDP1
import Derived.Test.YthhebfknikfleaaGreatPbDP0
import Derived.Laws.StructEq
import Derived.BigQuiet
import Derived.WalkMore
import Derived.Deep.QuietTactic
import Derived.Deep.RegionLaw
import Derived.Deep.RegionWith
import Derived.Deep.RegionHeld3
import Derived.Deep.DeepCutAuto
import Derived.Deep.CutBlock
import Derived.Lib.SlBytesConst
import Derived.Lib.BytesEntry
/-
  The contracts of num.Get and remudaref01.Get: the number that some bytes are.
-/
namespace Go.Proofs.YthhebfknikfleaaGreat
open Go.RowKit

/-- The number of some bytes, and the error's number. -/
def getV (l : List UInt8) (at' size : Int) : Int × Int :=
  if sizedB size = false ∨ at' < 0 then (0, 1)
  else if (l.length : Int) - size < at' then (0, 3)
  else (be ((l.drop at'.toNat).take size.toNat), 0)

theorem getV_arg {l : List UInt8} {at' size : Int} (h : sizedB size = false ∨ at' < 0) : getV l at' size = (0, 1) := by
  unfold getV; rw [if_pos h]
theorem getV_short {l : List UInt8} {at' size : Int} (h1 : sizedB size = true) (h2 : ¬ at' < 0) (h : (l.length : Int) - size < at') : getV l at' size = (0, 3) := by
  unfold getV; rw [if_neg (by simp [h1, h2]), if_pos h]
theorem getV_yes {l : List UInt8} {at' size : Int} (h1 : sizedB size = true) (h2 : ¬ at' < 0) (h : ¬ (l.length : Int) - size < at') :
    getV l at' size = (be ((l.drop at'.toNat).take size.toNat), 0) := by
  unfold getV; rw [if_neg (by simp [h1, h2]), if_neg h]

theorem pow_le4 (k n : Nat) (h : k ≤ n) (hn : n ≤ 4) : (256 : Int) ^ k ≤ 4294967296 := by
  have : k = 0 ∨ k = 1 ∨ k = 2 ∨ k = 3 ∨ k = 4 := by omega
  rcases this with rfl | rfl | rfl | rfl | rfl <;> decide

theorem be_le4 (l : List UInt8) (k : Nat) (h : k ≤ 4) : 0 ≤ be (l.take k) ∧ be (l.take k) < 4294967296 := by
  have h1 := be_bd (l.take k)
  have h2 := pow_le4 (l.take k).length 4 (by rw [List.length_take]; omega) (by omega)
  omega

set_option maxHeartbeats 400000 in
theorem getR_any (p : Option Addr) (l : List UInt8) (cap : Nat) (at' size : Int) (w : World) (hl : l.length ≤ cap) (hc : cap ≤ maxLen) (hb : BytesIn w p l) :
    Calls Tryz.prog 144 #[.slice p l.length cap, .int .i64 at', .int .i64 size] w fun e w' =>
      e = .returned (.tuple #[.int .i64 (getV l at' size).1, .int .i64 (getV l at' size).2]) ∧ w = w' := by
  unfold maxLen at hc
  by_cases h0 : sizedB size = false ∨ at' < 0
  · rw [getV_arg h0]
    by_cases hs : sizedB size = true
    · have hlt : at' < 0 := by simpa [hs] using h0
      have Hs := Lib.hid hs
      clear hs h0
      go_enter Tryz.func144, Tryz.ntmps144
      go_wp2_with (first | (go_at_call 132; refine (sizedR_any _ _).mono ?_; rintro e w' ⟨rfl, rfl⟩; rw [Hs.out]))
      go_ret2
      exact ⟨rfl, rfl⟩
    · have Hs := Lib.hid (show sizedB size = false by simpa using hs)
      clear hs h0
      go_enter Tryz.func144, Tryz.ntmps144
      go_wp2_with (first | (go_at_call 132; refine (sizedR_any _ _).mono ?_; rintro e w' ⟨rfl, rfl⟩; rw [Hs.out]))
      go_ret2
      exact ⟨rfl, rfl⟩
  · have hs : sizedB size = true := by cases h : sizedB size <;> simp_all
    have ha : ¬ at' < 0 := fun h => h0 (.inr h)
    have hsz := sizedB_cases hs
    clear h0
    by_cases hsh : (l.length : Int) - size < at'
    · rw [getV_short hs ha hsh]
      have Hs := Lib.hid hs
      clear hs
      go_enter Tryz.func144, Tryz.ntmps144
      go_wp2_with (first | (go_at_call 132; refine (sizedR_any _ _).mono ?_; rintro e w' ⟨rfl, rfl⟩; rw [Hs.out]))
      go_ret2
      exact ⟨rfl, rfl⟩
    · rw [getV_yes hs ha hsh]
      obtain ⟨b, o, rfl⟩ := hb.addr (by omega)
      obtain ⟨a, rfl⟩ := Int.eq_ofNat_of_zero_le (show 0 ≤ at' by omega)
      obtain ⟨z, rfl⟩ := Int.eq_ofNat_of_zero_le (show 0 ≤ size by omega)
      rw [Int.toNat_natCast, Int.toNat_natCast]
      have hz4 : z ≤ 4 := by omega
      have hz1 : 1 ≤ z := by omega
      have hfit : a + z ≤ l.length := by omega
      have Hs := Lib.hid hs
      have Hb := Lib.hid hb
      clear hs hb hsz hsh ha
      go_enter Tryz.func144, Tryz.ntmps144
      go_wp2_with (first | (go_at_call 132; refine (sizedR_any _ _).mono ?_; rintro e w' ⟨rfl, rfl⟩; rw [Hs.out]))
      go_loop [8, 9] (fun n i => ∃ k : Nat, k ≤ z ∧ i = .int .i64 k ∧ n = .int .i64 (be ((l.drop a).take k))) (fun _ i => z - (intOf i).toNat)
      case atStart => exact ⟨0, Nat.zero_le _, rfl, rfl⟩
      case round =>
        obtain ⟨k, hk, rfl, rfl⟩ := hrel
        have hbd := be_le4 (l.drop a) k (by omega)
        by_cases hlt : k < z
        · have hcell := Hb.out.cellAt (a + k) (by omega)
          have hu := u8_bd (l.getD (a + k) 0)
          have hbe := be_take_succ (l.drop a) k (by rw [List.length_drop]; omega)
          rw [show (l.drop a).getD k 0 = l.getD (a + k) 0 from by simp [List.getD]] at hbe
          have Hbe := Lib.hid hbe
          clear hbe
          generalize l.getD (a + k) 0 = c at hcell hu Hbe
          generalize be ((l.drop a).take k) = n at hbd Hbe
          go_wp2
          go_round
          case rel => exact ⟨k + 1, by omega, by go_num, by rw [Hbe.out]⟩
          case measure => simp [intOf]; omega
        · go_wp2
          go_ret2
          obtain rfl : k = z := by omega
          exact ⟨rfl, rfl⟩

set_option maxHeartbeats 400000 in
theorem get_any (p : Option Addr) (l : List UInt8) (cap : Nat) (at' size : Int) (w : World) (hl : l.length ≤ cap) (hc : cap ≤ maxLen) (hb : BytesIn w p l) :
    Calls Tryz.prog 140 #[.slice p l.length cap, .int .i64 at', .int .i64 size] w fun e w' =>
      e = .returned (.tuple #[.int .i64 (getV l at' size).1, .int .i64 (getV l at' size).2]) ∧ w = w' := by
  unfold maxLen at hc
  by_cases h0 : sizedB size = false ∨ at' < 0
  · rw [getV_arg h0]
    by_cases hs : sizedB size = true
    · have hlt : at' < 0 := by simpa [hs] using h0
      have Hs := Lib.hid hs
      clear hs h0
      go_enter Tryz.func140, Tryz.ntmps140
      go_wp2_with (first | (go_at_call 151; refine (sized_any _ _).mono ?_; rintro e w' ⟨rfl, rfl⟩; rw [Hs.out]))
      go_ret2
      exact ⟨rfl, rfl⟩
    · have Hs := Lib.hid (show sizedB size = false by simpa using hs)
      clear hs h0
      go_enter Tryz.func140, Tryz.ntmps140
      go_wp2_with (first | (go_at_call 151; refine (sized_any _ _).mono ?_; rintro e w' ⟨rfl, rfl⟩; rw [Hs.out]))
      go_ret2
      exact ⟨rfl, rfl⟩
  · have hs : sizedB size = true := by cases h : sizedB size <;> simp_all
    have ha : ¬ at' < 0 := fun h => h0 (.inr h)
    have hsz := sizedB_cases hs
    clear h0
    by_cases hsh : (l.length : Int) - size < at'
    · rw [getV_short hs ha hsh]
      have Hs := Lib.hid hs
      clear hs
      by_cases hsl : (l.length : Int) < size
      all_goals
        go_enter Tryz.func140, Tryz.ntmps140
        go_wp2_with (first | (go_at_call 151; refine (sized_any _ _).mono ?_; rintro e w' ⟨rfl, rfl⟩; rw [Hs.out]))
        go_ret2
        exact ⟨rfl, rfl⟩
    · rw [getV_yes hs ha hsh]
      obtain ⟨b, o, rfl⟩ := hb.addr (by omega)
      obtain ⟨a, rfl⟩ := Int.eq_ofNat_of_zero_le (show 0 ≤ at' by omega)
      obtain ⟨z, rfl⟩ := Int.eq_ofNat_of_zero_le (show 0 ≤ size by omega)
      rw [Int.toNat_natCast, Int.toNat_natCast]
      have hz4 : z ≤ 4 := by omega
      have hz1 : 1 ≤ z := by omega
      have hfit : a + z ≤ l.length := by omega
      have hnc : ¬ cap = a := by omega
      have Hs := Lib.hid hs
      have Hb := Lib.hid hb
      clear hs hb hsz hsh ha
      go_enter Tryz.func140, Tryz.ntmps140
      go_wp2_with (first | (go_at_call 151; refine (sized_any _ _).mono ?_; rintro e w' ⟨rfl, rfl⟩; rw [Hs.out]))
      go_loop [8, 35] (fun n i => ∃ k : Nat, k ≤ z ∧ i = .int .i64 k ∧ n = .int .i64 (be ((l.drop a).take k))) (fun _ i => z - (intOf i).toNat)
      case atStart => exact ⟨0, Nat.zero_le _, rfl, rfl⟩
      case round =>
        obtain ⟨k, hk, rfl, rfl⟩ := hrel
        have hbd := be_le4 (l.drop a) k (by omega)
        by_cases hlt : k < z
        · have hcell := Hb.out.cellAt (a + k) (by omega)
          rw [← Nat.add_assoc] at hcell
          have hu := u8_bd (l.getD (a + k) 0)
          have hbe := be_take_succ (l.drop a) k (by rw [List.length_drop]; omega)
          rw [show (l.drop a).getD k 0 = l.getD (a + k) 0 from by simp [List.getD]] at hbe
          have Hbe := Lib.hid hbe
          clear hbe
          generalize l.getD (a + k) 0 = c at hcell hu Hbe
          generalize be ((l.drop a).take k) = n at hbd Hbe
          go_wp2
          go_round
          case rel => exact ⟨k + 1, by omega, by go_num, by rw [Hbe.out, or_byte n _ hbd.1 hbd.2 hu.1 hu.2]⟩
          case measure => simp [intOf]; omega
        · go_wp2
          go_ret2
          obtain rfl : k = z := by omega
          exact ⟨rfl, rfl⟩

end Go.Proofs.YthhebfknikfleaaGreat

/-
  The contract of num.Put: bytes with a number behind them.
-/
namespace Go.Proofs.YthhebfknikfleaaGreat
open Go.RowKit

/-- The byte at place j of a number of z bytes. -/
def putAt (n : Int) (z j : Nat) : UInt8 := UInt8.ofNat ((n % 4294967296).toNat / 256 ^ (z - 1 - j))
def putB (n : Int) (z j : Nat) : List UInt8 := (List.range j).map (putAt n z)
/-- Bytes with a number behind them. -/
def putV (l : List UInt8) (n size : Int) : List UInt8 := l ++ if rightB n size = true then putB n size.toNat size.toNat else []

theorem putB_succ (n : Int) (z j : Nat) : putB n z (j + 1) = putB n z j ++ [putAt n z j] := by
  simp [putB, List.range_succ]
theorem putB_length (n : Int) (z j : Nat) : (putB n z j).length = j := by simp [putB]

theorem putAt_shr (n : Int) (z j : Nat) (hz : z = 1 ∨ z = 2 ∨ z = 4) (hj : j < z) : ((putAt n z j).toNat : Int) = n / 2 ^ (8 * (z - 1 - j)) % 256 := by
  have : (z = 1 ∧ j = 0) ∨ (z = 2 ∧ j = 0) ∨ (z = 2 ∧ j = 1) ∨ (z = 4 ∧ j = 0) ∨ (z = 4 ∧ j = 1) ∨ (z = 4 ∧ j = 2) ∨ (z = 4 ∧ j = 3) := by omega
  rcases this with ⟨rfl, rfl⟩ | ⟨rfl, rfl⟩ | ⟨rfl, rfl⟩ | ⟨rfl, rfl⟩ | ⟨rfl, rfl⟩ | ⟨rfl, rfl⟩ | ⟨rfl, rfl⟩ <;> simp [putAt] <;> omega

set_option maxHeartbeats 1000000 in
theorem put_any (p : Option Addr) (l : List UInt8) (cap : Nat) (n size : Int) (w : World) (hl : l.length ≤ 1000000000) (hb : BytesIn w p l) :
    Calls Tryz.prog 98 #[.slice p l.length cap, .int .i64 n, .int .i64 size] w fun e w' =>
      ∃ v, e = .returned v ∧ OwnB w.heap.size w' v (putV l n size) ∧ Below w.heap.size w w' := by
  by_cases hr : rightB n size = true
  · have hs : sizedB size = true := by unfold rightB at hr; simp at hr; exact hr.1
    have hsz := sizedB_cases hs
    obtain ⟨z, rfl⟩ := Int.eq_ofNat_of_zero_le (show 0 ≤ size by omega)
    have hz : z = 1 ∨ z = 2 ∨ z = 4 := by omega
    have hV : putV l n z = l ++ putB n z z := by unfold putV; rw [if_pos hr]; rfl
    have HV := Lib.hid hV
    have Hr := Lib.hid hr
    have Hb := Lib.hid hb
    have hz1 : 1 ≤ z := by omega
    have hz4 : z ≤ 4 := by omega
    have Hz := Lib.hid hz
    clear hb hr hs hsz hV hz
    go_enter Tryz.func98, Tryz.ntmps98
    go_wp2_with (first | (at_builtin; refine step_appendB _ rfl _ _ rfl w.heap.size _ [] rfl (OwnB.empty (Nat.le_refl _)) _ l _ rfl (Hb.out.alloc _) (by simp; omega) (by simp) ?_; intro v1 w1 hown1 hb1 _) | (go_at_call 131; refine (right_any _ _ _).mono ?_; rintro e w' ⟨rfl, rfl⟩; rw [Hr.out]))
    have hbel : Below w.heap.size w w1 := ((Below.refl _ _).alloc (Nat.le_refl _) _).trans hb1
    go_loopw [7, 8] (fun v s wr => ∃ j : Nat, j ≤ z ∧ s = .int .i64 (8 * ((z : Int) - 1 - j)) ∧ OwnB w.heap.size wr v (l ++ putB n z j) ∧ Below w.heap.size w wr) (fun _ s _ => (intOf s + 8).toNat)
    case atStart => exact ⟨0, Nat.zero_le _, by congr 1; omega, by simpa [putB] using hown1, hbel⟩
    case round =>
      obtain ⟨j, hj, rfl, hown, hbw⟩ := hrel
      have Hown := Lib.hid hown
      have Hbw := Lib.hid hbw
      have hbsz := hbw.size
      clear hown hbw hb1 hbel hown1
      by_cases hlt : j < z
      · go_wp2_with (first | (at_builtin; refine step_appendB _ rfl _ _ rfl w.heap.size _ _ rfl (Hown.out.alloc _) _ [putAt n z j] 1 rfl (BytesIn.new1 _ _ _ _ (putAt_shr n z j Hz.out hlt)) (by simp [putB_length]; omega) (by simp; omega) ?_; intro v2 w2 hown2 hb2 _))
        have hbel2 := (Hbw.out.alloc hbsz _).trans hb2
        rw [List.append_assoc, ← putB_succ] at hown2
        go_roundw
        case rel => exact ⟨j + 1, by omega, by congr 1; omega, hown2, hbel2⟩
        case measure => simp [intOf]; omega
      · go_wp2
        go_ret
        obtain rfl : j = z := by omega
        refine ⟨_, rfl, ?_, Hbw.out⟩
        rw [HV.out]; exact Hown.out
  · have hV : putV l n size = l := by unfold putV; rw [if_neg hr]; simp
    have hr' : rightB n size = false := by simpa using hr
    have HV := Lib.hid hV
    have Hr := Lib.hid hr'
    have Hb := Lib.hid hb
    clear hb hr hr' hV
    go_enter Tryz.func98, Tryz.ntmps98
    go_wp2_with (first | (at_builtin; refine step_appendB _ rfl _ _ rfl w.heap.size _ [] rfl (OwnB.empty (Nat.le_refl _)) _ l _ rfl (Hb.out.alloc _) (by simp; omega) (by simp) ?_; intro v1 w1 hown1 hb1 _) | (go_at_call 131; refine (right_any _ _ _).mono ?_; rintro e w' ⟨rfl, rfl⟩; rw [Hr.out]))
    go_ret
    refine ⟨_, rfl, ?_, ((Below.refl _ _).alloc (Nat.le_refl _) _).trans hb1⟩
    rw [HV.out]; simpa using hown1

end Go.Proofs.YthhebfknikfleaaGreat

/-
  Plain laws: a number that was put is got.
-/
namespace Go.Proofs.YthhebfknikfleaaGreat
open Go.RowKit

theorem be_putB' (n : Int) (z : Nat) (hz : z = 1 ∨ z = 2 ∨ z = 4) : be (putB n z z) = n % 2 ^ (8 * z) := by
  rcases hz with rfl | rfl | rfl
  · have h0 := putAt_shr n 1 0 (by omega) (by omega)
    simp [putB, be, List.range_succ] at *
    omega
  · have h0 := putAt_shr n 2 0 (by omega) (by omega)
    have h1 := putAt_shr n 2 1 (by omega) (by omega)
    simp [putB, be, List.range_succ] at *
    omega
  · have h0 := putAt_shr n 4 0 (by omega) (by omega)
    have h1 := putAt_shr n 4 1 (by omega) (by omega)
    have h2 := putAt_shr n 4 2 (by omega) (by omega)
    have h3 := putAt_shr n 4 3 (by omega) (by omega)
    simp [putB, be, List.range_succ] at *
    omega

theorem putV_right {l : List UInt8} {n : Int} {z : Nat} (h : rightB n z = true) : putV l n z = l ++ putB n z z := by
  unfold putV
  rw [if_pos h]
  rfl

theorem putV_len4 (l : List UInt8) (n size : Int) : (putV l n size).length ≤ l.length + 4 := by
  unfold putV
  split
  · rename_i h
    have hs : sizedB size = true := by unfold rightB at h; simp at h; exact h.1
    rw [List.length_append, putB_length]
    rcases sizedB_cases hs with rfl | rfl | rfl <;> simp
  · simp

theorem rightB_4 {n : Int} (h0 : 0 ≤ n) (h1 : n < 4294967296) : rightB n (4 : Nat) = true := by
  simp [rightB, sizedB]
  omega
theorem rightB_2 {n : Int} (h0 : 0 ≤ n) (h1 : n < 65536) : rightB n (2 : Nat) = true := by
  simp [rightB, sizedB]
  omega

theorem be_put4 {n : Int} (h0 : 0 ≤ n) (h1 : n < 4294967296) : be (putB n 4 4) = n := by
  rw [be_putB' n 4 (by omega)]
  omega
theorem be_put2 {n : Int} (h0 : 0 ≤ n) (h1 : n < 65536) : be (putB n 2 2) = n := by
  rw [be_putB' n 2 (by omega)]
  omega

end Go.Proofs.YthhebfknikfleaaGreat

/-
  Messages of clients (layer 6): as values and in memory; what may be, as plain laws.
-/
namespace Go.Proofs.YthhebfknikfleaaGreat
open Go.RowKit
set_option linter.unusedVariables false
set_option linter.unusedSimpArgs false

structure CeV where
  null : Bool
  bytes : List UInt8
def CeS : Rd CeV := fun S w cs x => ∃ p c, cs = [.bool x.null, .slice p x.bytes.length c] ∧ BytesS S w [.slice p x.bytes.length c] x.bytes
theorem CeS.still : Still CeS := fun S S' w w' cs x ⟨p, c, e, h⟩ hk => ⟨p, c, e, BytesS.still _ _ _ _ _ _ h hk⟩
theorem CeS.one (S : Nat → Prop) (w : World) (cs : List Value) (x : CeV) (h : CeS S w cs x) : ∀ u ∈ cs, u.oneCell' = true := by
  obtain ⟨p, c, rfl, _⟩ := h
  intro u hu
  simp only [List.mem_cons, List.not_mem_nil, or_false] at hu
  rcases hu with rfl | rfl <;> rfl
/-- The cells of a value in a list. -/
theorem ce_at {S : Nat → Prop} {w : World} {p : Option Addr} {n c k : Nat} {xs : List CeV} (h : SliceS 2 CeS S w [.slice p n c] xs) (hk : k < xs.length) :
    ∃ b o q d, p = some ⟨b, o, none⟩ ∧ S b ∧ b < w.heap.size ∧ w.cell? ⟨b, o + k * 2, none⟩ = some (.bool xs[k].null) ∧ w.cell? ⟨b, o + k * 2 + 1, none⟩ = some (.slice q xs[k].bytes.length d) ∧ BytesS S w [.slice q xs[k].bytes.length d] xs[k].bytes := by
  obtain ⟨b, o, cs, rfl, hS, hb, _, hc, q, d, rfl, hq⟩ := h.elem (by omega) k xs[k] (List.getElem?_eq_getElem hk)
  have c0 := hc 0 _ rfl
  rw [Nat.add_zero] at c0
  exact ⟨b, o, q, d, rfl, hS, hb, c0, hc 1 _ rfl, hq⟩
theorem int_at {S : Nat → Prop} {w : World} {p : Option Addr} {n c k : Nat} {xs : List Int} (h : SliceS 1 IntU S w [.slice p n c] xs) (hk : k < xs.length) :
    ∃ b o, p = some ⟨b, o, none⟩ ∧ S b ∧ b < w.heap.size ∧ w.cell? ⟨b, o + k, none⟩ = some (.int .i64 xs[k]) := by
  obtain ⟨b, o, cs, rfl, hS, hb, _, hc, rfl⟩ := h.elem (by omega) k xs[k] (List.getElem?_eq_getElem hk)
  have c0 := hc 0 _ rfl
  rw [Nat.add_zero, Nat.mul_one] at c0
  exact ⟨b, o, rfl, hS, hb, c0⟩

structure FoV where
  kind : Int
  what : Int
  name : ByteArray
  portal : ByteArray
  text : ByteArray
  oids : List Int
  formats : List Int
  results : List Int
  params : List CeV
  max : Int
/-- Where the lists of a message lie. -/
structure FoP where
  po : Option Addr
  co : Nat
  pf : Option Addr
  cf : Nat
  pr : Option Addr
  cr : Nat
  pp : Option Addr
  cp : Nat
def foNil : FoP := ⟨none, 0, none, 0, none, 0, none, 0⟩
def foCells (f : FoV) (a : FoP) : Array Value := #[.int .u8 f.kind, .int .u8 f.what, .string f.name, .string f.portal, .string f.text, .slice a.po f.oids.length a.co, .slice a.pf f.formats.length a.cf, .slice a.pr f.results.length a.cr, .slice a.pp f.params.length a.cp, .int .i64 f.max]
def foArg (f : FoV) (a : FoP) : Value := .agg (foCells f a)
/-- The lists of a message are read. -/
structure FoL (S : Nat → Prop) (w : World) (f : FoV) (a : FoP) : Prop where
  lo : SliceS 1 IntU S w [.slice a.po f.oids.length a.co] f.oids
  lf : SliceS 1 IntU S w [.slice a.pf f.formats.length a.cf] f.formats
  lr : SliceS 1 IntU S w [.slice a.pr f.results.length a.cr] f.results
  lp : SliceS 2 CeS S w [.slice a.pp f.params.length a.cp] f.params
/-- Its bytes are bytes. -/
def FoB (f : FoV) : Prop := 0 ≤ f.kind ∧ f.kind < 256 ∧ 0 ≤ f.what ∧ f.what < 256
section
variable {S S' : Nat → Prop} {w w' : World} {f : FoV} {a : FoP}
theorem FoL.keep (h : FoL S w f a) (hk : Kept S S' w w') : FoL S' w' f a :=
  ⟨(SliceS.still IntU.still) _ _ _ _ _ _ h.lo hk, (SliceS.still IntU.still) _ _ _ _ _ _ h.lf hk, (SliceS.still IntU.still) _ _ _ _ _ _ h.lr hk, (SliceS.still CeS.still) _ _ _ _ _ _ h.lp hk⟩
theorem FoL.below (h : FoL S w f a) (hb : Below w.heap.size w w') : FoL S w' f a := h.keep (Kept.all hb)
theorem FoL.weak (h : FoL S w f a) (hS : ∀ k, k < w.heap.size → S k → S' k) : FoL S' w f a := h.keep (Kept.mono w hS)
theorem FoL.any (h : FoL S w f a) : FoL (fun _ => True) w f a := h.weak (fun _ _ _ => trivial)
theorem FoL.lens (h : FoL S w f a) : f.oids.length ≤ maxLen ∧ f.formats.length ≤ maxLen ∧ f.results.length ≤ maxLen ∧ f.params.length ≤ maxLen :=
  ⟨Nat.le_trans h.lo.len.2.1 h.lo.len.2.2, Nat.le_trans h.lf.len.2.1 h.lf.len.2.2, Nat.le_trans h.lr.len.2.1 h.lr.len.2.2, Nat.le_trans h.lp.len.2.1 h.lp.len.2.2⟩
end

/-- Whether a kind is served, known, or none. -/
def knownV (k : Int) : Int := if k ∈ [66, 67, 68, 69, 72, 80, 81, 83, 88] then 1 else if k ∈ [70, 99, 100, 102, 112] then 2 else 0
def outside (lo hi n : Int) : Bool := decide (n < lo) || decide (hi < n)
def between (l : List Int) (lo hi : Int) : Bool := decide (l.length ≤ 65535) && !l.any (outside lo hi)
def wrongC (c : CeV) : Bool := (c.null && decide (0 < c.bytes.length)) || decide (1048576 < c.bytes.length)
def valuesV (l : List CeV) : Bool := decide (l.length ≤ 65535) && !l.any wrongC
def intsEq (a b : Int) : Bool := a == b
theorem intsEq_self (a : Int) : intsEq a a = true := by simp [intsEq]
def ceEq (a b : CeV) : Bool := (a.null == b.null) && (a.bytes == b.bytes)
theorem ceEq_self (a : CeV) : ceEq a a = true := by simp [ceEq]
def headEq (a b : FoV) : Bool := (a.kind == b.kind) && ((a.what == b.what) && ((a.name.toList == b.name.toList) && ((a.portal.toList == b.portal.toList) && ((a.text.toList == b.text.toList) && (a.max == b.max)))))
def foEq (a b : FoV) : Bool := headEq a b && (listEq intsEq a.oids b.oids && (listEq intsEq a.formats b.formats && (listEq intsEq a.results b.results && listEq ceEq a.params b.params)))
theorem foEq_self (a : FoV) : foEq a a = true := by
  simp [foEq, headEq, listEq_self intsEq_self, listEq_self ceEq_self]
/-- A message with just the fields that its body has. -/
def keptV (f : FoV) : FoV :=
  if f.kind = 80 then ⟨f.kind, 0, f.name, ⟨#[]⟩, f.text, f.oids, [], [], [], 0⟩
  else if f.kind = 66 then ⟨f.kind, 0, f.name, f.portal, ⟨#[]⟩, [], f.formats, f.results, f.params, 0⟩
  else if f.kind = 67 ∨ f.kind = 68 then
    if f.what = 83 then ⟨f.kind, f.what, f.name, ⟨#[]⟩, ⟨#[]⟩, [], [], [], [], 0⟩
    else ⟨f.kind, f.what, ⟨#[]⟩, f.portal, ⟨#[]⟩, [], [], [], [], 0⟩
  else if f.kind = 69 then ⟨f.kind, 0, ⟨#[]⟩, f.portal, ⟨#[]⟩, [], [], [], [], f.max⟩
  else if f.kind = 81 then ⟨f.kind, 0, ⟨#[]⟩, ⟨#[]⟩, f.text, [], [], [], [], 0⟩
  else ⟨f.kind, 0, ⟨#[]⟩, ⟨#[]⟩, ⟨#[]⟩, [], [], [], [], 0⟩
def whatV (f : FoV) : Bool := if f.kind = 67 ∨ f.kind = 68 then (f.what == 83) || (f.what == 80) else f.what == 0
def listsV (f : FoV) : Bool := between f.oids 0 4294967295 && (between f.formats 0 65535 && (between f.results 0 65535 && valuesV f.params))
def textsV (f : FoV) : Bool := cleanB f.name && (cleanB f.portal && cleanB f.text)
def maxV (f : FoV) : Bool := decide (-2147483648 ≤ f.max) && decide (f.max < 2147483648)
/-- Whether a message of a served kind may be. -/
def okF (f : FoV) : Bool := whatV f && (listsV f && (textsV f && (maxV f && foEq f (keptV f))))
def checkF (f : FoV) : Int := if knownV f.kind = 1 then (if okF f = true then 0 else 1) else 9

/-- Bytes with a list behind them; with values behind them. -/
def listB (b : List UInt8) (l : List Int) (size : Nat) : List UInt8 := l.foldl (fun b n => putV b n size) (putV b l.length 2)
def cellB (b : List UInt8) (c : CeV) : List UInt8 := if c.null then putV b 4294967295 4 else putV b c.bytes.length 4 ++ c.bytes
def rowB (b : List UInt8) (l : List CeV) : List UInt8 := l.foldl cellB (putV b l.length 2)
def strB (b : List UInt8) (s : ByteArray) : List UInt8 := (b ++ s.data.toList) ++ [0]
/-- The body of a message that may be. -/
def bodyF (f : FoV) : List UInt8 :=
  if f.kind = 80 then listB (strB (strB [] f.name) f.text) f.oids 4
  else if f.kind = 66 then listB (rowB (listB (strB (strB [] f.portal) f.name) f.formats 2) f.params) f.results 2
  else if f.kind = 67 ∨ f.kind = 68 then strB [UInt8.ofNat f.what.toNat] (if f.what = 83 then f.name else f.portal)
  else if f.kind = 69 then putV (strB [] f.portal) f.max 4
  else if f.kind = 81 then strB [] f.text
  else []
/-- A message's type, body and error. -/
def encF (f : FoV) : Int × List UInt8 × Int := if checkF f = 0 then (f.kind, bodyF f, 0) else (0, [], checkF f)

end Go.Proofs.YthhebfknikfleaaGreat

/-
  slices.IndexFunc and ContainsFunc at ints, whatever the function handed in: its contract is a premise.
-/
namespace Go.Proofs.YthhebfknikfleaaGreat
open Go.RowKit
set_option linter.unusedVariables false
set_option linter.unusedSimpArgs false

set_option maxRecDepth 100000 in
set_option maxHeartbeats 4000000 in
theorem indexInt2 (K : FuncId) (u v : Value) (P : Int → Bool) (S : Nat → Prop) (p : Option Addr) (n c : Nat) (L : List Int) (w : World) (h : SliceS 1 IntU S w [.slice p n c] L)
    (hE : ∀ (args : Array Value) (w0 : World), (callFunc K args).run Tryz.prog w0 = .ok (.enter K args) w0) (hK : ∀ (x : Int) (w0 : World), Below w.heap.size w w0 →  Calls Tryz.prog K #[.int .i64 x, u, v] w0 fun e w' => e = .returned (.bool (P x)) ∧ Below w0.heap.size w0 w') :
    Calls Tryz.prog 137 #[.slice p n c, .func (.func K) #[] #[u, v]] w fun e w' => ∃ r, e = .returned (.int .i64 r) ∧ IdxG P L r ∧ Below w.heap.size w w' := by
  have H := Lib.hid h
  have HK := Lib.hid hK
  obtain ⟨rfl, hlc, hcm⟩ := h.len
  unfold maxLen at hcm
  clear h hK
  go_enter Tryz.func137, Tryz.ntmps137
  go_wp2_with fail
  go_loopw [5, 8] (fun _ i wr => ∃ k : Nat, k ≤ L.length ∧ i = .int .i64 k ∧ k ≤ aheadG P L ∧ Below w.heap.size w wr) (fun _ i _ => L.length - (intOf i).toNat)
  case atStart => exact ⟨0, Nat.zero_le _, rfl, Nat.zero_le _, Below.refl _ _⟩
  case round =>
    obtain ⟨k, hk, rfl, hka, hb⟩ := hrel
    have hsz := hb.size
    have Hb := Lib.hid hb
    have Hka := Lib.hid hka
    clear hka
    by_cases hlt : k < L.length
    · obtain ⟨b, o, rfl, hS, hbl, c0⟩ := int_at (H.out.below IntU.still hb) hlt
      have Hgo := Lib.hid (aheadG_go P L k hlt)
      have Hat := Lib.hid (aheadG_at P L k hlt)
      clear hb hS
      generalize L[k] = x at *
      have Hc := Lib.hid (HK.out x  wr Hb.out)
      have hlti : (k : Int) < (L.length : Int) := by omega
      go_wp2_with fail
      refine Hc.out.mono ?_
      rintro e w1 ⟨rfl, hb1⟩
      have Hb1 := Lib.hid (Hb.out.trans (hb1.mono hsz))
      clear hb1
      cases hP : P x with
      | false =>
        have Hn := Lib.hid (Hgo.out Hka.out hP)
        clear hP
        go_wp2_with fail
        go_roundw
        case rel => exact ⟨k + 1, by omega, by go_num, Hn.out, Hb1.out⟩
        case measure => simp [intOf]; omega
      | true =>
        have Hn := Lib.hid (Hat.out Hka.out hP)
        clear hP
        go_wp2_with fail
        go_ret
        exact ⟨_, rfl, .inl ⟨by rw [Hn.out], by rw [Hn.out]; exact hlt⟩, Hb1.out⟩
    · obtain rfl : k = L.length := by omega
      have Hn := Lib.hid (Nat.le_antisymm (aheadG_le P L) Hka.out)
      go_wp2
      go_ret
      exact ⟨_, rfl, .inr ⟨rfl, Hn.out⟩, Hb.out⟩

set_option maxRecDepth 100000 in
theorem containsInt2 (K : FuncId) (u v : Value) (P : Int → Bool) (S : Nat → Prop) (p : Option Addr) (n c : Nat) (L : List Int) (w : World) (h : SliceS 1 IntU S w [.slice p n c] L)
    (hE : ∀ (args : Array Value) (w0 : World), (callFunc K args).run Tryz.prog w0 = .ok (.enter K args) w0) (hK : ∀ (x : Int) (w0 : World), Below w.heap.size w w0 →  Calls Tryz.prog K #[.int .i64 x, u, v] w0 fun e w' => e = .returned (.bool (P x)) ∧ Below w0.heap.size w0 w') :
    Calls Tryz.prog 107 #[.slice p n c, .func (.func K) #[] #[u, v]] w fun e w' => e = .returned (.bool (L.any P)) ∧ Below w.heap.size w w' := by
  have H := Lib.hid (indexInt2 K u v P S p n c L w h hE hK)
  clear h hK
  go_enter Tryz.func107, Tryz.ntmps107
  go_wp2_with fail
  refine H.out.mono ?_
  rintro e w1 ⟨r, rfl, hr, hb⟩
  have Hr := Lib.hid hr.any
  have Hb := Lib.hid hb
  clear hb hr
  go_wp2
  go_ret
  exact ⟨ret_bool Hr.out, Hb.out⟩

end Go.Proofs.YthhebfknikfleaaGreat

/-
  slices.IndexFunc and ContainsFunc at values, whatever the function handed in: its contract is a premise.
-/
namespace Go.Proofs.YthhebfknikfleaaGreat
open Go.RowKit
set_option linter.unusedVariables false
set_option linter.unusedSimpArgs false

set_option maxRecDepth 100000 in
set_option maxHeartbeats 4000000 in
theorem indexCe (K : FuncId) (P : CeV → Bool) (S : Nat → Prop) (p : Option Addr) (n c : Nat) (L : List CeV) (w : World) (h : SliceS 2 CeS S w [.slice p n c] L)
    (hE : ∀ (args : Array Value) (w0 : World), (callFunc K args).run Tryz.prog w0 = .ok (.enter K args) w0) (hK : ∀ (x : CeV) (q : Option Addr) (d : Nat) (w0 : World), Below w.heap.size w w0 →  Calls Tryz.prog K #[.agg #[.bool x.null, .slice q x.bytes.length d]] w0 fun e w' => e = .returned (.bool (P x)) ∧ Below w0.heap.size w0 w') :
    Calls Tryz.prog 96 #[.slice p n c, .func (.func K) #[] #[]] w fun e w' => ∃ r, e = .returned (.int .i64 r) ∧ IdxG P L r ∧ Below w.heap.size w w' := by
  have H := Lib.hid h
  have HK := Lib.hid hK
  obtain ⟨rfl, hlc, hcm⟩ := h.len
  unfold maxLen at hcm
  clear h hK
  go_enter Tryz.func96, Tryz.ntmps96
  go_wp2_with fail
  go_loopw [5, 8] (fun _ i wr => ∃ k : Nat, k ≤ L.length ∧ i = .int .i64 k ∧ k ≤ aheadG P L ∧ Below w.heap.size w wr) (fun _ i _ => L.length - (intOf i).toNat)
  case atStart => exact ⟨0, Nat.zero_le _, rfl, Nat.zero_le _, Below.refl _ _⟩
  case round =>
    obtain ⟨k, hk, rfl, hka, hb⟩ := hrel
    have hsz := hb.size
    have Hb := Lib.hid hb
    have Hka := Lib.hid hka
    clear hka
    by_cases hlt : k < L.length
    · obtain ⟨b, o, q, d, rfl, hS, hbl, c0, c1, hq⟩ := ce_at (H.out.below CeS.still hb) hlt
      have Hgo := Lib.hid (aheadG_go P L k hlt)
      have Hat := Lib.hid (aheadG_at P L k hlt)
      clear hb hS
      generalize L[k] = x at *
      have Hc := Lib.hid (HK.out x q d wr Hb.out)
      have hlti : (k : Int) < (L.length : Int) := by omega
      go_wp2_with fail
      refine Hc.out.mono ?_
      rintro e w1 ⟨rfl, hb1⟩
      have Hb1 := Lib.hid (Hb.out.trans (hb1.mono hsz))
      clear hb1
      cases hP : P x with
      | false =>
        have Hn := Lib.hid (Hgo.out Hka.out hP)
        clear hP
        go_wp2_with fail
        go_roundw
        case rel => exact ⟨k + 1, by omega, by go_num, Hn.out, Hb1.out⟩
        case measure => simp [intOf]; omega
      | true =>
        have Hn := Lib.hid (Hat.out Hka.out hP)
        clear hP
        go_wp2_with fail
        go_ret
        exact ⟨_, rfl, .inl ⟨by rw [Hn.out], by rw [Hn.out]; exact hlt⟩, Hb1.out⟩
    · obtain rfl : k = L.length := by omega
      have Hn := Lib.hid (Nat.le_antisymm (aheadG_le P L) Hka.out)
      go_wp2
      go_ret
      exact ⟨_, rfl, .inr ⟨rfl, Hn.out⟩, Hb.out⟩

set_option maxRecDepth 100000 in
theorem containsCe (K : FuncId) (P : CeV → Bool) (S : Nat → Prop) (p : Option Addr) (n c : Nat) (L : List CeV) (w : World) (h : SliceS 2 CeS S w [.slice p n c] L)
    (hE : ∀ (args : Array Value) (w0 : World), (callFunc K args).run Tryz.prog w0 = .ok (.enter K args) w0) (hK : ∀ (x : CeV) (q : Option Addr) (d : Nat) (w0 : World), Below w.heap.size w w0 →  Calls Tryz.prog K #[.agg #[.bool x.null, .slice q x.bytes.length d]] w0 fun e w' => e = .returned (.bool (P x)) ∧ Below w0.heap.size w0 w') :
    Calls Tryz.prog 37 #[.slice p n c, .func (.func K) #[] #[]] w fun e w' => e = .returned (.bool (L.any P)) ∧ Below w.heap.size w w' := by
  have H := Lib.hid (indexCe K P S p n c L w h hE hK)
  clear h hK
  go_enter Tryz.func37, Tryz.ntmps37
  go_wp2_with fail
  refine H.out.mono ?_
  rintro e w1 ⟨r, rfl, hr, hb⟩
  have Hr := Lib.hid hr.any
  have Hb := Lib.hid hb
  clear hb hr
  go_wp2
  go_ret
  exact ⟨ret_bool Hr.out, Hb.out⟩

end Go.Proofs.YthhebfknikfleaaGreat

/-
  slices.IndexFunc and ContainsFunc at texts, whatever the function handed in: its contract is a premise.
-/
namespace Go.Proofs.YthhebfknikfleaaGreat
open Go.RowKit
set_option linter.unusedVariables false
set_option linter.unusedSimpArgs false

/-- A text, whatever its size. -/
def StrU : Rd ByteArray := fun _ _ cs s => cs = [.string s]
theorem StrU.still : Still StrU := fun _ _ _ _ _ _ h _ => h
theorem str_at {S : Nat → Prop} {w : World} {p : Option Addr} {n c k : Nat} {xs : List ByteArray} (h : SliceS 1 StrU S w [.slice p n c] xs) (hk : k < xs.length) :
    ∃ b o, p = some ⟨b, o, none⟩ ∧ S b ∧ b < w.heap.size ∧ w.cell? ⟨b, o + k, none⟩ = some (.string xs[k]) := by
  obtain ⟨b, o, cs, rfl, hS, hb, _, hc, rfl⟩ := h.elem (by omega) k xs[k] (List.getElem?_eq_getElem hk)
  have c0 := hc 0 _ rfl
  rw [Nat.add_zero, Nat.mul_one] at c0
  exact ⟨b, o, rfl, hS, hb, c0⟩

end Go.Proofs.YthhebfknikfleaaGreat

/-
  The contract of bytes.IndexByte: the place of the first such byte, or -1.
-/
namespace Go.Proofs.YthhebfknikfleaaGreat
open Go.RowKit

set_option maxRecDepth 100000 in
theorem run_indexBytes (w : World) (p : Option Addr) (l : List UInt8) (c : Nat) (cv : Int) (hin : BytesIn w p l) :
    (Extern.BytealgIndexByte.indexByte #[.slice p l.length c, .int .u8 cv]).run Tryz.prog w = .ok (.int .i64 (Lib.indexByte l cv.toNat.toUInt8)) w := by
  by_cases h0 : l = []
  · subst h0
    cases p with
    | none => exact Lib.run_indexByteNil w 0 c cv
    | some a =>
      have hs := Lib.run_indexByteString (P := Tryz.prog) .empty cv w
      exact hs
  · obtain ⟨b, o, rfl⟩ := hin.addr (List.length_pos_iff.2 h0)
    have := Lib.run_indexByteSlice (P := Tryz.prog) w b o l.length c (l.map fun x => (x.toNat : Int)) (by simp) (fun i hi => by
      rw [hin.cellAt i hi]; simp [List.getD, hi]) cv
    rw [this]
    have e : Lib.bytesOf (l.map fun x => (x.toNat : Int)) = l := by simp [Lib.bytesOf, Function.comp_def]
    rw [e]

set_option maxRecDepth 100000 in
theorem bytesIndexByte (p : Option Addr) (l : List UInt8) (c : Nat) (cv : Int) (w : World) (hin : BytesIn w p l) :
    Calls Tryz.prog 101 #[.slice p l.length c, .int .u8 cv] w fun e w' => e = .returned (.int .i64 (Lib.indexByte l cv.toNat.toUInt8)) ∧ w = w' := by
  have hrun := run_indexBytes w p l c cv hin
  generalize Lib.indexByte l cv.toNat.toUInt8 = r at hrun
  have Hrun := Lib.hid hrun
  clear hrun
  go_enter Tryz.func101, Tryz.ntmps101
  go_wp2
  rw [run_callFunc_extern Tryz.func133 (by kernel_rfl) (by kernel_rfl) (by kernel_rfl) (e := Extern.BytealgIndexByte.indexByte) (by kernel_rfl), Hrun.out]
  simp only [Result.andThen]
  rw [Oper.upon_value]
  go_wp2
  go_ret
  exact ⟨rfl, rfl⟩

/-- Where the first such byte stands: those ahead of it are others. -/
theorem indexByte_spec (l : List UInt8) (c : UInt8) : Lib.indexByte l c = -1 ∨ ∃ k : Nat, Lib.indexByte l c = k ∧ k < l.length := by
  induction l with
  | nil => exact .inl rfl
  | cons b l ih =>
    unfold Lib.indexByte
    by_cases hb : (b == c) = true
    · rw [if_pos hb]; exact .inr ⟨0, rfl, by simp⟩
    · rw [if_neg hb]
      rcases ih with h | ⟨k, h, hk⟩
      · rw [h]; exact .inl rfl
      · rw [h, if_neg (by simp)]
        exact .inr ⟨k + 1, by omega, by simpa using hk⟩

end Go.Proofs.YthhebfknikfleaaGreat

/-
  Messages of clients (layer 6): kinds; lists and texts that may be; both.
-/
namespace Go.Proofs.YthhebfknikfleaaGreat
open Go.RowKit
set_option linter.unusedVariables false
set_option linter.unusedSimpArgs false

theorem known_1 : ∀ k : Fin 256, decide (0 ≤ Lib.indexByte [66, 67, 68, 69, 72, 80, 81, 83, 88] (UInt8.ofNat k.val)) = (knownV (k.val : Int) == 1) := by decide +kernel
theorem known_2 : ∀ k : Fin 256, (knownV (k.val : Int) == 1) = false → decide (0 ≤ Lib.indexByte [70, 99, 100, 102, 112] (UInt8.ofNat k.val)) = (knownV (k.val : Int) == 2) := by decide +kernel
theorem known_3 : ∀ k : Fin 256, (knownV (k.val : Int) == 1) = false → (knownV (k.val : Int) == 2) = false → knownV (k.val : Int) = 0 := by decide +kernel

theorem BytesIn.newK (w : World) (l : List UInt8) (cs : Array Value) (e : TypeId) (m : Nat × Nat) (h : cs.toList = bytesV l) : BytesIn (w.alloc (.cells cs e m)) (some ⟨w.heap.size, 0, none⟩) l := by
  intro i hi
  refine ⟨w.heap.size, 0, rfl, ?_⟩
  have hcs : cs = (bytesV l).toArray := by rw [← h]
  subst hcs
  have hb : (w.alloc (.cells (bytesV l).toArray e m)).heap[w.heap.size]? = some (.cells (bytesV l).toArray e m) := by
    show (w.heap.push _)[w.heap.size]? = _
    exact Array.getElem?_push_size
  simp only [World.cell?, hb]
  simp [bytesV, byteV, List.getD, hi]
theorem enter_of {K : FuncId} {fn : Func} {c : Code} (hf : Tryz.prog.funcs[K]? = some fn) (hname : (fn.name == "runtime.NumGoroutine") = false) (hb : fn.body = some c) (args : Array Value) (w : World) :
    (callFunc K args).run Tryz.prog w = .ok (.enter K args) w := by
  have h1 : fn.name ≠ "runtime.NumGoroutine" := by simpa using hname
  simp [callFunc, hf, h1, hb]

theorem notAny_all {α : Type} {P : α → Bool} {L : List α} (h : ∀ j (hj : j < L.length), P L[j] = false) : L.any P = false := by
  rw [List.any_eq_false]
  intro x hx
  obtain ⟨k, hk, rfl⟩ := List.getElem_of_mem hx
  rw [h k hk]
  decide
theorem any_at {α : Type} {P : α → Bool} {L : List α} {k : Nat} (hk : k < L.length) (h : P L[k] = true) : L.any P = true := List.any_eq_true.2 ⟨_, List.getElem_mem hk, h⟩

set_option maxRecDepth 100000 in
set_option maxHeartbeats 4000000 in
theorem rbetween_any (S : Nat → Prop) (p : Option Addr) (n c : Nat) (l : List Int) (lo hi : Int) (w : World) (h : SliceS 1 IntU S w [.slice p n c] l) :
    Calls Tryz.prog 67 #[.slice p n c, .int .i64 lo, .int .i64 hi] w fun e w' => e = .returned (.bool (between l lo hi)) ∧ w = w' := by
  obtain ⟨rfl, hlc, hcm⟩ := h.len
  unfold maxLen at hcm
  have H := Lib.hid h
  have Hv : Hid (between l lo hi = (decide ((l.length : Int) ≤ 65535) && !l.any (outside lo hi))) := Lib.hid (by unfold between; congr 1; simp only [decide_eq_decide]; omega)
  generalize between l lo hi = bv at *
  clear h
  by_cases hlen : (l.length : Int) ≤ 65535
  · rw [decide_eq_true hlen, Bool.true_and] at Hv
    go_enter Tryz.func67, Tryz.ntmps67
    go_wp2_with fail
    go_loopw [7] (fun i wr => ∃ k : Nat, k ≤ l.length ∧ i = .int .i64 k ∧ (∀ j (hj : j < l.length), j < k → outside lo hi l[j] = false) ∧ wr = w) (fun i _ => l.length - (intOf i).toNat)
    case atStart => exact ⟨0, Nat.zero_le _, rfl, (fun j _ h => by omega), rfl⟩
    case round =>
      obtain ⟨k, hk, rfl, hall, rfl⟩ := hrel
      have Hall := Lib.hid hall
      clear hall
      by_cases hltk : k < l.length
      · obtain ⟨b, o, rfl, hS, hbl, c0⟩ := int_at H.out hltk
        have Hbad := Lib.hid (any_at (P := outside lo hi) hltk)
        have Hgood := Lib.hid (fun h : outside lo hi l[k] = false => (fun j (hj : j < l.length) (hjk : j < k + 1) => by
          by_cases e : j = k
          · subst e; exact h
          · exact Hall.out j hj (by omega) : ∀ j (hj : j < l.length), j < k + 1 → outside lo hi l[j] = false))
        have Hx : Hid (outside lo hi l[k] = (decide (l[k] < lo) || decide (hi < l[k]))) := Lib.hid rfl
        clear hS
        generalize outside lo hi l[k] = uf at *
        generalize l[k] = x at *
        have hlti : (k : Int) < (l.length : Int) := by omega
        by_cases h1 : x < lo
        · have Hf := Lib.hid (Hbad.out (by rw [Hx.out, decide_eq_true h1]; rfl))
          go_wp2_with fail
          go_ret
          exact ⟨ret_bool (by rw [Hv.out, Hf.out]; rfl), rfl⟩
        · by_cases h2 : hi < x
          · have Hf := Lib.hid (Hbad.out (by rw [Hx.out, decide_eq_true h2]; simp))
            go_wp2_with fail
            go_ret
            exact ⟨ret_bool (by rw [Hv.out, Hf.out]; rfl), rfl⟩
          · have Hf := Lib.hid (Hgood.out (by rw [Hx.out, decide_eq_false h1, decide_eq_false h2]; rfl))
            go_wp2_with fail
            go_roundw
            case rel => exact ⟨k + 1, by omega, by go_num, Hf.out, by first | rfl | trivial⟩
            case measure => simp [intOf]; omega
      · obtain rfl : k = l.length := by omega
        have Hf := Lib.hid (notAny_all (P := outside lo hi) (fun j hj => Hall.out j hj hj))
        clear Hall
        go_wp2_with fail
        go_ret
        exact ⟨ret_bool (by rw [Hv.out, Hf.out]; rfl), rfl⟩
  · rw [decide_eq_false hlen] at Hv
    go_enter Tryz.func67, Tryz.ntmps67
    go_wp2_with fail
    go_ret
    exact ⟨ret_bool (by rw [Hv.out]; rfl), rfl⟩

end Go.Proofs.YthhebfknikfleaaGreat

/-
  Messages of servers (layer 7): as values and in memory; what may be, as plain laws.
-/
namespace Go.Proofs.YthhebfknikfleaaGreat
open Go.RowKit
set_option linter.unusedVariables false
set_option linter.unusedSimpArgs false

/-- A column. -/
structure CoV where
  name : ByteArray
  table : Int
  attr : Int
  oid : Int
  size : Int
  mod : Int
  format : Int
/-- A part of a fault. -/
structure FdV where
  code : Int
  text : ByteArray
def coCells (x : CoV) : List Value := [.string x.name, .int .i64 x.table, .int .i64 x.attr, .int .i64 x.oid, .int .i64 x.size, .int .i64 x.mod, .int .i64 x.format]
def CoS : Rd CoV := fun _ _ cs x => cs = [.string x.name, .int .i64 x.table, .int .i64 x.attr, .int .i64 x.oid, .int .i64 x.size, .int .i64 x.mod, .int .i64 x.format] ∧ x.name.size ≤ maxLen
def FdS : Rd FdV := fun _ _ cs x => cs = [.int .u8 x.code, .string x.text] ∧ x.text.size ≤ maxLen ∧ 0 ≤ x.code ∧ x.code < 256
theorem CoS.still : Still CoS := fun _ _ _ _ _ _ h _ => h
theorem FdS.still : Still FdS := fun _ _ _ _ _ _ h _ => h
theorem CoS.flat : ∀ (S S' : Nat → Prop) (w w' : World) (cs : List Value) (x : CoV), CoS S w cs x → CoS S' w' cs x := fun _ _ _ _ _ _ h => h
theorem FdS.flat : ∀ (S S' : Nat → Prop) (w w' : World) (cs : List Value) (x : FdV), FdS S w cs x → FdS S' w' cs x := fun _ _ _ _ _ _ h => h
theorem CoS.one (S : Nat → Prop) (w : World) (cs : List Value) (x : CoV) (h : CoS S w cs x) : ∀ u ∈ cs, u.oneCell' = true := by
  obtain ⟨rfl, _⟩ := h
  intro u hu
  simp only [List.mem_cons, List.not_mem_nil, or_false] at hu
  rcases hu with rfl | rfl | rfl | rfl | rfl | rfl | rfl <;> rfl
theorem FdS.one (S : Nat → Prop) (w : World) (cs : List Value) (x : FdV) (h : FdS S w cs x) : ∀ u ∈ cs, u.oneCell' = true := by
  obtain ⟨rfl, _⟩ := h
  intro u hu
  simp only [List.mem_cons, List.not_mem_nil, or_false] at hu
  rcases hu with rfl | rfl <;> rfl
/-- The cells of a column in a list. -/
theorem co_at {S : Nat → Prop} {w : World} {p : Option Addr} {n c k : Nat} {xs : List CoV} (h : SliceS 7 CoS S w [.slice p n c] xs) (hk : k < xs.length) :
    ∃ b o, p = some ⟨b, o, none⟩ ∧ S b ∧ b < w.heap.size ∧ w.cell? ⟨b, o + k * 7, none⟩ = some (.string xs[k].name) ∧ w.cell? ⟨b, o + k * 7 + 1, none⟩ = some (.int .i64 xs[k].table) ∧ w.cell? ⟨b, o + k * 7 + 2, none⟩ = some (.int .i64 xs[k].attr) ∧
      w.cell? ⟨b, o + k * 7 + 3, none⟩ = some (.int .i64 xs[k].oid) ∧ w.cell? ⟨b, o + k * 7 + 4, none⟩ = some (.int .i64 xs[k].size) ∧ w.cell? ⟨b, o + k * 7 + 5, none⟩ = some (.int .i64 xs[k].mod) ∧ w.cell? ⟨b, o + k * 7 + 6, none⟩ = some (.int .i64 xs[k].format) ∧ xs[k].name.size ≤ maxLen := by
  obtain ⟨b, o, cs, rfl, hS, hb, _, hc, rfl, hq⟩ := h.elem (by omega) k xs[k] (List.getElem?_eq_getElem hk)
  have c0 := hc 0 _ rfl
  rw [Nat.add_zero] at c0
  exact ⟨b, o, rfl, hS, hb, c0, hc 1 _ rfl, hc 2 _ rfl, hc 3 _ rfl, hc 4 _ rfl, hc 5 _ rfl, hc 6 _ rfl, hq⟩
theorem fd_at {S : Nat → Prop} {w : World} {p : Option Addr} {n c k : Nat} {xs : List FdV} (h : SliceS 2 FdS S w [.slice p n c] xs) (hk : k < xs.length) :
    ∃ b o, p = some ⟨b, o, none⟩ ∧ S b ∧ b < w.heap.size ∧ w.cell? ⟨b, o + k * 2, none⟩ = some (.int .u8 xs[k].code) ∧ w.cell? ⟨b, o + k * 2 + 1, none⟩ = some (.string xs[k].text) ∧ xs[k].text.size ≤ maxLen ∧ 0 ≤ xs[k].code ∧ xs[k].code < 256 := by
  obtain ⟨b, o, cs, rfl, hS, hb, _, hc, rfl, hq⟩ := h.elem (by omega) k xs[k] (List.getElem?_eq_getElem hk)
  have c0 := hc 0 _ rfl
  rw [Nat.add_zero] at c0
  exact ⟨b, o, rfl, hS, hb, c0, hc 1 _ rfl, hq⟩

structure BaV where
  kind : Int
  status : Int
  tag : ByteArray
  name : ByteArray
  value : ByteArray
  n : Int
  m : Int
  oids : List Int
  cols : List CoV
  row : List CeV
  fields : List FdV
/-- Where the lists of a message lie. -/
structure BaP where
  po : Option Addr
  co : Nat
  pc : Option Addr
  cc : Nat
  pr : Option Addr
  cr : Nat
  pf : Option Addr
  cf : Nat
def baNil : BaP := ⟨none, 0, none, 0, none, 0, none, 0⟩
def baCells (x : BaV) (a : BaP) : Array Value := #[.int .u8 x.kind, .int .u8 x.status, .string x.tag, .string x.name, .string x.value, .int .i64 x.n, .int .i64 x.m, .slice a.po x.oids.length a.co, .slice a.pc x.cols.length a.cc, .slice a.pr x.row.length a.cr, .slice a.pf x.fields.length a.cf]
def baArg (x : BaV) (a : BaP) : Value := .agg (baCells x a)
/-- The lists of a message are read. -/
structure BaL (S : Nat → Prop) (w : World) (x : BaV) (a : BaP) : Prop where
  lo : SliceS 1 IntU S w [.slice a.po x.oids.length a.co] x.oids
  lc : SliceS 7 CoS S w [.slice a.pc x.cols.length a.cc] x.cols
  lr : SliceS 2 CeS S w [.slice a.pr x.row.length a.cr] x.row
  lf : SliceS 2 FdS S w [.slice a.pf x.fields.length a.cf] x.fields
/-- Its bytes are bytes. -/
def BaB (x : BaV) : Prop := 0 ≤ x.kind ∧ x.kind < 256 ∧ 0 ≤ x.status ∧ x.status < 256
section
variable {S S' : Nat → Prop} {w w' : World} {x : BaV} {a : BaP}
theorem BaL.keep (h : BaL S w x a) (hk : Kept S S' w w') : BaL S' w' x a :=
  ⟨(SliceS.still IntU.still) _ _ _ _ _ _ h.lo hk, (SliceS.still CoS.still) _ _ _ _ _ _ h.lc hk, (SliceS.still CeS.still) _ _ _ _ _ _ h.lr hk, (SliceS.still FdS.still) _ _ _ _ _ _ h.lf hk⟩
theorem BaL.below (h : BaL S w x a) (hb : Below w.heap.size w w') : BaL S w' x a := h.keep (Kept.all hb)
theorem BaL.weak (h : BaL S w x a) (hS : ∀ k, k < w.heap.size → S k → S' k) : BaL S' w x a := h.keep (Kept.mono w hS)
theorem BaL.any (h : BaL S w x a) : BaL (fun _ => True) w x a := h.weak (fun _ _ _ => trivial)
theorem BaL.lens (h : BaL S w x a) : x.oids.length ≤ maxLen ∧ x.cols.length ≤ maxLen ∧ x.row.length ≤ maxLen ∧ x.fields.length ≤ maxLen :=
  ⟨Nat.le_trans h.lo.len.2.1 h.lo.len.2.2, Nat.le_trans h.lc.len.2.1 h.lc.len.2.2, Nat.le_trans h.lr.len.2.1 h.lr.len.2.2, Nat.le_trans h.lf.len.2.1 h.lf.len.2.2⟩
end

/-- Whether a kind is a server's. -/
def servK (k : Int) : Bool := decide (k ∈ [82, 83, 75, 90, 49, 50, 51, 110, 115, 73, 67, 68, 84, 116, 69, 78])
def inR (n lo hi : Int) : Bool := !outside lo hi n
def colNums (c : CoV) : Bool := inR c.table 0 4294967295 && (inR c.attr 0 65535 && (inR c.oid 0 4294967295 && (inR c.size (-32768) 32767 && (inR c.mod (-2147483648) 2147483647 && inR c.format 0 65535))))
def colB (c : CoV) : Bool := cleanB c.name && colNums c
def fieldB (f : FdV) : Bool := (!(f.code == 0)) && cleanB f.text
def colsB (l : List CoV) : Bool := decide (l.length ≤ 65535) && !l.any (fun c => !colB c)
def fieldsB (l : List FdV) : Bool := decide (l.length ≤ 65535) && !l.any (fun c => !fieldB c)
def coEq (a b : CoV) : Bool := (a.name.toList == b.name.toList) && ((a.table == b.table) && ((a.attr == b.attr) && ((a.oid == b.oid) && ((a.size == b.size) && ((a.mod == b.mod) && (a.format == b.format))))))
def fdEq (a b : FdV) : Bool := (a.code == b.code) && (a.text.toList == b.text.toList)
theorem coEq_self (a : CoV) : coEq a a = true := by simp [coEq]
theorem fdEq_self (a : FdV) : fdEq a a = true := by simp [fdEq]
def headBa (a b : BaV) : Bool := (a.kind == b.kind) && ((a.status == b.status) && ((a.n == b.n) && (a.m == b.m)))
def textBa (a b : BaV) : Bool := (a.tag.toList == b.tag.toList) && ((a.name.toList == b.name.toList) && (a.value.toList == b.value.toList))
def baEq (a b : BaV) : Bool := headBa a b && (textBa a b && (listEq intsEq a.oids b.oids && (listEq coEq a.cols b.cols && (listEq fdEq a.fields b.fields && listEq ceEq a.row b.row))))
theorem baEq_self (a : BaV) : baEq a a = true := by
  simp [baEq, headBa, textBa, listEq_self intsEq_self, listEq_self ceEq_self, listEq_self coEq_self, listEq_self fdEq_self]
def baZero (k : Int) : BaV := ⟨k, 0, ⟨#[]⟩, ⟨#[]⟩, ⟨#[]⟩, 0, 0, [], [], [], []⟩
/-- A message with just the fields that its body has. -/
def keptB (x : BaV) : BaV :=
  if x.kind = 83 then { baZero x.kind with name := x.name, value := x.value }
  else if x.kind = 75 then { baZero x.kind with n := x.n, m := x.m }
  else if x.kind = 90 then { baZero x.kind with status := x.status }
  else if x.kind = 67 then { baZero x.kind with tag := x.tag }
  else if x.kind = 68 then { baZero x.kind with row := x.row }
  else if x.kind = 84 then { baZero x.kind with cols := x.cols }
  else if x.kind = 116 then { baZero x.kind with oids := x.oids }
  else if x.kind = 69 ∨ x.kind = 78 then { baZero x.kind with fields := x.fields }
  else baZero x.kind
def statusB (x : BaV) : Bool := (!(x.kind == 90)) || ((x.status == 73) || ((x.status == 84) || (x.status == 69)))
def textsB (x : BaV) : Bool := cleanB x.tag && (cleanB x.name && cleanB x.value)
def listsB (x : BaV) : Bool := colsB x.cols && (fieldsB x.fields && (valuesV x.row && between x.oids 0 4294967295))
def numsB7 (x : BaV) : Bool := inR x.n 0 4294967295 && inR x.m 0 4294967295
/-- Whether a message of a server's kind may be. -/
def okB (x : BaV) : Bool := textsB x && (listsB x && (numsB7 x && (statusB x && baEq x (keptB x))))
def checkB (x : BaV) : Int := if servK x.kind = true then (if okB x = true then 0 else 1) else 9

/-- A column's bytes behind others; a field's. -/
def colW (b : List UInt8) (c : CoV) : List UInt8 := putV (putV (putV (putV (putV (putV (strB b c.name) c.table 4) c.attr 2) c.oid 4) c.size 2) c.mod 4) c.format 2
def fieldW (b : List UInt8) (f : FdV) : List UInt8 := strB (b ++ [UInt8.ofNat f.code.toNat]) f.text
/-- The body of a message that may be. -/
def bodyB (x : BaV) : List UInt8 :=
  if x.kind = 82 then putV [] 0 4
  else if x.kind = 83 then strB (strB [] x.name) x.value
  else if x.kind = 75 then putV (putV [] x.n 4) x.m 4
  else if x.kind = 90 then [UInt8.ofNat x.status.toNat]
  else if x.kind = 67 then strB [] x.tag
  else if x.kind = 68 then rowB [] x.row
  else if x.kind = 84 then x.cols.foldl colW (putV [] x.cols.length 2)
  else if x.kind = 116 then listB [] x.oids 4
  else if x.kind = 69 ∨ x.kind = 78 then x.fields.foldl fieldW [] ++ [0]
  else []
/-- A message's type, body and error. -/
def encB (x : BaV) : Int × List UInt8 × Int := if checkB x = 0 then (x.kind, bodyB x, 0) else (0, [], checkB x)

end Go.Proofs.YthhebfknikfleaaGreat

/-
  The contract of bytes.Clone.
-/
namespace Go.Proofs.YthhebfknikfleaaGreat
open Go.RowKit

/-- bytes.Clone: nil stays nil; else a row of its own. -/
theorem clone_any (p : Option Addr) (l : List UInt8) (cap : Nat) (w : World) (hl : l.length ≤ 1000000000) (hb : BytesIn w p l) :
    Calls Tryz.prog 109 #[.slice p l.length cap] w fun e w' =>
      ∃ v, e = .returned v ∧ OwnB w.heap.size w' v l ∧ Below w.heap.size w w' := by
  have q22 : ∀ (w : World) (a : Option Addr) (n c n' c' : Nat), (binOp .eql 25 (.slice a n c) (.slice none n' c')).run Tryz.prog w = .ok (.bool a.isNone) w :=
    fun w a n c n' c' => Lib.run_eql_slice_nil w _ _ a n c n' c' Tryz.underlying25
  have Hb := Lib.hid hb
  cases p with
  | none =>
    have hl0 : l = [] := by
      by_cases h0 : l = []
      · exact h0
      · obtain ⟨b, o, e⟩ := hb.addr (List.length_pos_iff.2 h0)
        cases e
    subst hl0
    clear hb
    go_enter Tryz.func109, Tryz.ntmps109
    go_wp2
    go_ret
    exact ⟨_, rfl, OwnB.none _ _, Below.refl _ _⟩
  | some a =>
    clear hb
    go_enter Tryz.func109, Tryz.ntmps109
    go_wp2_with (first | (at_builtin; refine step_appendB _ rfl _ _ rfl w.heap.size _ [] rfl (OwnB.empty (Nat.le_refl _)) _ l _ rfl (Hb.out.alloc _) (by simp; omega) (by simp) ?_; intro v1 w1 hown1 hb1 _))
    go_ret
    exact ⟨_, rfl, by simpa using hown1, ((Below.refl _ _).alloc (Nat.le_refl _) _).trans hb1⟩

end Go.Proofs.YthhebfknikfleaaGreat

