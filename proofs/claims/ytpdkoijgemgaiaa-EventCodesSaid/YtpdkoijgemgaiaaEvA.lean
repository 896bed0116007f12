/-
  The contracts of package event (layer 42) and of the document's answer: Check, Same, Code.
-/
import Derived.Test.YtpdkoijgemgaiaaConcat
import Derived.Test.YtpdkoijgemgaiaaBytesClone2
import Derived.Test.YtpdkoijgemgaiaaNumE
import Derived.BigQuiet
import Derived.Deep.QuietTactic
import Derived.Deep.RegionLaw
import Derived.Deep.RegionHeld3
namespace Go.Proofs.Ytpdkoijgemgaiaa
open Go.RowKit

structure EvV where
  kind : Int
  who : Int
  n : Int
  bytes : List UInt8

def evOk (k o n : Int) (m : Nat) : Bool := decide (1 ≤ k) && decide (k ≤ 8) && decide (0 ≤ o) && decide (o ≤ 255) && decide (0 ≤ n) && decide (n < 2147483648) && decide (m ≤ 65535)

theorem evOk_true {k o n : Int} {m : Nat} (h : evOk k o n m = true) : 1 ≤ k ∧ k ≤ 8 ∧ 0 ≤ o ∧ o ≤ 255 ∧ 0 ≤ n ∧ n < 2147483648 ∧ m ≤ 65535 := by
  unfold evOk at h
  simp only [Bool.and_eq_true, decide_eq_true_eq] at h
  omega
theorem evOk_mk {k o n : Int} {m : Nat} (h : 1 ≤ k ∧ k ≤ 8 ∧ 0 ≤ o ∧ o ≤ 255 ∧ 0 ≤ n ∧ n < 2147483648 ∧ m ≤ 65535) : evOk k o n m = true := by
  unfold evOk
  simp only [Bool.and_eq_true, decide_eq_true_eq]
  omega
theorem evOk_no {k o n : Int} {m : Nat} (h : ¬ (1 ≤ k ∧ k ≤ 8 ∧ 0 ≤ o ∧ o ≤ 255 ∧ 0 ≤ n ∧ n < 2147483648 ∧ m ≤ 65535)) : evOk k o n m = false := by
  cases e : evOk k o n m
  · rfl
  · exact absurd (evOk_true e) h

theorem evCases {k o n : Int} {m : Nat} : (1 ≤ k ∧ k ≤ 8 ∧ 0 ≤ o ∧ o ≤ 255 ∧ 0 ≤ n ∧ n < 2147483648 ∧ m ≤ 65535) ∨ k < 1 ∨ (1 ≤ k ∧ 8 < k) ∨ (1 ≤ k ∧ k ≤ 8 ∧ o < 0) ∨ (1 ≤ k ∧ k ≤ 8 ∧ 0 ≤ o ∧ 255 < o) ∨ (1 ≤ k ∧ k ≤ 8 ∧ 0 ≤ o ∧ o ≤ 255 ∧ n < 0) ∨ (1 ≤ k ∧ k ≤ 8 ∧ 0 ≤ o ∧ o ≤ 255 ∧ 0 ≤ n ∧ 2147483648 ≤ n) ∨ (1 ≤ k ∧ k ≤ 8 ∧ 0 ≤ o ∧ o ≤ 255 ∧ 0 ≤ n ∧ n < 2147483648 ∧ 65535 < m) := by omega

set_option maxHeartbeats 1000000 in
theorem evCheck_any (k o n : Int) (p : Option Addr) (m c : Nat) (w : World) :
    Calls Try.prog 55 #[.agg #[.int .i64 k, .int .i64 o, .int .i64 n, .slice p m c]] w fun e w' => e = .returned (.bool (evOk k o n m)) ∧ Below w.heap.size w w' := by
  obtain ⟨b, hb⟩ : ∃ b, b = evOk k o n m := ⟨_, rfl⟩
  rw [← hb]
  have Hb := Lib.hid hb
  clear hb
  rcases (evCases : _ ∨ (k < 1) ∨ _) with ⟨h1, h2, h3, h4, h5, h6, h7⟩ | h1 | ⟨h1, h2⟩ | ⟨h1, h2, h3⟩ | ⟨h1, h2, h3, h4⟩ | ⟨h1, h2, h3, h4, h5⟩ | ⟨h1, h2, h3, h4, h5, h6⟩ | ⟨h1, h2, h3, h4, h5, h6, h7⟩
  · have H1 : Hid (b = true) := Lib.hid (by rw [Hb.out]; exact evOk_mk ⟨h1, h2, h3, h4, h5, h6, h7⟩)
    go_enter Try.func55, Try.ntmps55
    go_wp2
    go_ret
    exact ⟨ret_bool (by rw [H1.out] <;> (simp; omega)), (Below.refl _ _).alloc (Nat.le_refl _) _⟩
  all_goals
    have H1 : Hid (b = false) := Lib.hid (by rw [Hb.out]; exact evOk_no (by omega))
    go_enter Try.func55, Try.ntmps55
    go_wp2
    go_ret
    exact ⟨ret_bool (by rw [H1.out] <;> (simp; omega)), (Below.refl _ _).alloc (Nat.le_refl _) _⟩

set_option maxHeartbeats 1000000 in
theorem evCheckR_any (k o n : Int) (p : Option Addr) (m c : Nat) (w : World) :
    Calls Try.prog 57 #[.agg #[.int .i64 k, .int .i64 o, .int .i64 n, .slice p m c]] w fun e w' => e = .returned (.bool (evOk k o n m)) ∧ Below w.heap.size w w' := by
  obtain ⟨b, hb⟩ : ∃ b, b = evOk k o n m := ⟨_, rfl⟩
  rw [← hb]
  have Hb := Lib.hid hb
  clear hb
  rcases (evCases : _ ∨ (k < 1) ∨ _) with ⟨h1, h2, h3, h4, h5, h6, h7⟩ | h1 | ⟨h1, h2⟩ | ⟨h1, h2, h3⟩ | ⟨h1, h2, h3, h4⟩ | ⟨h1, h2, h3, h4, h5⟩ | ⟨h1, h2, h3, h4, h5, h6⟩ | ⟨h1, h2, h3, h4, h5, h6, h7⟩
  · have H1 : Hid (b = true) := Lib.hid (by rw [Hb.out]; exact evOk_mk ⟨h1, h2, h3, h4, h5, h6, h7⟩)
    go_enter Try.func57, Try.ntmps57
    go_wp2
    go_ret
    exact ⟨ret_bool (by rw [H1.out] <;> (simp; omega)), (Below.refl _ _).alloc (Nat.le_refl _) _⟩
  all_goals
    have H1 : Hid (b = false) := Lib.hid (by rw [Hb.out]; exact evOk_no (by omega))
    go_enter Try.func57, Try.ntmps57
    go_wp2
    go_ret
    exact ⟨ret_bool (by rw [H1.out] <;> (simp; omega)), (Below.refl _ _).alloc (Nat.le_refl _) _⟩

def evSame (x y : EvV) : Bool := x.kind == y.kind && x.who == y.who && x.n == y.n && x.bytes == y.bytes

theorem evSame_self (x : EvV) : evSame x x = true := by simp [evSame]

def evArg (x : EvV) (p : Option Addr) (c : Nat) : Value := .agg #[.int .i64 x.kind, .int .i64 x.who, .int .i64 x.n, .slice p x.bytes.length c]

set_option maxHeartbeats 1000000 in
theorem evSame_any (x y : EvV) (p q : Option Addr) (c d : Nat) (w : World) (hx : BytesIn w p x.bytes) (hy : BytesIn w q y.bytes) :
    Calls Try.prog 62 #[evArg x p c, evArg y q d] w fun e w' => e = .returned (.bool (evSame x y)) ∧ Below w.heap.size w w' := by
  unfold evArg
  obtain ⟨k, o, n, l⟩ := x
  obtain ⟨k', o', n', l'⟩ := y
  dsimp only at *
  obtain ⟨b, hb⟩ : ∃ b, b = evSame ⟨k, o, n, l⟩ ⟨k', o', n', l'⟩ := ⟨_, rfl⟩
  rw [← hb]
  have Hb := Lib.hid hb
  have Hx := Lib.hid hx
  have Hy := Lib.hid hy
  clear hb hx hy
  have hc : (k = k' ∧ o = o' ∧ n = n') ∨ k ≠ k' ∨ (k = k' ∧ o ≠ o') ∨ (k = k' ∧ o = o' ∧ n ≠ n') := by omega
  rcases hc with ⟨rfl, rfl, rfl⟩ | h1 | ⟨rfl, h1⟩ | ⟨rfl, rfl, h1⟩
  · have H1 : Hid (b = (l == l')) := Lib.hid (by rw [Hb.out]; simp [evSame])
    go_enter Try.func62, Try.ntmps62
    go_wp2_with (go_at_call 58; refine (equal_any _ _ l l' _ _ _ ((Hx.out.alloc _).alloc _) ((Hy.out.alloc _).alloc _)).mono ?_; rintro e w1 ⟨rfl, rfl⟩; generalize (l == l') = r at H1)
    go_ret
    exact ⟨ret_bool (by rw [H1.out]), ((Below.refl _ _).alloc (Nat.le_refl _) _).alloc (by simp) _⟩
  all_goals
    have H1 : Hid (b = false) := Lib.hid (by rw [Hb.out]; simp [evSame]; try omega)
    go_enter Try.func62, Try.ntmps62
    go_wp2
    go_ret
    exact ⟨ret_bool (by rw [H1.out]), ((Below.refl _ _).alloc (Nat.le_refl _) _).alloc (by simp) _⟩

set_option maxHeartbeats 1000000 in
theorem evSameR_any (x y : EvV) (p q : Option Addr) (c d : Nat) (w : World) (hx : BytesIn w p x.bytes) (hy : BytesIn w q y.bytes) :
    Calls Try.prog 63 #[evArg x p c, evArg y q d] w fun e w' => e = .returned (.bool (evSame x y)) ∧ Below w.heap.size w w' := by
  unfold evArg
  obtain ⟨k, o, n, l⟩ := x
  obtain ⟨k', o', n', l'⟩ := y
  dsimp only at *
  obtain ⟨b, hb⟩ : ∃ b, b = evSame ⟨k, o, n, l⟩ ⟨k', o', n', l'⟩ := ⟨_, rfl⟩
  rw [← hb]
  have Hb := Lib.hid hb
  have k1 := ((hx.alloc (.cells #[.int .i64 k, .int .i64 o, .int .i64 n, .slice p l.length c] 85)).alloc (.cells #[.int .i64 k', .int .i64 o', .int .i64 n', .slice q l'.length d] 85)).convert c 24 5 9 Try.underlying24 Try.underlying5 Try.underlying9
  have k2 := ((hy.alloc (.cells #[.int .i64 k, .int .i64 o, .int .i64 n, .slice p l.length c] 85)).alloc (.cells #[.int .i64 k', .int .i64 o', .int .i64 n', .slice q l'.length d] 85)).convert d 24 5 9 Try.underlying24 Try.underlying5 Try.underlying9
  have e : ((strOf l).toList == (strOf l').toList) = (l == l') := by rw [strOf_toList, strOf_toList]
  have E := Lib.hid e
  clear hb hx hy e
  have hc : (k = k' ∧ o = o' ∧ n = n') ∨ k ≠ k' ∨ (k = k' ∧ o ≠ o') ∨ (k = k' ∧ o = o' ∧ n ≠ n') := by omega
  rcases hc with ⟨rfl, rfl, rfl⟩ | h1 | ⟨rfl, h1⟩ | ⟨rfl, rfl, h1⟩
  · have H1 : Hid (b = (l == l')) := Lib.hid (by rw [Hb.out]; simp [evSame])
    go_enter Try.func63, Try.ntmps63
    go_wp2
    go_ret
    exact ⟨ret_bool (by rw [H1.out, E.out]), ((Below.refl _ _).alloc (Nat.le_refl _) _).alloc (by simp) _⟩
  all_goals
    have H1 : Hid (b = false) := Lib.hid (by rw [Hb.out]; simp [evSame]; try omega)
    clear k1 k2
    go_enter Try.func63, Try.ntmps63
    go_wp2
    go_ret
    exact ⟨ret_bool (by rw [H1.out]), ((Below.refl _ _).alloc (Nat.le_refl _) _).alloc (by simp) _⟩

end Go.Proofs.Ytpdkoijgemgaiaa
