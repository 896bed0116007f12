/-
  Statements as keys (layer 12): values; fair, Same, Of; both.
-/
import Derived.Test.YtldjfmddjbdciaaIdxJ
import Derived.Test.YtldjfmddjbdciaaFoD
import Derived.Test.YtldjfmddjbdciaaWire
namespace Go.Proofs.Ytldjfmddjbdciaa
open Go.RowKit
set_option linter.unusedVariables false
set_option linter.unusedSimpArgs false

structure StV where
  text : ByteArray
  oids : List Int
def stArg (s : StV) (p : Option Addr) (c : Nat) : Value := .agg #[.string s.text, .slice p s.oids.length c]
def wrongO (n : Int) : Bool := decide (n < 0) || decide (4294967295 < n)
theorem wrongO_eq : wrongO = outside 0 4294967295 := rfl
def fairK (s : StV) : Bool := decide ((s.text.size : Int) ≤ 1048576) && between s.oids 0 4294967295
def numsB (b : List UInt8) (l : List Int) : List UInt8 := l.foldl (fun b n => putV b n 4) b
def keyB (s : StV) : List UInt8 := numsB (putV [] s.text.size 4 ++ s.text.data.toList) s.oids
def keyV (s : StV) : ByteArray := if fairK s = true then strOf (keyB s) else ⟨#[]⟩
def stEq (a b : StV) : Bool := (a.text.toList == b.text.toList) && listEq intsEq a.oids b.oids

def numsK (b : List UInt8) (l : List Int) (k : Nat) : List UInt8 := numsB b (l.take k)
theorem numsK_succ {b : List UInt8} {l : List Int} {k : Nat} (h : k < l.length) : numsK b l (k + 1) = putV (numsK b l k) l[k] 4 := by
  unfold numsK numsB
  rw [List.take_succ_eq_append_getElem h, List.foldl_append]
  rfl
theorem numsK_zero (b : List UInt8) (l : List Int) : numsK b l 0 = b := rfl
theorem numsK_all (b : List UInt8) (l : List Int) : numsK b l l.length = numsB b l := by unfold numsK; rw [List.take_length]
theorem numsK_len (b : List UInt8) (l : List Int) : ∀ k, k ≤ l.length → (numsK b l k).length ≤ b.length + 4 * k
  | 0, _ => by simp [numsK, numsB]
  | k + 1, h => by
    rw [numsK_succ (show k < l.length by omega)]
    have := putV_len4 (numsK b l k) l[k] 4
    have := numsK_len b l k (by omega)
    omega

theorem wrongO_any (n : Int) (w : World) : Calls Try.prog 76 #[.int .i64 n] w fun e w' => e = .returned (.bool (wrongO n)) ∧ Below w.heap.size w w' := by
  have Ho : Hid (wrongO n = (decide (n < 0) || decide (4294967295 < n))) := Lib.hid rfl
  generalize wrongO n = r at *
  go_enter Try.func76, Try.ntmps76
  go_wp2
  all_goals
    go_ret
    refine ⟨ret_bool ?_, Below.refl _ _⟩
    rw [Ho.out]
    first | done | simp_all

set_option maxRecDepth 100000 in
set_option maxHeartbeats 4000000 in
theorem fair_any (S : Nat → Prop) (s : StV) (p : Option Addr) (c : Nat) (w : World) (h : SliceS 1 IntU S w [.slice p s.oids.length c] s.oids) : Calls Try.prog 38 #[stArg s p c] w fun e w' => e = .returned (.bool (fairK s)) ∧ Below w.heap.size w w' := by
  obtain ⟨-, hlc, hcm⟩ := h.len
  unfold maxLen at hcm
  have hal : Below w.heap.size w (w.alloc (.cells #[.string s.text, .slice p s.oids.length c] 24)) := (Below.refl _ _).alloc (Nat.le_refl _) _
  have HB := Lib.hid hal
  have Hk := Lib.hid (Blk.new w 24 #[.string s.text, .slice p s.oids.length c])
  have Hc := Lib.hid (containsInt0 76 wrongO S p _ c s.oids _ (h.below IntU.still hal) (enter_of Try.func76 (by kernel_rfl) rfl) (fun x w0 _ => wrongO_any x w0))
  have Hv : Hid (fairK s = (decide ((s.text.size : Int) ≤ 1048576) && (decide ((s.oids.length : Int) ≤ 65535) && !s.oids.any wrongO))) := Lib.hid (by
    unfold fairK between
    rw [wrongO_eq]
    congr 2
    simp only [decide_eq_decide]; omega)
  generalize fairK s = v at *
  generalize s.oids.any wrongO = av at *
  obtain ⟨st, so⟩ := s
  clear h hal
  unfold stArg
  dsimp only at *
  go_enter Try.func38, Try.ntmps38
  go_upto_region 1 with (fail)
  have hlt := Hk.out.lt
  generalize w.alloc (.cells #[.string st, .slice p so.length c] 24) = w1 at *
  have c1 := Hk.out.cell
  by_cases h1 : (st.size : Int) ≤ 1048576
  · by_cases h2 : (so.length : Int) ≤ 65535
    · rw [decide_eq_true h1, decide_eq_true h2] at Hv
      go_wp2_with (go_at_call 77; refine Hc.out.mono ?_; rintro e w2 ⟨rfl, hb⟩; have HB2 := Lib.hid (HB.out.trans (hb.mono HB.out.size)); clear hb)
      go_ret
      exact ⟨ret_bool (by rw [Hv.out]; rfl), HB2.out⟩
    · rw [decide_eq_false h2] at Hv
      go_wp2_with fail
      go_ret
      exact ⟨ret_bool (by rw [Hv.out]; simp), HB.out⟩
  · rw [decide_eq_false h1] at Hv
    go_wp2_with fail
    go_ret
    exact ⟨ret_bool (by rw [Hv.out]; simp), HB.out⟩

end Go.Proofs.Ytldjfmddjbdciaa
