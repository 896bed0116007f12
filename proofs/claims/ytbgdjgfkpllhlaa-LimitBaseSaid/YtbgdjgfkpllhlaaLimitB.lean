/-
  The contracts of limit.fair, limit.bounds, limit.Check and remudaref35.Check.
-/
import Derived.Test.YtbgdjgfkpllhlaaLimitA
namespace Go.Proofs.Ytbgdjgfkpllhlaa
open Go.RowKit

structure PairL where
  name : ByteArray
  value : ByteArray

def PairR (_B : Nat) (_w : World) (cs : List Value) (x : PairL) : Prop := cs = [.string x.name, .string x.value] ∧ x.name.size ≤ maxLen ∧ x.value.size ≤ maxLen
theorem PairR.stays : Stays PairR := fun _ _ _ _ _ h _ => h

def fairB (p : PairL) : Bool := !p.name.toList.isEmpty && (decide (p.name.size ≤ 100) && decide (p.value.size ≤ 100)) && cleanB p.name && cleanB p.value

theorem fair_any (n v : ByteArray) (w : World) (hn : n.size ≤ maxLen) (hv : v.size ≤ maxLen) :
    Calls Try.prog 32 #[.agg #[.string n, .string v]] w fun e w' => e = .returned (.bool (fairB ⟨n, v⟩)) ∧ Below w.heap.size w w' := by
  unfold maxLen at hn hv
  have hf : fairB ⟨n, v⟩ = (!n.toList.isEmpty && (decide (n.size ≤ 100) && decide (v.size ≤ 100)) && cleanB n && cleanB v) := rfl
  rw [hf]
  clear hf
  generalize hcn : cleanB n = cn
  generalize hcv : cleanB v = cv
  have Hcn := Lib.hid hcn
  have Hcv := Lib.hid hcv
  clear hcn hcv
  go_enter Try.func32, Try.ntmps32
  go_wp2_with (first | (go_at_call 36; refine (clean_any _ _).mono ?_; rintro e w' ⟨rfl, rfl⟩; first | rw [Hcn.out] | rw [Hcv.out]))
  all_goals go_ret
  all_goals refine ⟨ret_bool ?_, (Below.refl _ _).alloc (Nat.le_refl _) _⟩
  all_goals try have q1 : n.size ≤ 100 := by omega
  all_goals try have q2 : v.size ≤ 100 := by omega
  all_goals simp_all
  all_goals omega

theorem wrong_any (n v : ByteArray) (w : World) (hn : n.size ≤ maxLen) (hv : v.size ≤ maxLen) :
    Calls Try.prog 31 #[.agg #[.string n, .string v]] w fun e w' => e = .returned (.bool (!fairB ⟨n, v⟩)) ∧ Below w.heap.size w w' := by
  go_enter Try.func31, Try.ntmps31
  go_wp2_with (first | (go_at_call 32; refine (fair_any n v _ hn hv).mono ?_; rintro e w1 ⟨rfl, hb1⟩))
  go_ret
  exact ⟨rfl, ((Below.refl _ _).alloc (Nat.le_refl _) _).trans (hb1.mono (by simp))⟩

/-- The answer of IndexFunc: from 0 on just if one is not fair. -/
def FoundR (xs : List PairL) (w : World) (e : Ending) (w' : World) : Prop :=
  ∃ n : Int, e = .returned (.int .i64 n) ∧ (decide (0 ≤ n) = xs.any fun x => !fairB x) ∧ Below w.heap.size w w'

theorem indexFunc_any (p : Option Addr) (xs : List PairL) (c : Nat) (w : World) (B : Nat) (hB : B ≤ w.heap.size) (hx : SliceR 2 PairR B w [.slice p xs.length c] xs) :
    Calls Try.prog 35 #[.slice p xs.length c, .func (.func 31) #[] #[]] w (FoundR xs w) := by
  have hc : xs.length ≤ c ∧ c ≤ maxLen := by
    obtain ⟨p', c', h1, h2, h3, _⟩ := hx
    simp at h1
    obtain ⟨rfl, rfl⟩ := h1
    exact ⟨h2, h3⟩
  have Hx := Lib.hid hx
  clear hx
  obtain ⟨hl, hm⟩ := hc
  unfold maxLen at hm
  go_enter Try.func35, Try.ntmps35
  go_wp2
  go_loopw [5, 8] (fun _ i wr => ∃ k : Nat, k ≤ xs.length ∧ i = .int .i64 k ∧ (∀ j x, j < k → xs[j]? = some x → fairB x = true) ∧ Below w.heap.size w wr) (fun _ i _ => xs.length - (intOf i).toNat)
  case atStart => exact ⟨0, Nat.zero_le _, rfl, fun j x h => by omega, Below.refl _ _⟩
  case round =>
    obtain ⟨k, hk, rfl, hall, hbw⟩ := hrel
    have Hall := Lib.hid hall
    have Hbw := Lib.hid hbw
    have hsz := hbw.size
    clear hall hbw
    by_cases hlt : k < xs.length
    · obtain ⟨p', c', h1, _, _, h4⟩ := SliceR.stays PairR.stays B w _ _ _ Hx.out (Hbw.out.mono hB)
      simp only [List.cons.injEq, Value.slice.injEq, and_true] at h1
      obtain ⟨rfl, _, rfl⟩ := h1
      obtain ⟨b, o, es, rfl, hbB, hel, hcell, rfl, hn1, hv1⟩ := h4 k xs[k] (List.getElem?_eq_getElem hlt)
      have c0 := hcell 0 _ rfl
      have c1 := hcell 1 _ rfl
      rw [Nat.add_zero] at c0
      clear hcell h4
      go_wp2_with (first | (go_at_call 31; refine (wrong_any _ _ _ hn1 hv1).mono ?_; rintro e w1 ⟨rfl, hb1⟩))
      · go_ret
        have hnx : (!fairB ⟨xs[k].name, xs[k].value⟩) = true := by assumption
        have hfx : fairB xs[k] = false := by simpa using hnx
        refine ⟨_, rfl, ?_, Hbw.out.trans (hb1.mono hsz)⟩
        rw [decide_eq_true (by omega)]
        symm
        rw [List.any_eq_true]
        exact ⟨xs[k], List.getElem_mem hlt, by rw [hfx]; rfl⟩
      · have hnx : (!fairB ⟨xs[k].name, xs[k].value⟩) = false := by assumption
        have hfx : fairB xs[k] = true := by simpa using hnx
        have Hfx := Lib.hid hfx
        clear hfx hnx
        go_roundw
        case rel => exact ⟨k + 1, by omega, by go_num, fun j x hj hjx => by
          by_cases e : j = k
          · subst e
            rw [List.getElem?_eq_getElem hlt] at hjx
            cases hjx
            exact Hfx.out
          · exact Hall.out j x (by omega) hjx, Hbw.out.trans (hb1.mono hsz)⟩
        case measure => simp [intOf]; omega
    · go_wp2
      go_ret
      refine ⟨_, rfl, ?_, Hbw.out⟩
      rw [decide_eq_false (by omega)]
      symm
      rw [List.any_eq_false]
      intro x hx
      obtain ⟨j, hj, rfl⟩ := List.getElem_of_mem hx
      rw [Hall.out j _ (by omega) (List.getElem?_eq_getElem hj)]
      decide

theorem containsFunc_any (p : Option Addr) (xs : List PairL) (c : Nat) (w : World) (B : Nat) (hB : B ≤ w.heap.size) (hx : SliceR 2 PairR B w [.slice p xs.length c] xs) :
    Calls Try.prog 30 #[.slice p xs.length c, .func (.func 31) #[] #[]] w fun e w' => e = .returned (.bool (xs.any fun x => !fairB x)) ∧ Below w.heap.size w w' := by
  have Hx := Lib.hid hx
  clear hx
  go_enter Try.func30, Try.ntmps30
  go_wp2_with (first | (go_at_call 35; refine (indexFunc_any _ _ _ _ B hB Hx.out).mono ?_; rintro e w1 ⟨n, rfl, hn, hb1⟩; have Hn := Lib.hid hn; clear hn))
  go_ret
  refine ⟨ret_bool ?_, hb1⟩
  exact Hn.out

end Go.Proofs.Ytbgdjgfkpllhlaa
