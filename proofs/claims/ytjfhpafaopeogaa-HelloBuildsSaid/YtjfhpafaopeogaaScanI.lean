/-
  Both scans side by side: what each call answers, whatever the state (layer 3).
-/
import Derived.Test.YtjfhpafaopeogaaScanH
namespace Go.Proofs.Ytjfhpafaopeogaa
open Go.RowKit

def numOk (L : List UInt8) (bad : Bool) (n : Int) : Bool := !bad && sizedB n && decide (n ≤ (L.length : Int))
def numV (L : List UInt8) (bad : Bool) (n : Int) : Int := if numOk L bad n then be (L.take n.toNat) else 0
def textOk (L : List UInt8) (bad : Bool) : Bool := !bad && !(Lib.indexByte L 0 == -1)
def textV (L : List UInt8) (bad : Bool) : ByteArray := if textOk L bad then strOf (L.take (Lib.indexByte L 0).toNat) else ⟨#[]⟩
def takeOk (L : List UInt8) (bad : Bool) (n : Int) : Bool := !bad && decide (0 ≤ n) && decide (n ≤ (L.length : Int))
def takeV (L : List UInt8) (bad : Bool) (n : Int) : List UInt8 := if takeOk L bad n then L.take n.toNat else []
/-- What is left: of the scan nothing, of the document's what was. -/
def nx (ok : Bool) (D E : List UInt8) : List UInt8 := if ok then D else E

theorem sizedB_nonneg {n : Int} (h : sizedB n = true) : 0 ≤ n := by rcases sizedB_cases h with rfl | rfl | rfl <;> decide

theorem scanNum_any (sb g : Nat) (L : List UInt8) (bad : Bool) (n : Int) (w : World) (h : ScanO w sb g L bad) :
    Calls Try.prog 89 #[.pointer (some ⟨sb, 0, none⟩), .int .i64 n] w fun e w' =>
      e = .returned (.int .i64 (numV L bad n)) ∧ ScanO w' sb g (nx (numOk L bad n) (L.drop n.toNat) []) (!numOk L bad n) ∧ Touch (fun i => i = sb) w w' := by
  by_cases hok : numOk L bad n = true
  · have hv : numV L bad n = be (L.take n.toNat) := by unfold numV; rw [if_pos hok]
    rw [hv, hok]
    unfold numOk at hok
    simp only [Bool.and_eq_true, Bool.not_eq_true', decide_eq_true_eq] at hok
    obtain ⟨⟨rfl, hs⟩, hl⟩ := hok
    obtain ⟨m, rfl⟩ := Int.eq_ofNat_of_zero_le (sizedB_nonneg hs)
    exact scanNum_yes sb g L m w h hs (by omega)
  · have hok' : numOk L bad n = false := by simpa using hok
    have hv : numV L bad n = 0 := by unfold numV; rw [if_neg hok]
    rw [hv, hok']
    unfold numOk at hok'
    refine scanNum_no sb g L bad n w h ?_
    cases bad
    · cases hs : sizedB n
      · exact .inr (.inl rfl)
      · rw [hs] at hok'
        simp at hok'
        exact .inr (.inr (by omega))
    · exact .inl rfl

theorem refSNum_any (xb g : Nat) (L : List UInt8) (no : Bool) (n : Int) (w : World) (h : RefS w xb g L no) :
    Calls Try.prog 93 #[.pointer (some ⟨xb, 0, none⟩), .int .i64 n] w fun e w' =>
      e = .returned (.int .i64 (numV L no n)) ∧ RefS w' xb g (nx (numOk L no n) (L.drop n.toNat) L) (!numOk L no n) ∧ Touch (fun i => i = xb) w w' := by
  by_cases hok : numOk L no n = true
  · have hv : numV L no n = be (L.take n.toNat) := by unfold numV; rw [if_pos hok]
    rw [hv, hok]
    unfold numOk at hok
    simp only [Bool.and_eq_true, Bool.not_eq_true', decide_eq_true_eq] at hok
    obtain ⟨⟨rfl, hs⟩, hl⟩ := hok
    obtain ⟨m, rfl⟩ := Int.eq_ofNat_of_zero_le (sizedB_nonneg hs)
    exact refSNum_yes xb g L m w h hs (by omega)
  · have hok' : numOk L no n = false := by simpa using hok
    have hv : numV L no n = 0 := by unfold numV; rw [if_neg hok]
    rw [hv, hok']
    unfold numOk at hok'
    refine refSNum_no xb g L no n w h ?_
    cases no
    · cases hs : sizedB n
      · exact .inr (.inl rfl)
      · rw [hs] at hok'
        simp at hok'
        exact .inr (.inr (by omega))
    · exact .inl rfl

theorem scanText_any (sb g : Nat) (L : List UInt8) (bad : Bool) (w : World) (h : ScanO w sb g L bad) :
    Calls Try.prog 118 #[.pointer (some ⟨sb, 0, none⟩)] w fun e w' =>
      e = .returned (.string (textV L bad)) ∧ ScanO w' sb g (nx (textOk L bad) (L.drop ((Lib.indexByte L 0).toNat + 1)) []) (!textOk L bad) ∧ Touch (fun i => i = sb) w w' := by
  cases bad
  · rcases indexByte_spec L 0 with hi | ⟨k, hi, hk⟩
    · have hok : textOk L false = false := by unfold textOk; rw [hi]; rfl
      have hv : textV L false = ⟨#[]⟩ := by unfold textV; rw [hok]; rfl
      rw [hv, hok]
      exact scanText_no sb g L w h hi
    · have hok : textOk L false = true := by unfold textOk; rw [hi]; simp
      have hv : textV L false = strOf (L.take k) := by unfold textV; rw [hok, hi]; simp
      rw [hv, hok, hi]
      exact scanText_yes sb g L k w h hi hk
  · have hL : L = [] := by
      obtain ⟨p, c, _, _, _, _, _, _, h6, _⟩ := h
      exact h6 rfl
    subst hL
    refine (scanText_bad sb g [] w h).mono ?_
    rintro e w' ⟨rfl, rfl⟩
    exact ⟨rfl, h, Touch.refl _ _⟩

theorem refSText_full (xb g : Nat) (L : List UInt8) (no : Bool) (w : World) (h : RefS w xb g L no) (hL : L.length ≤ 1000000000) :
    Calls Try.prog 121 #[.pointer (some ⟨xb, 0, none⟩)] w fun e w' =>
      e = .returned (.string (textV L no)) ∧ RefS w' xb g (nx (textOk L no) (L.drop ((Lib.indexByte L 0).toNat + 1)) L) (!textOk L no) ∧ Touch (fun i => i = xb) w w' := by
  refine (refSText_any xb g L no w h hL).mono ?_
  rintro e w' ⟨hr, ht⟩
  rcases hr with ⟨rfl, k, hi, hk, rfl, hr⟩ | ⟨hn, rfl, hr⟩
  · have hok : textOk L false = true := by unfold textOk; rw [hi]; simp
    have hv : textV L false = strOf (L.take k) := by unfold textV; rw [hok, hi]; simp
    rw [hv, hok, hi]
    exact ⟨rfl, hr, ht⟩
  · have hok : textOk L no = false := by
      unfold textOk
      rcases hn with rfl | e
      · rfl
      · rw [e]; cases no <;> rfl
    have hv : textV L no = ⟨#[]⟩ := by unfold textV; rw [hok]; rfl
    rw [hv, hok]
    exact ⟨rfl, hr, ht⟩
end Go.Proofs.Ytjfhpafaopeogaa
