/-
  The contracts of package limit (layer 35), digits.Clean and of remudaref35, remudaref02.Clean.
-/
import Derived.Test.YtldjfmddjbdciaaRead
import Derived.Test.YtldjfmddjbdciaaIndexByte
import Derived.BigQuiet
import Derived.Deep.QuietTactic
namespace Go.Proofs.Ytldjfmddjbdciaa
open Go.RowKit

/-- No byte 0. -/
def cleanB (s : ByteArray) : Bool := decide ((0 : UInt8) ∉ s.data.toList)

theorem clean_any (s : ByteArray) (w : World) :
    Calls Try.prog 87 #[.string s] w fun e w' => e = .returned (.bool (cleanB s)) ∧ w = w' := by
  have h := indexByte_neg s.data.toList 0
  have h2 : decide (Lib.indexByte s.data.toList 0 < 0) = cleanB s := by
    unfold cleanB; exact decide_eq_decide.2 h
  have H2 := Lib.hid h2
  clear h h2
  go_enter Try.func87, Try.ntmps87
  go_wp2_with (first | (go_at_call 104; refine (stringsIndexByte _ _ _).mono ?_; rintro e w' ⟨rfl, rfl⟩))
  go_ret
  rw [H2.out]
  exact ⟨rfl, rfl⟩

theorem cleanB_data (s : ByteArray) (h : ∀ j, j < s.size → s.data.toList.getD j 0 ≠ 0) : cleanB s = true := by
  unfold cleanB
  rw [decide_eq_true_eq]
  intro hm
  obtain ⟨j, hj, e⟩ := List.getElem_of_mem hm
  have hj' : j < s.size := by simpa using hj
  refine h j hj' ?_
  simp only [List.getD, List.getElem?_eq_getElem hj, Option.getD_some, e]

theorem cleanR_any (s : ByteArray) (w : World) (hs : s.size ≤ maxLen) :
    Calls Try.prog 61 #[.string s] w fun e w' => e = .returned (.bool (cleanB s)) ∧ w = w' := by
  unfold maxLen at hs
  go_enter Try.func61, Try.ntmps61
  go_wp2
  go_loop [3] (fun i => ∃ k : Nat, k ≤ s.size ∧ i = .int .i64 k ∧ ∀ j, j < k → s.data.toList.getD j 0 ≠ 0) (fun i => s.size - (intOf i).toNat)
  case atStart => exact ⟨0, Nat.zero_le _, rfl, fun j h => by omega⟩
  case round =>
    obtain ⟨k, hk, rfl, hall⟩ := hrel
    have Hall := Lib.hid hall
    clear hall
    by_cases hlt : k < s.size
    · have hg : s[k] = s.data.toList.getD k 0 := by
        have hl : k < s.data.toList.length := by simpa using hlt
        simp only [List.getD, List.getElem?_eq_getElem hl, Option.getD_some]
        rfl
      have Hg := Lib.hid hg
      clear hg
      by_cases h0 : s[k].toNat = 0
      · have hb : ((s[k].toNat : Int) == 0) = true := by simp [h0]
        have hc : cleanB s = false := by
          unfold cleanB
          rw [decide_eq_false_iff_not, Decidable.not_not]
          have hl : k < s.data.toList.length := by simpa using hlt
          have : s.data.toList[k] = 0 := by
            have e1 : s.data.toList[k] = s[k] := rfl
            rw [e1]
            exact UInt8.toNat_inj.1 h0
          rw [← this]
          exact List.getElem_mem hl
        have Hc := Lib.hid hc
        clear hc h0
        go_wp2
        go_ret
        rw [Hc.out]
        exact ⟨rfl, rfl⟩
      · have hb : ((s[k].toNat : Int) == 0) = false := by simp; omega
        have hne : s.data.toList.getD k 0 ≠ 0 := by rw [← Hg.out]; intro e; exact h0 (by rw [e]; rfl)
        have Hne := Lib.hid hne
        clear h0 hne
        go_wp2
        go_round
        case rel => exact ⟨k + 1, by omega, by go_num, fun j hj => by
          by_cases e : j = k
          · rw [e]; exact Hne.out
          · exact Hall.out j (by omega)⟩
        case measure => simp [intOf]; omega
    · go_wp2
      go_ret
      rw [cleanB_data s (fun j hj => Hall.out j (by omega))]
      exact ⟨rfl, rfl⟩

end Go.Proofs.Ytldjfmddjbdciaa
