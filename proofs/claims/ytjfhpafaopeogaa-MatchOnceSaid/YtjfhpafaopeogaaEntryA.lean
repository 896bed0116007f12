/-
  The contracts of package entry (layer 20) and of remudaref20: which replies a kind takes, and which end it.
-/
import Derived.Test.YtjfhpafaopeogaaRead
import Derived.Test.YtjfhpafaopeogaaIndexByte
namespace Go.Proofs.Ytjfhpafaopeogaa
open Go.RowKit

/-- The replies that a kind takes, and those that end it. -/
def rowT (k : Int) : ByteArray × ByteArray :=
  if k = 1 then (⟨#[82, 83, 75, 90]⟩, ⟨#[90]⟩)
  else if k = 2 then (⟨#[49]⟩, ⟨#[49]⟩)
  else if k = 3 then (⟨#[50]⟩, ⟨#[50]⟩)
  else if k = 4 then (⟨#[116, 84, 110]⟩, ⟨#[84, 110]⟩)
  else if k = 5 then (⟨#[84, 110]⟩, ⟨#[84, 110]⟩)
  else if k = 6 then (⟨#[68, 67, 115, 73]⟩, ⟨#[67, 115, 73]⟩)
  else if k = 7 then (⟨#[51]⟩, ⟨#[51]⟩)
  else if k = 8 then (⟨#[90]⟩, ⟨#[90]⟩)
  else if k = 9 then (⟨#[84, 68, 67, 73, 90]⟩, ⟨#[90]⟩)
  else (⟨#[]⟩, ⟨#[]⟩)

theorem kind_cases (k : Int) : k = 1 ∨ k = 2 ∨ k = 3 ∨ k = 4 ∨ k = 5 ∨ k = 6 ∨ k = 7 ∨ k = 8 ∨ k = 9 ∨ (k ≠ 1 ∧ k ≠ 2 ∧ k ≠ 3 ∧ k ≠ 4 ∧ k ≠ 5 ∧ k ≠ 6 ∧ k ≠ 7 ∧ k ≠ 8 ∧ k ≠ 9) := by omega

theorem rowT_none {k : Int} (h : k ≠ 1 ∧ k ≠ 2 ∧ k ≠ 3 ∧ k ≠ 4 ∧ k ≠ 5 ∧ k ≠ 6 ∧ k ≠ 7 ∧ k ≠ 8 ∧ k ≠ 9) : rowT k = (⟨#[]⟩, ⟨#[]⟩) := by
  unfold rowT; simp [h]

set_option maxHeartbeats 2000000 in
theorem rowOf_any (k : Int) (w : World) :
    Calls Try.prog 106 #[.int .i64 k] w fun e w' => e = .returned (.agg #[.string (rowT k).1, .string (rowT k).2]) ∧ Below w.heap.size w w' := by
  rcases kind_cases k with rfl | rfl | rfl | rfl | rfl | rfl | rfl | rfl | rfl | hk
  case inr.inr.inr.inr.inr.inr.inr.inr.inr =>
    rw [rowT_none hk]
    obtain ⟨h1, h2, h3, h4, h5, h6, h7, h8, h9⟩ := hk
    go_enter Try.func106, Try.ntmps106
    go_wp2
    refine bodyPost_ret (v := .agg #[.string ⟨#[]⟩, .string ⟨#[]⟩]) (by simp [results, Try.results106, go_sem]) rfl ⟨rfl, ?_⟩
    exact (Below.refl _ _).alloc (Nat.le_refl _) _
  all_goals
    simp only [rowT]
    go_enter Try.func106, Try.ntmps106
    go_wp2
    refine bodyPost_ret (by simp [results, Try.results106, go_sem]) rfl ⟨rfl, ?_⟩
    exact (Below.refl _ _).alloc (Nat.le_refl _) _

set_option maxHeartbeats 2000000 in
theorem own_any (k : Int) (w : World) :
    Calls Try.prog 86 #[.int .i64 k] w fun e w' => e = .returned (.tuple #[.string (rowT k).1, .string (rowT k).2]) ∧ w = w' := by
  rcases kind_cases k with rfl | rfl | rfl | rfl | rfl | rfl | rfl | rfl | rfl | hk
  case inr.inr.inr.inr.inr.inr.inr.inr.inr =>
    rw [rowT_none hk]
    obtain ⟨h1, h2, h3, h4, h5, h6, h7, h8, h9⟩ := hk
    go_enter Try.func86, Try.ntmps86
    go_wp2
    go_ret2
    exact ⟨rfl, rfl⟩
  all_goals
    simp only [rowT]
    go_enter Try.func86, Try.ntmps86
    go_wp2
    go_ret2
    exact ⟨rfl, rfl⟩

/-- Whether a text has a byte. -/
def hasB (s : ByteArray) (c : Int) : Bool := decide (c.toNat.toUInt8 ∈ s.data.toList)

theorem has_any (s : ByteArray) (c : Int) (w : World) :
    Calls Try.prog 107 #[.string s, .int .u8 c] w fun e w' => e = .returned (.bool (hasB s c)) ∧ w = w' := by
  have h := indexByte_neg s.data.toList c.toNat.toUInt8
  have hd : decide (0 ≤ Lib.indexByte s.data.toList c.toNat.toUInt8) = hasB s c := by
    unfold hasB
    apply decide_eq_decide.2
    constructor
    · intro h0
      by_cases hm : c.toNat.toUInt8 ∈ s.data.toList
      · exact hm
      · exact absurd (h.2 hm) (by omega)
    · intro hm
      by_cases h0 : Lib.indexByte s.data.toList c.toNat.toUInt8 < 0
      · exact absurd hm (h.1 h0)
      · omega
  have Hd := Lib.hid hd
  clear h hd
  go_enter Try.func107, Try.ntmps107
  go_wp2_with (first | (go_at_call 132; refine (stringsIndexByte _ _ _).mono ?_; rintro e w' ⟨rfl, rfl⟩; generalize Lib.indexByte s.data.toList c.toNat.toUInt8 = x at Hd))
  go_ret
  refine ⟨ret_bool ?_, rfl⟩
  exact Hd.out

theorem in20_any (s : ByteArray) (c : Int) (w : World) (hs : s.size ≤ maxLen) (h0 : 0 ≤ c) (h1 : c < 256) :
    Calls Try.prog 87 #[.string s, .int .u8 c] w fun e w' => e = .returned (.bool (hasB s c)) ∧ w = w' := by
  unfold maxLen at hs
  have hcc : ((c.toNat.toUInt8.toNat : Nat) : Int) = c := byte_ofNat ⟨h0, h1⟩
  have Hcc := Lib.hid hcc
  clear hcc
  go_enter Try.func87, Try.ntmps87
  go_wp2
  go_loop [5] (fun i => ∃ k : Nat, k ≤ s.size ∧ i = .int .i64 k ∧ ∀ j, j < k → s.data.toList.getD j 0 ≠ c.toNat.toUInt8) (fun i => s.size - (intOf i).toNat)
  case atStart => exact ⟨0, Nat.zero_le _, rfl, fun j h => by omega⟩
  case round =>
    obtain ⟨k, hk, rfl, hall⟩ := hrel
    have Hall := Lib.hid hall
    clear hall
    by_cases hlt : k < s.size
    · have hl : k < s.data.toList.length := by simpa using hlt
      have hg : s[k] = s.data.toList.getD k 0 := by
        simp only [List.getD, List.getElem?_eq_getElem hl, Option.getD_some]
        rfl
      have Hg := Lib.hid hg
      clear hg
      by_cases he : s[k] = c.toNat.toUInt8
      · have hb : ((s[k].toNat : Int) == c) = true := by rw [he, beq_iff_eq]; exact Hcc.out
        have hc : hasB s c = true := by
          unfold hasB
          rw [decide_eq_true_eq, ← he]
          exact List.getElem_mem hl
        have Hc := Lib.hid hc
        clear hc he
        go_wp2
        go_ret
        rw [Hc.out]
        exact ⟨rfl, rfl⟩
      · have hb : ((s[k].toNat : Int) == c) = false := by
          rw [beq_eq_false_iff_ne]
          intro e
          apply he
          apply UInt8.toNat_inj.1
          have := Hcc.out
          omega
        have hne : s.data.toList.getD k 0 ≠ c.toNat.toUInt8 := by rw [← Hg.out]; exact he
        have Hne := Lib.hid hne
        clear he hne
        go_wp2
        go_round
        case rel => exact ⟨k + 1, by omega, by go_num, fun j hj => by
          by_cases e : j = k
          · rw [e]; exact Hne.out
          · exact Hall.out j (by omega)⟩
        case measure => simp [intOf]; omega
    · have hc : hasB s c = false := by
        unfold hasB
        rw [decide_eq_false_iff_not]
        intro hm
        obtain ⟨j, hj, e⟩ := List.getElem_of_mem hm
        have hj' : j < s.size := by simpa using hj
        refine Hall.out j (by omega) ?_
        simp only [List.getD, List.getElem?_eq_getElem hj, Option.getD_some, e]
      have Hc := Lib.hid hc
      clear hc
      go_wp2
      go_ret
      rw [Hc.out]
      exact ⟨rfl, rfl⟩

end Go.Proofs.Ytjfhpafaopeogaa
