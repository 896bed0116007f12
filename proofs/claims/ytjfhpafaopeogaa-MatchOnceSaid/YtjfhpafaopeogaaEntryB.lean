/-
  The contracts of Takes, Ends, Fails and Kind, of package entry and of remudaref20.
-/
import Derived.Test.YtjfhpafaopeogaaEntryA
namespace Go.Proofs.Ytjfhpafaopeogaa
open Go.RowKit

def takesB (k c : Int) : Bool :=
  !(rowT k).1.toList.isEmpty && ((c == 78 || c == 83) || if c = 69 then decide (k ≠ 8) else hasB (rowT k).1 c)
def endsB (k c : Int) : Bool := hasB (rowT k).2 c
def failsB (k c : Int) : Bool := c == 69 && decide (k ≠ 9) && takesB k c

theorem rowT_size (k : Int) : (rowT k).1.size ≤ maxLen ∧ (rowT k).2.size ≤ maxLen := by
  rcases kind_cases k with rfl | rfl | rfl | rfl | rfl | rfl | rfl | rfl | rfl | hk
  case inr.inr.inr.inr.inr.inr.inr.inr.inr => rw [rowT_none hk]; decide
  all_goals exact ⟨by decide, by decide⟩

theorem rowT_E (k : Int) : hasB (rowT k).1 69 = false := by
  rcases kind_cases k with rfl | rfl | rfl | rfl | rfl | rfl | rfl | rfl | rfl | hk
  case inr.inr.inr.inr.inr.inr.inr.inr.inr => rw [rowT_none hk]; decide
  all_goals decide

set_option maxHeartbeats 1000000 in
theorem takes_any (k c : Int) (w : World) :
    Calls Try.prog 70 #[.int .i64 k, .int .u8 c] w fun e w' => e = .returned (.bool (takesB k c)) ∧ Below w.heap.size w w' := by
  have hT : takesB k c = (!(rowT k).1.toList.isEmpty && ((c == 78 || c == 83) || if c = 69 then decide (k ≠ 8) else hasB (rowT k).1 c)) := rfl
  generalize takesB k c = T at hT
  generalize hr : rowT k = r at hT
  have Hr := Lib.hid hr
  clear hr
  generalize hb : hasB r.1 c = b at hT
  have Hb := Lib.hid hb
  have HT := Lib.hid hT
  clear hb hT
  by_cases h0 : r.1.toList = []
  · have h0' : r.1.toList.isEmpty = true := by rw [h0]; rfl
    have H0 := Lib.hid h0
    clear h0
    go_enter Try.func70, Try.ntmps70
    go_wp2_with (first | (go_at_call 106; refine (rowOf_any _ _).mono ?_; rintro e w1 ⟨rfl, hb1⟩; rw [Hr.out]))
    go_ret
    refine ⟨ret_bool ?_, hb1.alloc hb1.size _⟩
    rw [HT.out]; simp [h0']
  · have h0' : r.1.toList.isEmpty = false := by
      cases h : r.1.toList with
      | nil => exact absurd h h0
      | cons => rfl
    by_cases h1 : c = 78
    · subst h1
      go_enter Try.func70, Try.ntmps70
      go_wp2_with (first | (go_at_call 106; refine (rowOf_any _ _).mono ?_; rintro e w1 ⟨rfl, hb1⟩; rw [Hr.out]))
      go_ret
      refine ⟨ret_bool ?_, hb1.alloc hb1.size _⟩
      rw [HT.out]; simp [h0']
    · by_cases h2 : c = 83
      · subst h2
        go_enter Try.func70, Try.ntmps70
        go_wp2_with (first | (go_at_call 106; refine (rowOf_any _ _).mono ?_; rintro e w1 ⟨rfl, hb1⟩; rw [Hr.out]))
        go_ret
        refine ⟨ret_bool ?_, hb1.alloc hb1.size _⟩
        rw [HT.out]; simp [h0']
      · by_cases h3 : c = 69
        · subst h3
          go_enter Try.func70, Try.ntmps70
          go_wp2_with (first | (go_at_call 106; refine (rowOf_any _ _).mono ?_; rintro e w1 ⟨rfl, hb1⟩; rw [Hr.out]))
          go_ret
          refine ⟨ret_bool ?_, hb1.alloc hb1.size _⟩
          rw [HT.out, Bool.eq_iff_iff]; simp [h0']
        · go_enter Try.func70, Try.ntmps70
          go_wp2_with (first | (go_at_call 106; refine (rowOf_any _ _).mono ?_; rintro e w1 ⟨rfl, hb1⟩; rw [Hr.out]) | (go_at_call 107; refine (has_any _ _ _).mono ?_; rintro e w2 ⟨rfl, rfl⟩; rw [Hb.out]))
          go_ret
          refine ⟨ret_bool ?_, hb1.alloc hb1.size _⟩
          rw [HT.out]; simp [h0', h1, h2, h3]

theorem ends_any (k c : Int) (w : World) :
    Calls Try.prog 71 #[.int .i64 k, .int .u8 c] w fun e w' => e = .returned (.bool (endsB k c)) ∧ Below w.heap.size w w' := by
  have hfld : ∀ (a b : ByteArray) (w : World), (Instr.field 167 (.agg #[.string a, .string b]) 1).run Try.prog w = .ok (.string b) w := fun _ _ _ => by kernel_rfl
  go_enter Try.func71, Try.ntmps71
  go_wp2_with (first | (go_at_call 106; refine (rowOf_any _ _).mono ?_; rintro e w1 ⟨rfl, hb1⟩) | (go_at_call 107; refine (has_any _ _ _).mono ?_; rintro e w2 ⟨rfl, rfl⟩))
  go_ret
  exact ⟨rfl, hb1⟩

theorem endsR_any (k c : Int) (w : World) (h0 : 0 ≤ c) (h1 : c < 256) :
    Calls Try.prog 78 #[.int .i64 k, .int .u8 c] w fun e w' => e = .returned (.bool (endsB k c)) ∧ w = w' := by
  go_enter Try.func78, Try.ntmps78
  go_wp2_with (first | (go_at_call 86; refine (own_any _ _).mono ?_; rintro e w1 ⟨rfl, rfl⟩) | (go_at_call 87; refine (in20_any _ _ _ (rowT_size _).2 h0 h1).mono ?_; rintro e w2 ⟨rfl, rfl⟩))
  go_ret
  exact ⟨rfl, rfl⟩

theorem fails_any (k c : Int) (w : World) :
    Calls Try.prog 72 #[.int .i64 k, .int .u8 c] w fun e w' => e = .returned (.bool (failsB k c)) ∧ Below w.heap.size w w' := by
  have hF : failsB k c = (c == 69 && decide (k ≠ 9) && takesB k c) := rfl
  generalize failsB k c = F at hF
  generalize hb : takesB k c = b at hF
  have Hb := Lib.hid hb
  have HF := Lib.hid hF
  clear hb hF
  by_cases h1 : c = 69
  · subst h1
    by_cases h2 : k = 9
    · subst h2
      go_enter Try.func72, Try.ntmps72
      go_wp2
      go_ret
      exact ⟨ret_bool (by rw [HF.out]; simp), Below.refl _ _⟩
    · go_enter Try.func72, Try.ntmps72
      go_wp2_with (first | (go_at_call 70; refine (takes_any _ _ _).mono ?_; rintro e w1 ⟨rfl, hb1⟩; rw [Hb.out]))
      go_ret
      exact ⟨ret_bool (by rw [HF.out]; simp [h2]), hb1⟩
  · go_enter Try.func72, Try.ntmps72
    go_wp2
    go_ret
    exact ⟨ret_bool (by rw [HF.out]; simp [h1]), Below.refl _ _⟩

set_option maxHeartbeats 1000000 in
theorem takesR_any (k c : Int) (w : World) (hc0 : 0 ≤ c) (hc1 : c < 256) :
    Calls Try.prog 45 #[.int .i64 k, .int .u8 c] w fun e w' => e = .returned (.bool (takesB k c)) ∧ w = w' := by
  have hE := rowT_E k
  have hsz := (rowT_size k).1
  have hT : takesB k c = (!(rowT k).1.toList.isEmpty && ((c == 78 || c == 83) || if c = 69 then decide (k ≠ 8) else hasB (rowT k).1 c)) := rfl
  generalize takesB k c = T at hT
  generalize hr : rowT k = r at hE hsz hT
  have Hr := Lib.hid hr
  clear hr
  generalize hb : hasB r.1 c = b at hT
  have HT := Lib.hid hT
  have Hb := Lib.hid hb
  have HE := Lib.hid hE
  have Hsz := Lib.hid hsz
  clear hb hE hsz hT
  by_cases h0 : r.1.toList = []
  · have h0' : r.1.toList.isEmpty = true := by rw [h0]; rfl
    have H0 := Lib.hid h0
    clear h0
    go_enter Try.func45, Try.ntmps45
    go_wp2_with (first | (go_at_call 86; refine (own_any _ _).mono ?_; rintro e w1 ⟨rfl, rfl⟩; rw [Hr.out]))
    go_ret
    refine ⟨ret_bool ?_, rfl⟩
    rw [HT.out]; simp [h0']
  · have h0' : r.1.toList.isEmpty = false := by
      cases h : r.1.toList with
      | nil => exact absurd h h0
      | cons => rfl
    by_cases h3 : c = 69
    · subst h3
      have hbf : b = false := by rw [← Hb.out]; exact HE.out
      subst hbf
      by_cases h8 : k = 8
      · subst h8
        go_enter Try.func45, Try.ntmps45
        go_wp2_with (first | (go_at_call 86; refine (own_any _ _).mono ?_; rintro e w1 ⟨rfl, rfl⟩; rw [Hr.out]) | (go_at_call 87; refine (in20_any _ _ _ Hsz.out hc0 hc1).mono ?_; rintro e w2 ⟨rfl, rfl⟩; rw [Hb.out]))
        go_ret
        refine ⟨ret_bool ?_, rfl⟩
        rw [HT.out]; simp [h0']
      · go_enter Try.func45, Try.ntmps45
        go_wp2_with (first | (go_at_call 86; refine (own_any _ _).mono ?_; rintro e w1 ⟨rfl, rfl⟩; rw [Hr.out]) | (go_at_call 87; refine (in20_any _ _ _ Hsz.out hc0 hc1).mono ?_; rintro e w2 ⟨rfl, rfl⟩; rw [Hb.out]))
        go_ret
        refine ⟨ret_bool ?_, rfl⟩
        rw [HT.out]; simp [h0', h8]
    · cases b
      all_goals
        go_enter Try.func45, Try.ntmps45
        go_wp2_with (first | (go_at_call 86; refine (own_any _ _).mono ?_; rintro e w1 ⟨rfl, rfl⟩; rw [Hr.out]) | (go_at_call 87; refine (in20_any _ _ _ Hsz.out hc0 hc1).mono ?_; rintro e w2 ⟨rfl, rfl⟩; rw [Hb.out]))
        all_goals go_ret
        all_goals refine ⟨ret_bool ?_, rfl⟩
        all_goals rw [HT.out]
        all_goals simp_all

theorem failsR_any (k c : Int) (w : World) (hc0 : 0 ≤ c) (hc1 : c < 256) :
    Calls Try.prog 33 #[.int .i64 k, .int .u8 c] w fun e w' => e = .returned (.bool (failsB k c)) ∧ w = w' := by
  have hF : failsB k c = (c == 69 && decide (k ≠ 9) && takesB k c) := rfl
  generalize failsB k c = F at hF
  generalize hb : takesB k c = b at hF
  have Hb := Lib.hid hb
  have HF := Lib.hid hF
  clear hb hF
  by_cases h1 : c = 69
  · subst h1
    cases b
    all_goals
      go_enter Try.func33, Try.ntmps33
      go_wp2_with (first | (go_at_call 45; refine (takesR_any _ _ _ hc0 hc1).mono ?_; rintro e w1 ⟨rfl, rfl⟩; rw [Hb.out]))
      all_goals go_ret
      all_goals refine ⟨ret_bool ?_, rfl⟩
      all_goals rw [HF.out, Bool.eq_iff_iff]; simp
  · go_enter Try.func33, Try.ntmps33
    go_wp2
    go_ret
    exact ⟨ret_bool (by rw [HF.out]; simp [h1]), rfl⟩

end Go.Proofs.Ytjfhpafaopeogaa
