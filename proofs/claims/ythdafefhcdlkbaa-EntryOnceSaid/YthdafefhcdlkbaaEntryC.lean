/-
  The contracts of Kind, awake, and the walks of the statements of layer 20 (entry).
-/
import Derived.Test.YthdafefhcdlkbaaEntryB
import Derived.Deep.RegionHeld3
namespace Go.Proofs.Ythdafefhcdlkbaa
open Go.RowKit

def kindV (k h : Int) : Int :=
  if k = 80 then 2 else if k = 66 then 3
  else if k = 68 then (if h = 83 then 4 else if h = 80 then 5 else 0)
  else if k = 69 then 6 else if k = 67 then 7 else if k = 83 then 8 else if k = 81 then 9 else 0

theorem described_any (h : Int) (w : World) :
    Calls Try.prog 50 #[.int .u8 h] w fun e w' => e = .returned (.int .i64 (kindV 68 h)) ∧ w = w' := by
  by_cases h1 : h = 83
  · subst h1
    go_enter Try.func50, Try.ntmps50
    go_wp2
    go_ret
    exact ⟨rfl, rfl⟩
  · by_cases h2 : h = 80
    · subst h2
      go_enter Try.func50, Try.ntmps50
      go_wp2
      go_ret
      exact ⟨rfl, rfl⟩
    · have hv : kindV 68 h = 0 := by simp [kindV, h1, h2]
      have HV := Lib.hid hv
      clear hv
      go_enter Try.func50, Try.ntmps50
      go_wp2
      go_ret
      exact ⟨ret_int HV.out.symm, rfl⟩

theorem kindV_cases (k h : Int) : k = 80 ∨ k = 66 ∨ k = 68 ∨ k = 69 ∨ k = 67 ∨ k = 83 ∨ k = 81 ∨ (k ≠ 80 ∧ k ≠ 66 ∧ k ≠ 68 ∧ k ≠ 69 ∧ k ≠ 67 ∧ k ≠ 83 ∧ k ≠ 81 ∧ kindV k h = 0) := by
  by_cases h0 : k = 80 ∨ k = 66 ∨ k = 68 ∨ k = 69 ∨ k = 67 ∨ k = 83 ∨ k = 81
  · omega
  · have : k ≠ 80 ∧ k ≠ 66 ∧ k ≠ 68 ∧ k ≠ 69 ∧ k ≠ 67 ∧ k ≠ 83 ∧ k ≠ 81 := by omega
    have hv : kindV k h = 0 := by simp [kindV, this]
    exact .inr (.inr (.inr (.inr (.inr (.inr (.inr ⟨this.1, this.2.1, this.2.2.1, this.2.2.2.1, this.2.2.2.2.1, this.2.2.2.2.2.1, this.2.2.2.2.2.2, hv⟩))))))

set_option maxHeartbeats 2000000 in
theorem kind_any (k h : Int) (c2 c3 c4 c5 c6 c7 c8 c9 : Value) (w : World) :
    Calls Try.prog 27 #[.agg #[.int .u8 k, .int .u8 h, c2, c3, c4, c5, c6, c7, c8, c9]] w fun e w' => e = .returned (.int .i64 (kindV k h)) ∧ Below w.heap.size w w' := by
  rcases kindV_cases k h with rfl | rfl | rfl | rfl | rfl | rfl | rfl | ⟨h1, h2, h3, h4, h5, h6, h7, hv⟩
  case inr.inr.inr.inr.inr.inr.inr =>
    have HV := Lib.hid hv
    clear hv
    go_enter Try.func27, Try.ntmps27
    go_wp2
    go_ret
    exact ⟨ret_int HV.out.symm, (Below.refl _ _).alloc (Nat.le_refl _) _⟩
  all_goals
    go_enter Try.func27, Try.ntmps27
    go_wp2_with (first | (go_at_call 50; refine (described_any _ _).mono ?_; rintro e w2 ⟨rfl, rfl⟩))
    go_ret
    exact ⟨rfl, (Below.refl _ _).alloc (Nat.le_refl _) _⟩

theorem kindV_D (h : Int) : h = 83 ∨ h = 80 ∨ (h ≠ 83 ∧ h ≠ 80 ∧ kindV 68 h = 0) := by
  by_cases h1 : h = 83
  · exact .inl h1
  · by_cases h2 : h = 80
    · exact .inr (.inl h2)
    · exact .inr (.inr ⟨h1, h2, by simp [kindV, h1, h2]⟩)

set_option maxHeartbeats 2000000 in
theorem kindR_any (k h : Int) (c2 c3 c4 c5 c6 c7 c8 c9 : Value) (w : World) :
    Calls Try.prog 28 #[.agg #[.int .u8 k, .int .u8 h, c2, c3, c4, c5, c6, c7, c8, c9]] w fun e w' => e = .returned (.int .i64 (kindV k h)) ∧ Below w.heap.size w w' := by
  rcases kindV_cases k h with rfl | rfl | rfl | rfl | rfl | rfl | rfl | ⟨h1, h2, h3, h4, h5, h6, h7, hv⟩
  case inr.inr.inr.inr.inr.inr.inr =>
    have HV := Lib.hid hv
    clear hv
    go_enter Try.func28, Try.ntmps28
    go_wp2
    go_ret
    exact ⟨ret_int HV.out.symm, (Below.refl _ _).alloc (Nat.le_refl _) _⟩
  case inr.inr.inl =>
    rcases kindV_D h with rfl | rfl | ⟨h1, h2, hv⟩
    · go_enter Try.func28, Try.ntmps28
      go_wp2
      go_ret
      exact ⟨rfl, (Below.refl _ _).alloc (Nat.le_refl _) _⟩
    · go_enter Try.func28, Try.ntmps28
      go_wp2
      go_ret
      exact ⟨rfl, (Below.refl _ _).alloc (Nat.le_refl _) _⟩
    · have HV := Lib.hid hv
      clear hv
      go_enter Try.func28, Try.ntmps28
      go_wp2
      go_ret
      exact ⟨ret_int HV.out.symm, (Below.refl _ _).alloc (Nat.le_refl _) _⟩
  all_goals
    go_enter Try.func28, Try.ntmps28
    go_wp2
    go_ret
    exact ⟨rfl, (Below.refl _ _).alloc (Nat.le_refl _) _⟩

theorem below_trans2 {a b c : World} (h1 : Below a.heap.size a b) (h2 : Below b.heap.size b c) : Below a.heap.size a c := h1.trans (h2.mono h1.size)

set_option maxHeartbeats 2000000 in
theorem entryAwake (w : World) :
    Calls Try.prog 29 #[] w fun e w' => e = .returned (.bool true) ∧ Below w.heap.size w w' := by
  go_enter Try.func29, Try.ntmps29
  go_wp2_with fail
  refine (takes_any _ _ _).mono ?_
  rintro e w1 ⟨rfl, hb1⟩
  rw [show takesB 6 68 = true from by decide +kernel]
  have Hb1 := Lib.hid hb1
  clear hb1
  go_wp2_with fail
  refine (ends_any _ _ _).mono ?_
  rintro e w2 ⟨rfl, hb2⟩
  rw [show endsB 6 68 = false from by decide +kernel]
  have Hb2 := Lib.hid (below_trans2 Hb1.out hb2)
  clear hb2 Hb1
  go_wp2_with fail
  refine (ends_any _ _ _).mono ?_
  rintro e w3 ⟨rfl, hb3⟩
  rw [show endsB 6 67 = true from by decide +kernel]
  have Hb3 := Lib.hid (below_trans2 Hb2.out hb3)
  clear hb3 Hb2
  go_wp2_with fail
  refine (fails_any _ _ _).mono ?_
  rintro e w4 ⟨rfl, hb4⟩
  rw [show failsB 2 69 = true from by decide +kernel]
  have Hb4 := Lib.hid (below_trans2 Hb3.out hb4)
  clear hb4 Hb3
  go_wp2_with fail
  refine (fails_any _ _ _).mono ?_
  rintro e w5 ⟨rfl, hb5⟩
  rw [show failsB 9 69 = false from by decide +kernel]
  have Hb5 := Lib.hid (below_trans2 Hb4.out hb5)
  clear hb5 Hb4
  go_wp2_with fail
  refine (kind_any _ _ _ _ _ _ _ _ _ _ _).mono ?_
  rintro e w6 ⟨rfl, hb6⟩
  rw [show kindV 83 0 = 8 from by decide +kernel]
  have Hb6 := Lib.hid (below_trans2 Hb5.out hb6)
  clear hb6 Hb5
  go_wp2
  go_ret
  exact ⟨rfl, Hb6.out⟩

theorem once_plain (k c : Int) : (endsB k c && failsB k c) = false ∧ (takesB k c || (!endsB k c && !failsB k c)) = true := by
  by_cases h69 : c = 69
  · subst h69
    rcases kind_cases k with rfl | rfl | rfl | rfl | rfl | rfl | rfl | rfl | rfl | hk
    case inr.inr.inr.inr.inr.inr.inr.inr.inr => simp [endsB, failsB, takesB, rowT_none hk, hasB]
    all_goals decide +kernel
  · have hf : failsB k c = false := by simp [failsB, h69]
    rw [hf]
    refine ⟨by simp, ?_⟩
    by_cases he : endsB k c = true
    · have ht : takesB k c = true := by
        rcases kind_cases k with rfl | rfl | rfl | rfl | rfl | rfl | rfl | rfl | rfl | hk
        case inr.inr.inr.inr.inr.inr.inr.inr.inr => simp [endsB, rowT_none hk, hasB] at he
        all_goals
          simp [endsB, takesB, rowT, hasB, h69] at *
          generalize UInt8.ofNat c.toNat = u at *
          first | (rcases he with he | he | he <;> simp [he]; done) | (rcases he with he | he <;> simp [he]; done) | simp [he]
      simp [ht]
    · simp at he
      simp [he]

set_option maxHeartbeats 2000000 in
theorem entryOnce_walk (k c : Int) (w : World) :
    Calls Try.prog 7 #[.int .i64 k, .int .u8 c] w fun e w' => e = .returned (.bool true) ∧ Below w.heap.size w w' := by
  obtain ⟨h1, h2⟩ := once_plain k c
  generalize he : endsB k c = E at h1 h2
  generalize hf : failsB k c = F at h1 h2
  generalize ht : takesB k c = T at h2
  have He := Lib.hid he
  have Hf := Lib.hid hf
  have Ht := Lib.hid ht
  clear he hf ht
  cases E
  all_goals cases F
  all_goals cases T
  all_goals try (exfalso; revert h1 h2; decide)
  all_goals
    clear h1 h2
    go_enter Try.func7, Try.ntmps7
    go_wp2_with fail
    refine (ends_any _ _ _).mono ?_
    rintro e w1 ⟨rfl, hb1⟩
    rw [He.out]
    have Hb1 := Lib.hid hb1
    clear hb1
    go_wp2_with fail
    refine (fails_any _ _ _).mono ?_
    rintro e w2 ⟨rfl, hb2⟩
    rw [Hf.out]
    have Hb2 := Lib.hid (below_trans2 Hb1.out hb2)
    clear hb2 Hb1
    go_wp2_with fail
    refine (takes_any _ _ _).mono ?_
    rintro e w3 ⟨rfl, hb3⟩
    rw [Ht.out]
    have Hb3 := Lib.hid (below_trans2 Hb2.out hb3)
    clear hb3 Hb2
    go_wp2_with fail
    refine (entryAwake _).mono ?_
    rintro e w4 ⟨rfl, hb4⟩
    have Hb4 := Lib.hid (below_trans2 Hb3.out hb4)
    clear hb4 Hb3
    go_wp2
    go_ret
    exact ⟨rfl, Hb4.out⟩

/-- The first two cells of a client's message. -/
def FrontK (_B : Nat) (_w : World) (cs : List Value) (x : Int × Int) : Prop :=
  ∃ c2 c3 c4 c5 c6 c7 c8 c9, cs = [.int .u8 x.1, .int .u8 x.2, c2, c3, c4, c5, c6, c7, c8, c9]

theorem opens_frontK : Opens Try.prog 48 FrontK := by
  intro H enc w base spare held fuel cs x h
  have S : StructOf Try.prog 48 _ := ⟨Try.underlying48, by kernel_rfl, by kernel_rfl⟩
  have hl := S.len h
  match cs, hl with
  | [c0, c1, c2, c3, c4, c5, c6, c7, c8, c9], _ =>
    obtain ⟨y0, e0, h0⟩ := S.field h 0 _ rfl c0 rfl (opens_int Try.underlying5)
    obtain ⟨y1, e1, h1⟩ := S.field h 1 _ rfl c1 rfl (opens_int Try.underlying5)
    simp only [List.cons.injEq, and_true] at e0 e1
    subst e0 e1
    exact ⟨(y0, y1), _, _, _, _, _, _, _, _, rfl⟩

set_option maxHeartbeats 4000000 in
theorem entryTells_walk (k c : Int) (w0 : (Lit.int .u8 c).wf = true) (cs : Array Value) (x : Int × Int) (w : World) (h : FrontK w.heap.size w cs.toList x) :
    Calls Try.prog 6 #[.int .i64 k, .int .u8 c, .agg cs] w fun e w' => e = .returned (.bool true) ∧ Below w.heap.size w w' := by
  obtain ⟨hc0, hc1⟩ := byte_of_wf w0
  obtain ⟨fk, fh⟩ := x
  obtain ⟨c2, c3, c4, c5, c6, c7, c8, c9, hcs⟩ := h
  obtain ⟨l⟩ := cs
  simp only at hcs
  subst hcs
  go_enter Try.func6, Try.ntmps6
  go_wp2_with fail
  generalize hW : w.alloc (.cells #[.int .u8 fk, .int .u8 fh, c2, c3, c4, c5, c6, c7, c8, c9] 48) = W
  have hx : ∀ i, W.cell? ⟨w.heap.size, i, none⟩ = (#[.int .u8 fk, .int .u8 fh, c2, c3, c4, c5, c6, c7, c8, c9] : Array Value)[i]? := fun i => by rw [← hW]; exact Blk.cell (Blk.new w _ _) i
  have hb : Below w.heap.size w W := by rw [← hW]; exact (Below.refl _ _).alloc (Nat.le_refl _) _
  have hs : w.heap.size < W.heap.size := by rw [← hW]; simp
  have Hb := Lib.hid hb
  clear hW hb
  go_region_held3 (fun w' => (∀ i, w'.cell? ⟨w.heap.size, i, none⟩ = (#[.int .u8 fk, .int .u8 fh, c2, c3, c4, c5, c6, c7, c8, c9] : Array Value)[i]?) ∧ Below (w.heap.size + 1) W w')
    (first | exact ⟨hx, (Below.refl _ _).drew⟩ | exact ⟨fun i => (hb2.cell (p := ⟨w.heap.size, i, none⟩) (by have := hS.2.size; show w.heap.size < _; omega)).trans (hS.1 i), hS.2.trans (hb2.mono (by have := hS.2.size; omega))⟩ | assumption | go_keep)
    (first
      | (go_at_call 21; have hS := ‹_ ∧ Below (w.heap.size + 1) W _›; refine (takes_any _ _ _).mono ?_; rintro e w2 ⟨rfl, hb2⟩)
      | (go_at_call 22; refine (takesR_any _ _ _ hc0 hc1).mono ?_; rintro e w2 ⟨rfl, rfl⟩)
      | (go_at_call 23; have hS := ‹_ ∧ Below (w.heap.size + 1) W _›; refine (ends_any _ _ _).mono ?_; rintro e w2 ⟨rfl, hb2⟩)
      | (go_at_call 24; refine (endsR_any _ _ _ hc0 hc1).mono ?_; rintro e w2 ⟨rfl, rfl⟩)
      | (go_at_call 25; have hS := ‹_ ∧ Below (w.heap.size + 1) W _›; refine (fails_any _ _ _).mono ?_; rintro e w2 ⟨rfl, hb2⟩)
      | (go_at_call 26; refine (failsR_any _ _ _ hc0 hc1).mono ?_; rintro e w2 ⟨rfl, rfl⟩)
      | (go_at_call 27; have hS := ‹_ ∧ Below (w.heap.size + 1) W _›; refine (kind_any _ _ _ _ _ _ _ _ _ _ _).mono ?_; rintro e w2 ⟨rfl, hb2⟩)
      | (go_at_call 28; have hS := ‹_ ∧ Below (w.heap.size + 1) W _›; refine (kindR_any _ _ _ _ _ _ _ _ _ _ _).mono ?_; rintro e w2 ⟨rfl, hb2⟩)
      | (go_at_call 29; have hS := ‹_ ∧ Below (w.heap.size + 1) W _›; refine (entryAwake _).mono ?_; rintro e w2 ⟨rfl, hb2⟩))
  go_wp2
  go_ret
  refine ⟨rfl, Hb.out.trans (Below.mono (B := w.heap.size + 1) ?_ (by omega))⟩
  exact And.right (by assumption)

end Go.Proofs.Ythdafefhcdlkbaa
