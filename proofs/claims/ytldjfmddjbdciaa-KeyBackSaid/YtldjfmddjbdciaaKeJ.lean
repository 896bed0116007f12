/-
  Statements as keys (layer 12): Split whole; arguments; short ones; awake.
-/
import Derived.Test.YtldjfmddjbdciaaKeI
import Derived.Test.YtldjfmddjbdciaaPackA
namespace Go.Proofs.Ytldjfmddjbdciaa
open Go.RowKit
set_option linter.unusedVariables false
set_option linter.unusedSimpArgs false

theorem split_any (k : ByteArray) (w : World) (hk : k.size ≤ 100000) : Calls Try.prog 12 #[.string k] w (SplitR (splitK k.data.toList) w) := by
  by_cases hs : shapeK k.data.toList
  · exact split_yes k w hk hs
  · exact split_no k w hk hs

theorem opensS_intV : OpensS Try.prog 3 IntU := by
  intro H enc w base spare held fuel cs x h
  obtain ⟨n, e, _⟩ := opens_int Try.underlying3 H enc w base spare held fuel cs x h
  exact ⟨n, e⟩
/-- A statement as an argument. -/
def StS : Rd StV := fun S w cs s => ∃ p c, cs = [.string s.text, .slice p s.oids.length c] ∧ SliceS 1 IntU S w [.slice p s.oids.length c] s.oids
theorem opensS_st : OpensS Try.prog 24 StS := by
  intro H enc w base spare held fuel cs x h
  have S : StructOf Try.prog 24 _ := ⟨Try.underlying24, by kernel_rfl, by kernel_rfl⟩
  have hl := S.len h
  match cs, hl with
  | [c0, c1], _ =>
    obtain ⟨y0, e0, _⟩ := S.field h 0 _ rfl c0 rfl (opens_str Try.underlying9)
    obtain ⟨y1, h1⟩ := S.field h 1 _ rfl c1 rfl (opensS_slice (n := 1) Try.underlying22 (by kernel_rfl) (by omega) opensS_intV)
    obtain ⟨p, c, rfl⟩ := SliceS.shape h1
    simp only [List.cons.injEq, and_true] at e0
    subst e0
    exact ⟨⟨y0, y1⟩, p, c, rfl, h1⟩

def fewK (s : StV) : Bool := decide ((s.text.size : Int) ≤ 1000) && decide ((s.oids.length : Int) ≤ 50)
theorem fewK_parts {s : StV} (h : fewK s = true) : s.text.size ≤ 1000 ∧ s.oids.length ≤ 50 := by
  unfold fewK at h
  simp only [Bool.and_eq_true, decide_eq_true_eq] at h
  omega
theorem fewK_any (s : StV) (p : Option Addr) (c : Nat) (w : World) : Calls Try.prog 10 #[stArg s p c] w fun e w' => e = .returned (.bool (fewK s)) ∧ Below w.heap.size w w' := by
  have HB := Lib.hid ((Below.refl w.heap.size w).alloc (Nat.le_refl _) (.cells #[.string s.text, .slice p s.oids.length c] 24))
  have Hv : Hid (fewK s = (decide ((s.text.size : Int) ≤ 1000) && decide ((s.oids.length : Int) ≤ 50))) := Lib.hid rfl
  generalize fewK s = v at *
  obtain ⟨st, so⟩ := s
  unfold stArg
  dsimp only at *
  by_cases h1 : (st.size : Int) ≤ 1000
  · rw [decide_eq_true h1] at Hv
    by_cases h2 : (so.length : Int) ≤ 50
    · rw [decide_eq_true h2] at Hv
      go_enter Try.func10, Try.ntmps10
      go_wp2
      go_ret
      exact ⟨ret_bool (by rw [Hv.out]; first | rfl | simp_all), HB.out⟩
    · rw [decide_eq_false h2] at Hv
      go_enter Try.func10, Try.ntmps10
      go_wp2
      go_ret
      exact ⟨ret_bool (by rw [Hv.out]; first | rfl | (simp; omega)), HB.out⟩
  · rw [decide_eq_false h1] at Hv
    go_enter Try.func10, Try.ntmps10
    go_wp2
    go_ret
    exact ⟨ret_bool (by rw [Hv.out]; first | rfl | (simp; omega)), HB.out⟩

def stA : StV := ⟨⟨#[97]⟩, [23]⟩
theorem stA_fair : fairK stA = true := by decide +kernel
theorem stA_len : (keyB stA).length = 9 := by decide +kernel

set_option maxRecDepth 100000 in
set_option maxHeartbeats 4000000 in
theorem keAwake (w : World) : Calls Try.prog 11 #[] w fun e w' => e = .returned (.bool true) ∧ Below w.heap.size w w' := by
  have hal : Below w.heap.size w (w.alloc (.cells #[.int .i64 23] 3)) := (Below.refl _ _).alloc (Nat.le_refl _) _
  have hs : SliceS 1 IntU (fun _ => True) (w.alloc (.cells #[.int .i64 23] 3)) [.slice (some ⟨w.heap.size, 0, none⟩) 1 1] stA.oids := SliceS.new1 (S := fun _ => True) IntU.still w 3 _ 23 rfl rfl (fun _ _ h => h) trivial
  have HO := Lib.hid (keyOf_any _ stA _ _ _ hs (by decide +kernel) (by decide +kernel))
  have hkv : keyV stA = strOf (keyB stA) := by unfold keyV; rw [if_pos stA_fair]
  have hsz : (keyV stA).size = 9 := by rw [hkv, size_data, data_strOf]; exact stA_len
  have hsp : splitK (keyV stA).data.toList = (stA, true) := by rw [hkv, data_strOf]; exact split_key stA_fair
  have HS := Lib.hid (fun w0 : World => split_any (keyV stA) w0 (by omega))
  rw [hsp] at HS
  have Hal := Lib.hid hal
  have hz : w.heap.size ≤ (w.alloc (.cells #[.int .i64 23] 3)).heap.size := by simp
  have hH : ∀ p c, stArg stA p c = .agg #[.string ⟨#[97]⟩, .slice p 1 c] := fun _ _ => rfl
  unfold SplitR at HS
  dsimp only at HS
  simp only [hH] at HO HS
  generalize keyV stA = kv at *
  clear hal hs hkv hsz hsp hH
  go_enter Try.func11, Try.ntmps11
  go_wp2_with fail
  generalize w.alloc (.cells #[.int .i64 23] 3) = w1 at *
  refine HO.out.mono ?_
  rintro e w2 ⟨rfl, hb2⟩
  have HW2 := Lib.hid (Hal.out.trans (hb2.mono hz))
  have HS2 := Lib.hid (HS.out w2)
  clear hb2
  go_wp2_with fail
  refine HS2.out.mono ?_
  rintro e w3 ⟨p, c, rfl, hs3, hb3⟩
  have hal : Below w3.heap.size w3 (w3.alloc (.cells #[.string ⟨#[97]⟩, .slice p 1 c] 24)) := (Below.refl _ _).alloc (Nat.le_refl _) _
  have HW3 := Lib.hid ((HW2.out.trans (hb3.mono HW2.out.size)).trans (hal.mono (by have := HW2.out.size; have := hb3.size; omega)))
  obtain ⟨b, o, rfl, -, -, c0⟩ := int_at (k := 0) (hs3.below IntU.still hal) (show 0 < stA.oids.length by decide)
  have c0' : (w3.alloc (.cells #[.string ⟨#[97]⟩, .slice (some ⟨b, o, none⟩) 1 c] 24)).cell? ⟨b, o, none⟩ = some (.int .i64 23) := c0
  clear hs3 hb3 hal c0
  go_wp2_with fail
  go_ret
  exact ⟨rfl, HW3.out⟩

end Go.Proofs.Ytldjfmddjbdciaa
