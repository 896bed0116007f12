/-
  Messages of clients (layer 6): as arguments; short ones; sizes.
-/
import Derived.Test.YtldjfmddjbdciaaFpB
import Derived.Test.YtldjfmddjbdciaaFoQ
import Derived.Test.YtldjfmddjbdciaaPackA
namespace Go.Proofs.Ytldjfmddjbdciaa
open Go.RowKit
set_option linter.unusedVariables false
set_option linter.unusedSimpArgs false

theorem opensS_intU : OpensS Try.prog 3 IntU := by
  intro H enc w base spare held fuel cs x h
  obtain ⟨n, e, _⟩ := opens_int Try.underlying3 H enc w base spare held fuel cs x h
  exact ⟨n, e⟩
theorem opensS_ce : OpensS Try.prog 71 CeS := by
  intro H enc w base spare held fuel cs x h
  have S : StructOf Try.prog 71 _ := ⟨Try.underlying71, by kernel_rfl, by kernel_rfl⟩
  have hl := S.len h
  match cs, hl with
  | [c0, c1], _ =>
    obtain ⟨y0, e0⟩ := S.field h 0 _ rfl c0 rfl (opens_bool Try.underlying4)
    obtain ⟨y1, h1⟩ := S.field h 1 _ rfl c1 rfl (opensS_bytes Try.underlying38 Try.underlying5 (by kernel_rfl))
    obtain ⟨p, c, rfl⟩ := BytesS.shape h1
    unfold BoolR at e0
    simp only [List.cons.injEq, and_true] at e0
    subst e0
    exact ⟨⟨y0, y1⟩, p, c, rfl, h1⟩
/-- A message as an argument. -/
def FoS : Rd FoV := fun S w cs f => FoB f ∧ ∃ a, cs = (foCells f a).toList ∧ FoL S w f a
theorem opensS_fo : OpensS Try.prog 44 FoS := by
  intro H enc w base spare held fuel cs x h
  have S : StructOf Try.prog 44 _ := ⟨Try.underlying44, by kernel_rfl, by kernel_rfl⟩
  have hl := S.len h
  match cs, hl with
  | [c0, c1, c2, c3, c4, c5, c6, c7, c8, c9], _ =>
    obtain ⟨y0, e0, hw0⟩ := S.field h 0 _ rfl c0 rfl (opens_int Try.underlying5)
    obtain ⟨y1, e1, hw1⟩ := S.field h 1 _ rfl c1 rfl (opens_int Try.underlying5)
    obtain ⟨y2, e2, _⟩ := S.field h 2 _ rfl c2 rfl (opens_str Try.underlying9)
    obtain ⟨y3, e3, _⟩ := S.field h 3 _ rfl c3 rfl (opens_str Try.underlying9)
    obtain ⟨y4, e4, _⟩ := S.field h 4 _ rfl c4 rfl (opens_str Try.underlying9)
    obtain ⟨y5, h5⟩ := S.field h 5 _ rfl c5 rfl (opensS_slice (n := 1) Try.underlying22 (by kernel_rfl) (by omega) opensS_intU)
    obtain ⟨y6, h6⟩ := S.field h 6 _ rfl c6 rfl (opensS_slice (n := 1) Try.underlying22 (by kernel_rfl) (by omega) opensS_intU)
    obtain ⟨y7, h7⟩ := S.field h 7 _ rfl c7 rfl (opensS_slice (n := 1) Try.underlying22 (by kernel_rfl) (by omega) opensS_intU)
    obtain ⟨y8, h8⟩ := S.field h 8 _ rfl c8 rfl (opensS_slice (n := 2) Try.underlying42 (by kernel_rfl) (by omega) opensS_ce)
    obtain ⟨y9, e9, _⟩ := S.field h 9 _ rfl c9 rfl (opens_int Try.underlying3)
    obtain ⟨p5, k5, rfl⟩ := SliceS.shape h5
    obtain ⟨p6, k6, rfl⟩ := SliceS.shape h6
    obtain ⟨p7, k7, rfl⟩ := SliceS.shape h7
    obtain ⟨p8, k8, rfl⟩ := SliceS.shape h8
    have hb0 := byte_of_wf hw0
    have hb1 := byte_of_wf hw1
    simp only [List.cons.injEq, and_true] at e0 e1 e2 e3 e4 e9
    subst e0 e1 e2 e3 e4 e9
    exact ⟨⟨y0, y1, y2, y3, y4, y5, y6, y7, y8, y9⟩, ⟨hb0.1, hb0.2, hb1.1, hb1.2⟩, ⟨p5, k5, p6, k6, p7, k7, p8, k8⟩, rfl, h5, h6, h7, h8⟩

/-- A message is short. -/
structure FewF (x : FoV) : Prop where
  n : x.name.size ≤ 300
  p : x.portal.size ≤ 300
  t : x.text.size ≤ 1000
  o : x.oids.length ≤ 50
  f : x.formats.length ≤ 50
  r : x.results.length ≤ 50
  c : x.params.length ≤ 50
  b : ∀ c ∈ x.params, c.bytes.length ≤ 300
theorem FewF.small {x : FoV} (h : FewF x) : SmallF x :=
  ⟨by have := h.n; omega, by have := h.p; omega, by have := h.t; omega, by have := h.o; omega, by have := h.f; omega, by have := h.r; omega, by have := h.c; omega, fun c hc => by have := h.b c hc; omega⟩
theorem numsC_len {z : Nat} (l : List Int) : (numsC z l).length = z * l.length := by
  induction l with
  | nil => rfl
  | cons n l ih =>
    have e : numsC z (n :: l) = putB n z z ++ numsC z l := rfl
    rw [e, List.length_append, putB_length, ih, List.length_cons, Nat.mul_succ, Nat.add_comm]
theorem listC_len {z : Nat} (l : List Int) : (listC z l).length = 2 + z * l.length := by
  unfold listC
  rw [List.length_append, putB_length, numsC_len]
theorem cellC_len (c : CeV) : (cellC c).length ≤ 4 + c.bytes.length ∧ 4 ≤ (cellC c).length ∧ (c.null = false → (cellC c).length = 4 + c.bytes.length) := by
  unfold cellC
  split
  · rename_i h
    rw [putB_length]
    exact ⟨by omega, by omega, fun e => by rw [e] at h; cases h⟩
  · rw [List.length_append, putB_length]
    exact ⟨by omega, by omega, fun _ => rfl⟩
theorem cellsC_len (l : List CeV) (B : Nat) (h : ∀ c ∈ l, c.bytes.length ≤ B) : (cellsC l).length ≤ (4 + B) * l.length := by
  induction l with
  | nil => simp [cellsC]
  | cons c l ih =>
    have h1 := ih (fun x hx => h x (by simp [hx]))
    have h2 := h c (by simp)
    have h3 := (cellC_len c).1
    have e : cellsC (c :: l) = cellC c ++ cellsC l := rfl
    rw [e, List.length_append, List.length_cons, Nat.mul_succ]
    omega
/-- Values are no more, and no longer, than their bytes. -/
theorem cellsC_many (l : List CeV) (h : ∀ c ∈ l, rightC c) : 4 * l.length ≤ (cellsC l).length ∧ ∀ c ∈ l, c.bytes.length ≤ (cellsC l).length := by
  induction l with
  | nil => exact ⟨Nat.zero_le _, fun c hc => by cases hc⟩
  | cons c l ih =>
    obtain ⟨h1, h2⟩ := ih (fun x hx => h x (by simp [hx]))
    have h3 := cellC_len c
    have e : cellsC (c :: l) = cellC c ++ cellsC l := rfl
    have hc : c.bytes.length ≤ (cellC c).length := by
      cases hn : c.null with
      | true => rw [(h c (by simp)).1 hn]; exact Nat.zero_le _
      | false => rw [h3.2.2 hn]; omega
    rw [e, List.length_append, List.length_cons]
    refine ⟨by omega, fun x hx => ?_⟩
    rcases List.mem_cons.1 hx with rfl | hx
    · omega
    · have := h2 x hx; omega
theorem strP_len (s : ByteArray) : (strP s).length = s.size + 1 := by
  unfold strP
  rw [List.length_append, size_data]
  rfl
theorem body_few {x : FoV} (h : FewF x) (hfb : FoB x) (hc : checkF x = 0) : (bodyF x).length ≤ 100000 := by
  obtain ⟨_, hok⟩ := check_ok hc
  obtain ⟨hw, ho, hf, hr, hp, t1, t2, t3, hm, hkp⟩ := ok_parts hok
  rw [bodyF_c ⟨hfb.2.2.1, hfb.2.2.2⟩ ho hf hr hp hm]
  obtain ⟨h1, h2, h3, h4, h5, h6, h7, h8⟩ := h
  have k1 := strP_len x.name
  have k2 := strP_len x.portal
  have k3 := strP_len x.text
  have k4 := listC_len (z := 4) x.oids
  have k5 := listC_len (z := 2) x.formats
  have k6 := listC_len (z := 2) x.results
  have k7 : (rowC x.params).length ≤ 2 + 304 * x.params.length := by
    have := cellsC_len x.params 300 h8
    unfold rowC
    rw [List.length_append, putB_length]
    omega
  have k8 := putB_length x.what 1 1
  have k9 := putB_length x.max 4 4
  unfold bodyC
  split
  · simp only [List.length_append]; omega
  split
  · simp only [List.length_append]; omega
  split
  · split <;> simp only [List.length_append] <;> omega
  split
  · simp only [List.length_append]; omega
  split
  · omega
  · simp
/-- What is read of few bytes is small. -/
theorem read_small {k : Int} {L : List UInt8} {f : FoV} (h : readP k L = some (f, [])) (hc : checkF f = 0) (hL : L.length ≤ 2000) : SmallF f := by
  have hs := readP_small h
  have hb := body_read h hc
  obtain ⟨_, hok⟩ := check_ok hc
  obtain ⟨hw, ho, hf, hr, hp, t1, t2, t3, hm, hkp⟩ := ok_parts hok
  rw [bodyF_c hs.what ho hf hr hp hm] at hb
  have hq : f.params.length ≤ 1000 ∧ ∀ c ∈ f.params, c.bytes.length ≤ 2000 := by
    by_cases hk : f.kind = 66
    · unfold bodyC at hb
      rw [if_neg (by omega), if_pos hk] at hb
      have hl := congrArg List.length hb
      simp only [List.length_append] at hl
      unfold rowC at hl
      rw [List.length_append] at hl
      have := cellsC_many f.params hp.2
      exact ⟨by omega, fun c hc => by have := this.2 c hc; omega⟩
    · have e : f.params = [] := by
        have := congrArg FoV.params hkp
        rw [this]
        unfold keptV
        rw [if_neg hk]
        repeat' split
        all_goals rfl
      rw [e]
      exact ⟨by simp, fun c hc => by cases hc⟩
  exact ⟨by have := hs.name; omega, by have := hs.portal; omega, by have := hs.text; omega, by have := ho.1; omega, by have := hf.1; omega, by have := hr.1; omega, hq.1, hq.2⟩
/-- Decode: nothing, or a message that may be, with just these bytes. -/
theorem dec_parts (k : Int) (L : List UInt8) (hL : L.length ≤ 2000) :
    ((decF k L).2 = 0 ∧ encF (decF k L).1 = (k, L, 0) ∧ FoB (decF k L).1 ∧ SmallF (decF k L).1) ∨ ((decF k L).2 ≠ 0 ∧ (decF k L).1 = foZero 0) := by
  unfold decF
  split
  · exact .inr ⟨by decide, rfl⟩
  split
  · exact .inr ⟨by decide, rfl⟩
  split
  · rename_i f hf
    split
    · rename_i hc
      have hs := readP_small hf
      have hkk := hs.kind
      have hkn := (check_ok hc).1
      refine .inl ⟨rfl, ?_, ⟨?_, ?_, hs.what.1, hs.what.2⟩, read_small hf hc hL⟩
      · unfold encF
        rw [if_pos hc, hkk, body_read hf hc]
      · rcases known_kinds hkn with e | e | e | e | e | e <;> (show 0 ≤ f.kind; omega)
      · rcases known_kinds hkn with e | e | e | e | e | e <;> (show f.kind < 256; omega)
    · exact .inr ⟨by decide, rfl⟩
  · exact .inr ⟨by decide, rfl⟩

end Go.Proofs.Ytldjfmddjbdciaa
