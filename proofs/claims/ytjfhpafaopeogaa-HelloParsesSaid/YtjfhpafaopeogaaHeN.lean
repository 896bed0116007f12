/-
  First messages (layer 5): as arguments; short ones; awake.
-/
import Derived.Test.YtjfhpafaopeogaaHeM
namespace Go.Proofs.Ytjfhpafaopeogaa
open Go.RowKit
set_option linter.unusedVariables false
set_option linter.unusedSimpArgs false

theorem opensS_pr : OpensS Try.prog 150 PrS := by
  intro H enc w base spare held fuel cs x h
  have S : StructOf Try.prog 150 _ := ⟨Try.underlying150, by kernel_rfl, by kernel_rfl⟩
  have hl := S.len h
  match cs, hl with
  | [c0, c1], _ =>
    obtain ⟨y0, e0, _⟩ := S.field h 0 _ rfl c0 rfl (opens_str Try.underlying9)
    obtain ⟨y1, e1, _⟩ := S.field h 1 _ rfl c1 rfl (opens_str Try.underlying9)
    simp only [List.cons.injEq, and_true] at e0 e1
    subst e0 e1
    exact ⟨⟨y0, y1⟩, rfl⟩

/-- A first message as an argument. -/
def HelS : Rd HelV := fun S w cs h => ∃ p c, cs = (helCells h p c).toList ∧ SliceS 2 PrS S w [.slice p h.params.length c] h.params

theorem opensS_hel : OpensS Try.prog 94 HelS := by
  intro H enc w base spare held fuel cs x h
  have S : StructOf Try.prog 94 _ := ⟨Try.underlying94, by kernel_rfl, by kernel_rfl⟩
  have hl := S.len h
  match cs, hl with
  | [c0, c1, c2, c3], _ =>
    obtain ⟨y0, e0, _⟩ := S.field h 0 _ rfl c0 rfl (opens_int Try.underlying3)
    obtain ⟨y1, e1, _⟩ := S.field h 1 _ rfl c1 rfl (opens_int Try.underlying3)
    obtain ⟨y2, e2, _⟩ := S.field h 2 _ rfl c2 rfl (opens_int Try.underlying3)
    obtain ⟨y3, h3⟩ := S.field h 3 _ rfl c3 rfl (opensS_slice (n := 2) Try.underlying92 (by kernel_rfl) (by omega) opensS_pr)
    obtain ⟨p, c, rfl⟩ := SliceS.shape h3
    simp only [List.cons.injEq, and_true] at e0 e1 e2
    subst e0 e1 e2
    exact ⟨⟨y0, y1, y2, y3⟩, p, c, rfl, h3⟩

/-- A message is short. -/
def FewH (L : List PrV) : Prop := L.length ≤ 40 ∧ ∀ x ∈ L, x.name.size ≤ 200 ∧ x.value.size ≤ 200
def FewR (L : List PrV) (b : Bool) : Prop := b = true → FewH L
/-- What few answers. -/
def FewE (L : List PrV) (w : World) (e : Ending) (w' : World) : Prop := ∃ b, e = .returned (.bool b) ∧ FewR L b ∧ Below w.heap.size w w'
theorem parsB_few {L : List PrV} (h : FewH L) : (parsB L).length ≤ 402 * 40 := by
  obtain ⟨h1, h2⟩ := h
  have hb : ∀ L : List PrV, (∀ x ∈ L, x.name.size ≤ 200 ∧ x.value.size ≤ 200) → (parsB L).length ≤ 402 * L.length := by
    intro L
    induction L with
    | nil => intro _; simp [parsB]
    | cons x L ih =>
      intro h
      have := ih (fun y hy => h y (List.mem_cons_of_mem _ hy))
      have hx := h x (List.mem_cons_self ..)
      rw [size_data, size_data] at hx
      have e : (parsB (x :: L)).length = (prB x).length + (parsB L).length := by simp [parsB]
      have e2 : (prB x).length = x.name.data.toList.length + x.value.data.toList.length + 2 := by simp [prB]; omega
      rw [e, e2, List.length_cons]
      omega
  have := hb L h2
  omega
theorem FewH.bytes {L : List PrV} (h : FewH L) : (parsB L).length ≤ 100000 ∧ ∀ x ∈ L, x.name.size ≤ 100000 ∧ x.value.size ≤ 100000 := by
  refine ⟨by have := parsB_few h; omega, fun x hx => ?_⟩
  have := h.2 x hx
  omega

set_option maxRecDepth 100000 in
set_option maxHeartbeats 4000000 in
theorem few_any (S : Nat → Prop) (h : HelV) (p : Option Addr) (c : Nat) (w : World) (hs : SliceS 2 PrS S w [.slice p h.params.length c] h.params) :
    Calls Try.prog 52 #[helArg h p c] w (FewE h.params w) := by
  obtain ⟨hb, hs1, hw⟩ := hel_box hs
  have Hw := Lib.hid hw
  have Hs0 := Lib.hid hs
  have Hb := Lib.hid hb
  obtain ⟨hc0, hc1, hc2, L⟩ := h
  dsimp only at *
  obtain ⟨-, hlc, hcm⟩ := hs.len
  unfold maxLen at hcm
  unfold helArg helCells at *
  dsimp only at *
  clear hs hs1 hb hw
  go_enter Try.func52, Try.ntmps52
  go_upto_region 1 with (fail)
  have hlt := Hb.out.lt
  generalize w.alloc (.cells #[.int .i64 hc0, .int .i64 hc1, .int .i64 hc2, .slice p L.length c] 94) = w1 at *
  have hc := Hb.out.cell
  go_wp2_with fail
  clear hc
  go_loopw [8] (fun i wr => ∃ k : Nat, k ≤ L.length ∧ i = .int .i64 k ∧ k ≤ 40 ∧ (∀ j (hj : j < L.length), j < k → L[j].name.size ≤ 200 ∧ L[j].value.size ≤ 200) ∧ Below w.heap.size w wr) (fun i _ => L.length - (intOf i).toNat)
  case atStart => exact ⟨0, Nat.zero_le _, rfl, by omega, (fun j _ h => by omega), Hw.out⟩
  case round =>
    obtain ⟨k, hk, rfl, hk40, hall, hb⟩ := hrel
    have hsz := hb.size
    have Hall := Lib.hid hall
    have Hbw := Lib.hid hb
    clear hall
    by_cases hltk : k < L.length
    · obtain ⟨b, o, rfl, hS, hbl, c0, c1⟩ := pr_at (Hs0.out.below PrS.still hb) hltk
      have Hgood := Lib.hid (fun h : L[k].name.size ≤ 200 ∧ L[k].value.size ≤ 200 => (fun j (hj : j < L.length) (hjk : j < k + 1) => by
        by_cases e : j = k
        · subst e; exact h
        · exact Hall.out j hj (by omega) : ∀ j (hj : j < L.length), j < k + 1 → L[j].name.size ≤ 200 ∧ L[j].value.size ≤ 200))
      clear hb hS
      generalize L[k] = x at *
      have hlti : (k : Int) < (L.length : Int) := by omega
      go_upto_region 4 with fail
      have hal : Below wr.heap.size wr (wr.alloc (.cells #[.string x.name, .string x.value] 150)) := (Below.refl _ _).alloc (Nat.le_refl _) _
      have Hba := Lib.hid (Hbw.out.trans (hal.mono hsz))
      have hca := (Blk.new wr 150 #[.string x.name, .string x.value]).cell
      clear hal Hbw c0 c1
      generalize wr.alloc (.cells #[.string x.name, .string x.value] 150) = wa at *
      by_cases h40 : k < 40
      · by_cases hn : x.name.size ≤ 200
        · by_cases hv : x.value.size ≤ 200
          · have Hg := Lib.hid (Hgood.out ⟨hn, hv⟩)
            go_wp2_with fail
            go_roundw
            case rel => exact ⟨k + 1, by omega, by go_num, by omega, Hg.out, Hba.out⟩
            case measure => simp [intOf]; omega
          · go_wp2_with fail
            go_ret
            exact ⟨false, rfl, (fun e => by cases e), Hba.out⟩
        · go_wp2_with fail
          go_ret
          exact ⟨false, rfl, (fun e => by cases e), Hba.out⟩
      · go_wp2_with fail
        go_ret
        exact ⟨false, rfl, (fun e => by cases e), Hba.out⟩
    · obtain rfl : k = L.length := by omega
      clear hb
      go_wp2_with fail
      go_ret
      refine ⟨true, rfl, (fun _ => ⟨hk40, fun x hx => ?_⟩), Hbw.out⟩
      obtain ⟨j, hj, rfl⟩ := List.getElem_of_mem hx
      exact Hall.out j hj hj

def helA : HelV := ⟨196608, 0, 0, [⟨⟨#[117, 115, 101, 114]⟩, ⟨#[97]⟩⟩]⟩
theorem helA_may : mayV helA = true := by decide +kernel
theorem helA_user : userV helA.params = ⟨#[97]⟩ := by decide +kernel
theorem helA_len : (bodyV helA).length = 12 := by decide +kernel

set_option maxRecDepth 100000 in
set_option maxHeartbeats 4000000 in
theorem heAwake (w : World) : Calls Try.prog 46 #[] w fun e w' => e = .returned (.bool true) ∧ Below w.heap.size w w' := by
  have Hbv : Hid (buildV helA = (bodyV helA, 0)) := Lib.hid (by unfold buildV; rw [if_pos helA_may])
  have Hpv := Lib.hid (parse_build helA_may)
  have Hlen := Lib.hid helA_len
  have hal : Below w.heap.size w (w.alloc (.cells #[.string ⟨#[117, 115, 101, 114]⟩, .string ⟨#[97]⟩] 150)) := (Below.refl _ _).alloc (Nat.le_refl _) _
  have hs : SliceS 2 PrS (fun _ => True) (w.alloc (.cells #[.string ⟨#[117, 115, 101, 114]⟩, .string ⟨#[97]⟩] 150)) [.slice (some ⟨w.heap.size, 0, none⟩) 1 1] helA.params := SliceS.new1 (S := fun _ => True) PrS.still w 150 _ ⟨⟨#[117, 115, 101, 114]⟩, ⟨#[97]⟩⟩ rfl rfl (fun _ _ h => h) trivial
  have Hbd := Lib.hid (build_any _ helA (some ⟨w.heap.size, 0, none⟩) 1 _ hs (by decide +kernel))
  have Hal := Lib.hid hal
  have hz : w.heap.size ≤ (w.alloc (.cells #[.string ⟨#[117, 115, 101, 114]⟩, .string ⟨#[97]⟩] 150)).heap.size := by simp
  have Hus := Lib.hid helA_user
  have Hpc := Lib.hid (fun (p : Option Addr) (c : Nat) (w : World) hb => parse_any p (bodyV helA) c w (by rw [helA_len]; omega) hb)
  have hn1 : helA.params.length = 1 := rfl
  have hH : ∀ p c, helArg helA p c = .agg #[.int .i64 196608, .int .i64 0, .int .i64 0, .slice p 1 c] := fun _ _ => rfl
  have Huc := Lib.hid (fun (S : Nat → Prop) (p : Option Addr) (c : Nat) (w : World) hs => user_any S helA p c w hs)
  rw [Hus.out] at Huc
  unfold BuildR at Hbd
  unfold ParseR at Hpc
  rw [Hbv.out] at Hbd
  rw [Hpv.out, Hlen.out] at Hpc
  dsimp only at Hbd Hpc
  rw [hn1] at Hpc Huc
  simp only [hH] at Hbd Hpc Huc
  generalize bodyV helA = B at *
  clear hal hs hH hn1
  go_enter Try.func46, Try.ntmps46
  go_wp2_with fail
  generalize w.alloc (.cells #[.string ⟨#[117, 115, 101, 114]⟩, .string ⟨#[97]⟩] 150) = w1 at *
  refine Hbd.out.mono ?_
  rintro e w2 ⟨v2, rfl, ho2, hb2⟩
  obtain ⟨p2, c2, hv2, -, -, q2, -⟩ := OwnBR.slice ho2
  subst hv2
  rw [Hlen.out]
  have Hp := Lib.hid (Hpc.out p2 c2 w2 q2)
  have HW2 := Lib.hid (Hal.out.trans (hb2.mono hz))
  clear ho2 hb2 q2
  go_wp2_with fail
  refine Hp.out.mono ?_
  rintro e w3 ⟨p3, c3, rfl, hs3, hb3⟩
  have Hu := Lib.hid (Huc.out _ p3 c3 _ (hs3.below PrS.still ((Below.refl _ _).alloc (Nat.le_refl _) (.cells #[.int .i64 196608, .int .i64 0, .int .i64 0, .slice p3 1 c3] 94))))
  have HW3 := Lib.hid ((HW2.out.trans (hb3.mono HW2.out.size)).alloc (by have := HW2.out.size; have := hb3.size; omega) (.cells #[.int .i64 196608, .int .i64 0, .int .i64 0, .slice p3 1 c3] 94))
  clear hs3 hb3
  go_wp2_with fail
  refine Hu.out.mono ?_
  rintro e w4 ⟨rfl, hb4⟩
  have HW4 := Lib.hid (HW3.out.trans (hb4.mono HW3.out.size))
  clear hb4
  go_wp2_with fail
  go_ret
  exact ⟨rfl, HW4.out⟩

end Go.Proofs.Ytjfhpafaopeogaa
