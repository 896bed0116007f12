/-
  First messages (layer 5): the user; whether two are the same; pairs that may be told.
-/
import Derived.Test.YtjfhpafaopeogaaHeF
import Derived.Test.YtjfhpafaopeogaaLimitA
import Derived.Test.YtjfhpafaopeogaaShapeB
import Derived.Laws.StructEq
import Derived.BigQuiet
import Derived.Deep.QuietTactic
import Derived.Deep.RegionLaw
import Derived.Deep.RegionWith
import Derived.Deep.RegionHeld3
namespace Go.Proofs.Ytjfhpafaopeogaa
open Go.RowKit
set_option linter.unusedVariables false
set_option linter.unusedSimpArgs false

theorem pr_at {S : Nat → Prop} {w : World} {p : Option Addr} {n c k : Nat} {xs : List PrV} (h : SliceS 2 PrS S w [.slice p n c] xs) (hk : k < xs.length) :
    ∃ b o, p = some ⟨b, o, none⟩ ∧ S b ∧ b < w.heap.size ∧ w.cell? ⟨b, o + k * 2, none⟩ = some (.string xs[k].name) ∧ w.cell? ⟨b, o + k * 2 + 1, none⟩ = some (.string xs[k].value) := by
  obtain ⟨b, o, cs, rfl, hS, hb, _, hc, rfl⟩ := h.elem (by omega) k xs[k] (List.getElem?_eq_getElem hk)
  have c0 := hc 0 _ rfl
  rw [Nat.add_zero] at c0
  exact ⟨b, o, rfl, hS, hb, c0, hc 1 _ rfl⟩

def isUser (x : PrV) : Bool := x.name.toList == [117, 115, 101, 114]
def fairV (x : PrV) : Bool := !x.name.toList.isEmpty && (cleanB x.name && cleanB x.value)
def unfairV (x : PrV) : Bool := !fairV x

theorem isUser_any (n v : ByteArray) (w : World) : Calls Try.prog 97 #[.agg #[.string n, .string v]] w fun e w' => e = .returned (.bool (isUser ⟨n, v⟩)) ∧ Below w.heap.size w w' := by
  have Hb := Lib.hid ((Below.refl w.heap.size w).alloc (Nat.le_refl _) (.cells #[.string n, .string v] 150))
  have He : Hid (isUser ⟨n, v⟩ = (n.toList == [117, 115, 101, 114])) := Lib.hid rfl
  generalize isUser ⟨n, v⟩ = r at *
  go_enter Try.func97, Try.ntmps97
  go_wp2
  go_ret
  exact ⟨ret_bool He.out.symm, Hb.out⟩

theorem fairH_any (n v : ByteArray) (w : World) :
    Calls Try.prog 124 #[.agg #[.string n, .string v]] w fun e w' => e = .returned (.bool (fairV ⟨n, v⟩)) ∧ Below w.heap.size w w' := by
  have hf : fairV ⟨n, v⟩ = (!n.toList.isEmpty && (cleanB n && cleanB v)) := rfl
  rw [hf]
  clear hf
  generalize hcn : cleanB n = cn
  generalize hcv : cleanB v = cv
  have Hcn := Lib.hid hcn
  have Hcv := Lib.hid hcv
  clear hcn hcv
  go_enter Try.func124, Try.ntmps124
  go_wp2_with (first | (go_at_call 138; refine (clean_any _ _).mono ?_; rintro e w' ⟨rfl, rfl⟩; first | rw [Hcn.out] | rw [Hcv.out]))
  all_goals go_ret
  all_goals refine ⟨ret_bool ?_, (Below.refl _ _).alloc (Nat.le_refl _) _⟩
  all_goals simp_all

theorem unfair_any (n v : ByteArray) (w : World) :
    Calls Try.prog 123 #[.agg #[.string n, .string v]] w fun e w' => e = .returned (.bool (unfairV ⟨n, v⟩)) ∧ Below w.heap.size w w' := by
  go_enter Try.func123, Try.ntmps123
  go_wp2_with (first | (go_at_call 124; refine (fairH_any n v _).mono ?_; rintro e w1 ⟨rfl, hb1⟩))
  go_ret
  exact ⟨rfl, ((Below.refl _ _).alloc (Nat.le_refl _) _).trans (hb1.mono (by simp))⟩

set_option maxRecDepth 100000 in
set_option maxHeartbeats 4000000 in
/-- slices.IndexFunc at pairs, with remuda/hello.User$1. -/
theorem indexPr_isUser (S : Nat → Prop) (p : Option Addr) (n c : Nat) (L : List PrV) (w : World) (h : SliceS 2 PrS S w [.slice p n c] L) :
    Calls Try.prog 96 #[.slice p n c, .func (.func 97) #[] #[]] w fun e w' => ∃ r, e = .returned (.int .i64 r) ∧ IdxG isUser L r ∧ Below w.heap.size w w' := by
  have H := Lib.hid h
  obtain ⟨rfl, hlc, hcm⟩ := h.len
  unfold maxLen at hcm
  clear h
  go_enter Try.func96, Try.ntmps96
  go_wp2_with fail
  go_loopw [5, 8] (fun _ i wr => ∃ k : Nat, k ≤ L.length ∧ i = .int .i64 k ∧ k ≤ aheadG isUser L ∧ Below w.heap.size w wr) (fun _ i _ => L.length - (intOf i).toNat)
  case atStart => exact ⟨0, Nat.zero_le _, rfl, Nat.zero_le _, Below.refl _ _⟩
  case round =>
    obtain ⟨k, hk, rfl, hka, hb⟩ := hrel
    have hsz := hb.size
    have Hb := Lib.hid hb
    have Hka := Lib.hid hka
    clear hka
    by_cases hlt : k < L.length
    · obtain ⟨b, o, rfl, hS, hbl, c0, c1⟩ := pr_at (H.out.below PrS.still hb) hlt
      have Hgo := Lib.hid (aheadG_go isUser L k hlt)
      have Hat := Lib.hid (aheadG_at isUser L k hlt)
      clear hb hS
      generalize L[k] = x at *
      have Hc := Lib.hid (fun w0 => isUser_any x.name x.value w0)
      have hlti : (k : Int) < (L.length : Int) := by omega
      go_wp2_with fail
      refine (Hc.out _).mono ?_
      rintro e w1 ⟨rfl, hb1⟩
      have Hb1 := Lib.hid (Hb.out.trans (hb1.mono hsz))
      clear hb1
      cases hP : isUser x with
      | false =>
        have Hn := Lib.hid (Hgo.out Hka.out hP)
        clear hP
        go_wp2_with fail
        go_roundw
        case rel => exact ⟨k + 1, by omega, by go_num, Hn.out, Hb1.out⟩
        case measure => simp [intOf]; omega
      | true =>
        have Hn := Lib.hid (Hat.out Hka.out hP)
        clear hP
        go_wp2_with fail
        go_ret
        exact ⟨_, rfl, .inl ⟨by rw [Hn.out], by rw [Hn.out]; exact hlt⟩, Hb1.out⟩
    · obtain rfl : k = L.length := by omega
      have Hn := Lib.hid (Nat.le_antisymm (aheadG_le isUser L) Hka.out)
      go_wp2
      go_ret
      exact ⟨_, rfl, .inr ⟨rfl, Hn.out⟩, Hb.out⟩

set_option maxRecDepth 100000 in
set_option maxHeartbeats 4000000 in
/-- slices.IndexFunc at pairs, with remuda/hello.may$1. -/
theorem indexPr_unfairV (S : Nat → Prop) (p : Option Addr) (n c : Nat) (L : List PrV) (w : World) (h : SliceS 2 PrS S w [.slice p n c] L) :
    Calls Try.prog 96 #[.slice p n c, .func (.func 123) #[] #[]] w fun e w' => ∃ r, e = .returned (.int .i64 r) ∧ IdxG unfairV L r ∧ Below w.heap.size w w' := by
  have H := Lib.hid h
  obtain ⟨rfl, hlc, hcm⟩ := h.len
  unfold maxLen at hcm
  clear h
  go_enter Try.func96, Try.ntmps96
  go_wp2_with fail
  go_loopw [5, 8] (fun _ i wr => ∃ k : Nat, k ≤ L.length ∧ i = .int .i64 k ∧ k ≤ aheadG unfairV L ∧ Below w.heap.size w wr) (fun _ i _ => L.length - (intOf i).toNat)
  case atStart => exact ⟨0, Nat.zero_le _, rfl, Nat.zero_le _, Below.refl _ _⟩
  case round =>
    obtain ⟨k, hk, rfl, hka, hb⟩ := hrel
    have hsz := hb.size
    have Hb := Lib.hid hb
    have Hka := Lib.hid hka
    clear hka
    by_cases hlt : k < L.length
    · obtain ⟨b, o, rfl, hS, hbl, c0, c1⟩ := pr_at (H.out.below PrS.still hb) hlt
      have Hgo := Lib.hid (aheadG_go unfairV L k hlt)
      have Hat := Lib.hid (aheadG_at unfairV L k hlt)
      clear hb hS
      generalize L[k] = x at *
      have Hc := Lib.hid (fun w0 => unfair_any x.name x.value w0)
      have hlti : (k : Int) < (L.length : Int) := by omega
      go_wp2_with fail
      refine (Hc.out _).mono ?_
      rintro e w1 ⟨rfl, hb1⟩
      have Hb1 := Lib.hid (Hb.out.trans (hb1.mono hsz))
      clear hb1
      cases hP : unfairV x with
      | false =>
        have Hn := Lib.hid (Hgo.out Hka.out hP)
        clear hP
        go_wp2_with fail
        go_roundw
        case rel => exact ⟨k + 1, by omega, by go_num, Hn.out, Hb1.out⟩
        case measure => simp [intOf]; omega
      | true =>
        have Hn := Lib.hid (Hat.out Hka.out hP)
        clear hP
        go_wp2_with fail
        go_ret
        exact ⟨_, rfl, .inl ⟨by rw [Hn.out], by rw [Hn.out]; exact hlt⟩, Hb1.out⟩
    · obtain rfl : k = L.length := by omega
      have Hn := Lib.hid (Nat.le_antisymm (aheadG_le unfairV L) Hka.out)
      go_wp2
      go_ret
      exact ⟨_, rfl, .inr ⟨rfl, Hn.out⟩, Hb.out⟩

set_option maxRecDepth 100000 in
theorem containsUnfair (S : Nat → Prop) (p : Option Addr) (n c : Nat) (L : List PrV) (w : World) (h : SliceS 2 PrS S w [.slice p n c] L) :
    Calls Try.prog 122 #[.slice p n c, .func (.func 123) #[] #[]] w fun e w' => e = .returned (.bool (L.any unfairV)) ∧ Below w.heap.size w w' := by
  have H := Lib.hid (indexPr_unfairV S p n c L w h)
  clear h
  go_enter Try.func122, Try.ntmps122
  go_wp2_with fail
  refine H.out.mono ?_
  rintro e w1 ⟨r, rfl, hr, hb⟩
  have Hr := Lib.hid hr.any
  have Hb := Lib.hid hb
  clear hb hr
  go_wp2
  go_ret
  exact ⟨ret_bool Hr.out, Hb.out⟩

/-- The first user's value. -/
def userV (L : List PrV) : ByteArray := ((L[aheadG isUser L]?).map PrV.value).getD ⟨#[]⟩
theorem userV_at {L : List PrV} {k : Nat} (hk : k < L.length) (h : aheadG isUser L = k) : userV L = L[k].value := by
  unfold userV
  rw [h, List.getElem?_eq_getElem hk]
  rfl
theorem userV_none {L : List PrV} (h : aheadG isUser L = L.length) : userV L = ⟨#[]⟩ := by
  unfold userV
  rw [h, List.getElem?_eq_none (Nat.le_refl _)]
  rfl

/-- A first message in a block. -/
theorem hel_box {S : Nat → Prop} {w : World} {h : HelV} {p : Option Addr} {c : Nat} (hs : SliceS 2 PrS S w [.slice p h.params.length c] h.params) :
    Blk (w.alloc (.cells (helCells h p c) 94)) w.heap.size 94 (helCells h p c) ∧ SliceS 2 PrS S (w.alloc (.cells (helCells h p c) 94)) [.slice p h.params.length c] h.params ∧ Below w.heap.size w (w.alloc (.cells (helCells h p c) 94)) :=
  ⟨Blk.new _ _ _, hs.below PrS.still ((Below.refl _ _).alloc (Nat.le_refl _) _), (Below.refl _ _).alloc (Nat.le_refl _) _⟩

set_option maxRecDepth 100000 in
set_option maxHeartbeats 4000000 in
theorem user_any (S : Nat → Prop) (h : HelV) (p : Option Addr) (c : Nat) (w : World) (hs : SliceS 2 PrS S w [.slice p h.params.length c] h.params) :
    Calls Try.prog 50 #[helArg h p c] w fun e w' => e = .returned (.string (userV h.params)) ∧ Below w.heap.size w w' := by
  obtain ⟨hb, hs1, hw⟩ := hel_box hs
  have Hw := Lib.hid hw
  have Hs1 := Lib.hid hs1
  have Hb := Lib.hid hb
  obtain ⟨hc0, hc1, hc2, L⟩ := h
  dsimp only at *
  obtain ⟨-, hlc, hcm⟩ := hs.len
  unfold maxLen at hcm
  unfold helArg helCells at *
  dsimp only at *
  clear hs hs1 hb hw
  go_enter Try.func50, Try.ntmps50
  go_upto_region 1 with (fail)
  have hlt := Hb.out.lt
  generalize w.alloc (.cells #[.int .i64 hc0, .int .i64 hc1, .int .i64 hc2, .slice p L.length c] 94) = w1 at *
  have hc := Hb.out.cell
  have Hi := Lib.hid (indexPr_isUser S p _ c L w1 Hs1.out)
  go_wp2_with fail
  refine Hi.out.mono ?_
  rintro e w2 ⟨r, rfl, hr, hb2⟩
  have hcw : ∀ i, w2.cell? ⟨w.heap.size, i, none⟩ = (#[.int .i64 hc0, .int .i64 hc1, .int .i64 hc2, .slice p L.length c] : Array Value)[i]? := (Hb.out.below hb2 hlt).cell
  have Hs2 := Lib.hid (Hs1.out.below PrS.still hb2)
  have HW := Lib.hid (Hw.out.trans (hb2.mono Hw.out.size))
  clear hc hb2
  rcases hr with ⟨rfl, hl⟩ | ⟨rfl, he⟩
  · obtain ⟨b, o, rfl, hS, hbl, c0, c1⟩ := pr_at Hs2.out hl
    have Hu := Lib.hid (userV_at hl rfl)
    generalize hk : aheadG isUser L = k at *
    have hki : (k : Int) < (L.length : Int) := by omega
    have hk0 : ¬ (k : Int) < 0 := by omega
    clear hk hS
    go_wp2
    go_ret
    rw [Hu.out]
    exact ⟨rfl, HW.out⟩
  · have Hu := Lib.hid (userV_none he)
    clear he
    go_wp2
    go_ret
    rw [Hu.out]
    exact ⟨rfl, HW.out⟩

set_option maxRecDepth 100000 in
set_option maxHeartbeats 4000000 in
theorem ruser_any (S : Nat → Prop) (h : HelV) (p : Option Addr) (c : Nat) (w : World) (hs : SliceS 2 PrS S w [.slice p h.params.length c] h.params) :
    Calls Try.prog 51 #[helArg h p c] w fun e w' => e = .returned (.string (userV h.params)) ∧ Below w.heap.size w w' := by
  obtain ⟨hb, hs1, hw⟩ := hel_box hs
  have Hw := Lib.hid hw
  have Hs1 := Lib.hid hs1
  have Hb := Lib.hid hb
  obtain ⟨hc0, hc1, hc2, L⟩ := h
  dsimp only at *
  obtain ⟨-, hlc, hcm⟩ := hs.len
  unfold maxLen at hcm
  unfold helArg helCells at *
  dsimp only at *
  clear hs hs1 hb hw
  go_enter Try.func51, Try.ntmps51
  go_upto_region 1 with (fail)
  have hlt := Hb.out.lt
  generalize w.alloc (.cells #[.int .i64 hc0, .int .i64 hc1, .int .i64 hc2, .slice p L.length c] 94) = w1 at *
  have hc := Hb.out.cell
  go_wp2_with fail
  go_loopw [3] (fun i wr => ∃ k : Nat, k ≤ L.length ∧ i = .int .i64 k ∧ k ≤ aheadG isUser L ∧ wr = w1) (fun i _ => L.length - (intOf i).toNat)
  case atStart => exact ⟨0, Nat.zero_le _, rfl, Nat.zero_le _, rfl⟩
  case round =>
    obtain ⟨k, hk, rfl, hka, rfl⟩ := hrel
    have Hka := Lib.hid hka
    clear hka
    by_cases hlt : k < L.length
    · obtain ⟨b, o, rfl, hS, hbl, c0, c1⟩ := pr_at Hs1.out hlt
      have Hgo := Lib.hid (aheadG_go isUser L k hlt)
      have Hat := Lib.hid (aheadG_at isUser L k hlt)
      have Hu := Lib.hid (userV_at (L := L) hlt)
      clear hS
      generalize L[k] = x at *
      have hlti : (k : Int) < (L.length : Int) := by omega
      have hx : isUser x = (x.name.toList == [117, 115, 101, 114]) := rfl
      cases hP : isUser x with
      | false =>
        have Hn := Lib.hid (Hgo.out Hka.out hP)
        rw [hP] at hx
        have hx' := hx.symm
        clear hP hx
        go_wp2_with fail
        go_roundw
        case rel => exact ⟨k + 1, by omega, by go_num, Hn.out, by first | rfl | trivial⟩
        case measure => simp [intOf]; omega
      | true =>
        have Hn := Lib.hid (Hu.out (Hat.out Hka.out hP))
        rw [hP] at hx
        have hx' := hx.symm
        clear hP hx
        go_wp2_with fail
        go_ret
        rw [Hn.out]
        exact ⟨rfl, Hw.out⟩
    · obtain rfl : k = L.length := by omega
      have Hn := Lib.hid (userV_none (Nat.le_antisymm (aheadG_le isUser L) Hka.out))
      go_wp2
      go_ret
      rw [Hn.out]
      exact ⟨rfl, Hw.out⟩

end Go.Proofs.Ytjfhpafaopeogaa
