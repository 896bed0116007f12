/-
  Ground: FrBy, HeI, HeJ, HeK, HeL, ClD.
-/
import Derived.Test.YtacnmdlefonjmaaGreatPcZP1
import Derived.Test.YtacnmdlefonjmaaGreatPcZP12
import Derived.Test.YtacnmdlefonjmaaGreatPcZP2
import Derived.BigQuiet
import Derived.Deep.QuietTactic
import Derived.Deep.RegionLaw
import Derived.Deep.RegionHeld3
import Derived.Test.YtacnmdlefonjmaaGreatPcZP17
import Derived.Test.YtacnmdlefonjmaaGreatPcZP15
/-
  A message's bytes: the contracts of frame.Bytes and of the document's (layer 4).
-/
namespace Go.Proofs.YtacnmdlefonjmaaGreat
open Go.RowKit

/-- A message's bytes. -/
def msgL (ty : UInt8) (l : List UInt8) : List UInt8 := putV (if ty = 0 then [] else [ty]) ((l.length : Int) + 4) 4 ++ l

theorem msgL_len (ty : UInt8) (l : List UInt8) : (msgL ty l).length ≤ l.length + 5 := by
  have h := putV_len4 (if ty = 0 then [] else [ty]) ((l.length : Int) + 4) 4
  unfold msgL
  rw [List.length_append]
  have : (if ty = 0 then ([] : List UInt8) else [ty]).length ≤ 1 := by split <;> simp
  omega

def msgArg (ty : UInt8) (p : Option Addr) (n c : Nat) : Value := .agg #[.int .u8 (ty.toNat : Int), .slice p n c]

/-- A message in a block, and its bytes. -/
structure MsW (w0 w : World) (g : Nat) (ty : UInt8) (l : List UInt8) (p : Option Addr) (c : Nat) : Prop where
  blk : Blk w g 73 #[.int .u8 (ty.toNat : Int), .slice p l.length c]
  inn : BytesIn w p l
  bel : Below w0.heap.size w0 w
section
variable {w0 w w' : World} {g : Nat} {ty : UInt8} {l : List UInt8} {p : Option Addr} {c : Nat}
theorem MsW.step (h : MsW w0 w g ty l p c) (hb : Below w.heap.size w w') : MsW w0 w' g ty l p c := ⟨h.blk.below hb h.blk.lt, h.inn.below hb, h.bel.trans (hb.mono h.bel.size)⟩
theorem MsW.drew (h : MsW w0 w g ty l p c) : MsW w0 w.drew g ty l p c := h.step (((Touch.refl (fun _ => False) w).drew).below (Nat.le_refl _) (fun _ e => e.elim))
theorem MsW.box (h : BytesIn w p l) : MsW w (w.alloc (.cells #[.int .u8 (ty.toNat : Int), .slice p l.length c] 73)) w.heap.size ty l p c := ⟨Blk.new _ _ _, h.alloc _, (Below.refl _ _).alloc (Nat.le_refl _) _⟩
end

theorem cell_grown {w w' : World} {row : Option Nat} {g i : Nat} (h : w.grownBy w' row) (hg : g < w.heap.size) (hr : some g ≠ row) : w'.cell? ⟨g, i, none⟩ = w.cell? ⟨g, i, none⟩ := World.cell?_of_block (a := ⟨g, i, none⟩) (h.block g hg hr)

set_option maxRecDepth 100000 in
set_option maxHeartbeats 4000000 in
theorem frBytesR_any (ty : UInt8) (l : List UInt8) (p : Option Addr) (c : Nat) (w : World) (hx : BytesIn w p l) (hl : l.length ≤ 100000) :
    Calls Tryz.prog 42 #[msgArg ty p l.length c] w fun e w' => ∃ v, e = .returned v ∧ OwnBR w.heap.size w' v (msgL ty l) ∧ Below w.heap.size w w' := by
  have H0 := Lib.hid (MsW.box (ty := ty) (c := c) hx)
  have Hm : Hid (∀ pre, pre = (if ty = 0 then ([] : List UInt8) else [ty]) → msgL ty l = putV pre ((l.length : Int) + 4) 4 ++ l) := Lib.hid (fun pre e => by rw [e]; rfl)
  have Hpl := Lib.hid (fun pre : List UInt8 => putV_len4 pre ((l.length : Int) + 4) 4)
  have hx0 := u8_bd ty
  have hws : IntKind.i64.wrap (4 + (l.length : Int)) = 4 + (l.length : Int) := by rw [IntKind.wrap_i64]; omega
  have hws2 : IntKind.i64.wrap ((l.length : Int) + 4) = (l.length : Int) + 4 := by rw [IntKind.wrap_i64]; omega
  have Hsum := Lib.hid (show (4 : Int) + (l.length : Int) = (l.length : Int) + 4 by omega)
  have hcase : ty = 0 ∨ ¬ ty = 0 := Decidable.em _
  clear hx
  unfold msgArg
  rcases hcase with h0 | h0
  · have Hm2 := Lib.hid (Hm.out [] (by rw [if_pos h0]))
    have hz : (ty.toNat : Int) = 0 := by rw [h0]; rfl
    rw [hz]
    have H1 : Hid (MsW w (w.alloc (.cells #[.int .u8 0, .slice p l.length c] 73)) w.heap.size ty l p c) := Lib.hid (by have := H0.out; rw [hz] at this; exact this)
    have hc1 : ∀ i, (w.alloc (.cells #[.int .u8 0, .slice p l.length c] 73)).cell? ⟨w.heap.size, i, none⟩ = (#[.int .u8 0, .slice p l.length c] : Array Value)[i]? := by have := H1.out.blk.cell; rw [hz] at this; exact this
    have hX : (ty.toNat : Int) = 0 := hz
    have HX := Lib.hid hX
    clear Hm h0 hx0 hX hz H0
    go_enter Tryz.func42, Tryz.ntmps42
    go_wp2_with fail
    generalize hw1 : w.alloc (.cells #[.int .u8 0, .slice p l.length c] 73) = w1 at *
    clear hw1
    have hlt1 := H1.out.blk.lt
    have H2 := H1
    have Hi2 := Lib.hid (BytesIn.nil w1 none)
    go_wp2_with fail
    generalize hw2 : w1 = w2 at *
    clear hw2
    have hc2 : ∀ i, w2.cell? ⟨w.heap.size, i, none⟩ = (#[.int .u8 0, .slice p l.length c] : Array Value)[i]? := (by have := H2.out.blk.cell; rw [HX.out] at this; exact this)
    have hlt2 := H2.out.blk.lt
    go_region_held3 (fun w' => ∀ i, w'.cell? ⟨w.heap.size, i, none⟩ = (#[.int .u8 0, .slice p l.length c] : Array Value)[i]?)
      (first | exact hc2 | exact hc3 | exact hc4 | go_keep)
      (first
        | (go_at_call 69; (try rw [Hsum.out]); refine (putR_any none [] 0 ((l.length : Int) + 4) 4 _ (by simp) (Hi2.out.drewN 1)).mono ?_; rintro e w3 ⟨v3, rfl, ho3, hb3⟩; have H3 : Hid (MsW w w3 _ _ _ _ _) := Lib.hid (H2.out.drew.step hb3); have hc3 : ∀ i, w3.cell? ⟨w.heap.size, i, none⟩ = (#[.int .u8 0, .slice p l.length c] : Array Value)[i]? := (by have := H3.out.blk.cell; rw [HX.out] at this; exact this); have hpl3 := Hpl.out []; have Ho3 : Hid (OwnBR w2.heap.size w3 v3 (putV [] ((l.length : Int) + 4) 4)) := Lib.hid (OwnBR.of ho3); have hs3 : w2.heap.size ≤ w3.heap.size := hb3.size; (try simp only [List.length_cons] at hpl3); simp only [List.length_nil] at hpl3; clear hb3 ho3)
        | (refine rgn_appendBR rfl (.tmp 17) (.tmp 19) rfl w2.heap.size _ _ rfl Ho3.out _ l _ _ rfl rfl H3.out.inn (by omega) hs3 ?_; intro v4 w4 ho4 hg4 _; have hc4 : ∀ i, w4.cell? ⟨w.heap.size, i, none⟩ = (#[.int .u8 0, .slice p l.length c] : Array Value)[i]? := (fun i => (cell_grown hg4 (by omega) (fun e => by have := (Ho3.out.row _ e.symm).1; omega)).trans (hc3 i))))
    have hw : Below w.heap.size w w4 := H3.out.bel.trans (Below.of_row hg4 H3.out.bel.size (fun k hk => by have := (Ho3.out.row k hk).1; omega))
    have Hw := Lib.hid hw
    have Ho4 := Lib.hid ho4
    clear hw ho4 hg4 hc2 hc3 hc4
    go_wp2
    go_ret
    refine ⟨_, rfl, ?_, Hw.out⟩
    rw [Hm2.out]
    exact OwnR.base Ho4.out (by omega)
  · have Hm2 := Lib.hid (Hm.out [ty] (by rw [if_neg h0]))
    have hne0 : ¬ ((ty.toNat : Int) = 0) := fun e => h0 (UInt8.toNat_inj.1 (by have : (0 : UInt8).toNat = 0 := rfl; omega))
    obtain ⟨x, hX⟩ : ∃ x : Nat, (ty.toNat : Int) = (x : Int) := ⟨_, rfl⟩
    rw [hX]
    rw [hX] at hne0 hx0
    have H1 : Hid (MsW w (w.alloc (.cells #[.int .u8 (x : Int), .slice p l.length c] 73)) w.heap.size ty l p c) := Lib.hid (by have := H0.out; rw [hX] at this; exact this)
    have hc1 : ∀ i, (w.alloc (.cells #[.int .u8 (x : Int), .slice p l.length c] 73)).cell? ⟨w.heap.size, i, none⟩ = (#[.int .u8 (x : Int), .slice p l.length c] : Array Value)[i]? := by have := H1.out.blk.cell; rw [hX] at this; exact this
    have HX := Lib.hid hX
    have hne : ¬ ((x : Int) = 0) := hne0
    clear Hm h0 hX H0 hne0
    have hz1 : (w.alloc (.cells #[.int .u8 (x : Int), .slice p l.length c] 73)).heap.size = w.heap.size + 1 := by simp
    have H2a := Lib.hid (H1.out.step ((Below.refl _ _).alloc (Nat.le_refl _) (.cells #[.int .u8 (x : Int)] 5)))
    have hi2a := BytesIn.new1 (w.alloc (.cells #[.int .u8 (x : Int), .slice p l.length c] 73)) ty (x : Int) 5 HX.out
    rw [hz1] at hi2a
    have Hi2a := Lib.hid hi2a
    have hz2a : ((w.alloc (.cells #[.int .u8 (x : Int), .slice p l.length c] 73)).alloc (.cells #[.int .u8 (x : Int)] 5)).heap.size = w.heap.size + 2 := by simp
    clear hz1 hi2a hc1
    go_enter Tryz.func42, Tryz.ntmps42
    go_wp2_with (at_builtin; refine step_appendBR _ rfl (.tmp 7) (.tmp 10) rfl (w.heap.size + 1) (.slice none 0 0) [] rfl (OwnBR.empty _ _ _) (some ⟨w.heap.size + 1, 0, none⟩) [ty] 1 1 rfl rfl Hi2a.out (by simp) (by omega) ?_; intro v2 w2 ho2 hg2 _; have Ho2 : Hid (OwnBR (w.heap.size + 1) w2 v2 [ty]) := Lib.hid ho2; have H2 := Lib.hid (H2a.out.step (Below.of_row hg2 (Nat.le_refl _) (fun k hk => by simp [rowOf] at hk))); clear ho2 hg2; obtain ⟨q2, d2, rfl, _, _, hi2, _⟩ := Ho2.out.slice; have Hi2 := Lib.hid hi2; clear hi2)
    have hc2 : ∀ i, w2.cell? ⟨w.heap.size, i, none⟩ = (#[.int .u8 (x : Int), .slice p l.length c] : Array Value)[i]? := (by have := H2.out.blk.cell; rw [HX.out] at this; exact this)
    have hlt2 := H2.out.blk.lt
    go_region_held3 (fun w' => ∀ i, w'.cell? ⟨w.heap.size, i, none⟩ = (#[.int .u8 (x : Int), .slice p l.length c] : Array Value)[i]?)
      (first | exact hc2 | exact hc3 | exact hc4 | go_keep)
      (first
        | (go_at_call 69; (try rw [Hsum.out]); refine (putR_any q2 [ty] d2 ((l.length : Int) + 4) 4 _ (by simp) (Hi2.out.drewN 1)).mono ?_; rintro e w3 ⟨v3, rfl, ho3, hb3⟩; have H3 : Hid (MsW w w3 _ _ _ _ _) := Lib.hid (H2.out.drew.step hb3); have hc3 : ∀ i, w3.cell? ⟨w.heap.size, i, none⟩ = (#[.int .u8 (x : Int), .slice p l.length c] : Array Value)[i]? := (by have := H3.out.blk.cell; rw [HX.out] at this; exact this); have hpl3 := Hpl.out [ty]; have Ho3 : Hid (OwnBR w2.heap.size w3 v3 (putV [ty] ((l.length : Int) + 4) 4)) := Lib.hid (OwnBR.of ho3); have hs3 : w2.heap.size ≤ w3.heap.size := hb3.size; (try simp only [List.length_cons] at hpl3); simp only [List.length_nil] at hpl3; clear hb3 ho3)
        | (refine rgn_appendBR rfl (.tmp 17) (.tmp 19) rfl w2.heap.size _ _ rfl Ho3.out _ l _ _ rfl rfl H3.out.inn (by omega) hs3 ?_; intro v4 w4 ho4 hg4 _; have hc4 : ∀ i, w4.cell? ⟨w.heap.size, i, none⟩ = (#[.int .u8 (x : Int), .slice p l.length c] : Array Value)[i]? := (fun i => (cell_grown hg4 (by omega) (fun e => by have := (Ho3.out.row _ e.symm).1; omega)).trans (hc3 i))))
    have hw : Below w.heap.size w w4 := H3.out.bel.trans (Below.of_row hg4 H3.out.bel.size (fun k hk => by have := (Ho3.out.row k hk).1; omega))
    have Hw := Lib.hid hw
    have Ho4 := Lib.hid ho4
    clear hw ho4 hg4 hc2 hc3 hc4
    go_wp2
    go_ret
    refine ⟨_, rfl, ?_, Hw.out⟩
    rw [Hm2.out]
    exact OwnR.base Ho4.out (by omega)

end Go.Proofs.YtacnmdlefonjmaaGreat

/-
  First messages (layer 5): whether one may be told, both.
-/
namespace Go.Proofs.YtacnmdlefonjmaaGreat
open Go.RowKit
set_option linter.unusedVariables false
set_option linter.unusedSimpArgs false

def unsigV (n : Int) : Bool := decide (0 ≤ n) && rightB n 4
def noneV (h : HelV) : Bool := (h.process == 0) && (h.secret == 0)
/-- Whether a message may be told, but for its pairs. -/
def kindV (h : HelV) : Bool :=
  if h.code = 196608 then noneV h
  else if h.code = 80877103 then noneV h && ((h.params.length : Int) == 0)
  else if h.code = 80877102 then ((h.params.length : Int) == 0) && (unsigV h.process && unsigV h.secret)
  else false
def mayV (h : HelV) : Bool := !(h.params.any unfairV) && kindV h

theorem any_unfair {L : List PrV} {k : Nat} (hk : k < L.length) (h : unfairV L[k] = true) : L.any unfairV = true := List.any_eq_true.2 ⟨_, List.getElem_mem hk, h⟩
theorem any_fair : ∀ {L : List PrV}, (∀ k (hk : k < L.length), unfairV L[k] = false) → L.any unfairV = false := by
  intro L h
  rw [List.any_eq_false]
  intro x hx
  obtain ⟨k, hk, rfl⟩ := List.getElem_of_mem hx
  rw [h k hk]
  decide

set_option maxRecDepth 100000 in
set_option maxHeartbeats 4000000 in
theorem rmay_any (S : Nat → Prop) (h : HelV) (p : Option Addr) (c : Nat) (w : World) (hs : SliceS 2 PrS S w [.slice p h.params.length c] h.params) (hsz : ∀ x ∈ h.params, x.name.size ≤ 100000 ∧ x.value.size ≤ 100000) :
    Calls Tryz.prog 70 #[helArg h p c] w fun e w' => e = .returned (.bool (mayV h)) ∧ Below w.heap.size w w' := by
  obtain ⟨hb, hs1, hw⟩ := hel_box hs
  have Hw := Lib.hid hw
  have Hs1 := Lib.hid hs1
  have Hb := Lib.hid hb
  have Hsz := Lib.hid hsz
  have Hm : Hid (mayV h = (!(h.params.any unfairV) && kindV h)) := Lib.hid rfl
  have Hk : Hid (kindV h = if h.code = 196608 then (h.process == 0) && (h.secret == 0) else if h.code = 80877103 then ((h.process == 0) && (h.secret == 0)) && ((h.params.length : Int) == 0) else if h.code = 80877102 then ((h.params.length : Int) == 0) && ((decide (0 ≤ h.process) && rightB h.process 4) && (decide (0 ≤ h.secret) && rightB h.secret 4)) else false) := Lib.hid rfl
  generalize mayV h = mv at *
  generalize kindV h = kv at *
  obtain ⟨hc0, hc1, hc2, L⟩ := h
  dsimp only at *
  obtain ⟨-, hlc, hcm⟩ := hs.len
  unfold maxLen at hcm
  unfold helArg helCells at *
  dsimp only at *
  clear hs hs1 hb hw hsz
  go_enter Tryz.func70, Tryz.ntmps70
  go_upto_region 1 with (fail)
  have hlt := Hb.out.lt
  generalize w.alloc (.cells #[.int .i64 hc0, .int .i64 hc1, .int .i64 hc2, .slice p L.length c] 42) = w1 at *
  have hc := Hb.out.cell
  go_wp2_with fail
  go_loopw [3] (fun i wr => ∃ k : Nat, k ≤ L.length ∧ i = .int .i64 k ∧ (∀ j (hj : j < L.length), j < k → unfairV L[j] = false) ∧ wr = w1) (fun i _ => L.length - (intOf i).toNat)
  case atStart => exact ⟨0, Nat.zero_le _, rfl, (fun j _ h => by omega), rfl⟩
  case round =>
    obtain ⟨k, hk, rfl, hall, rfl⟩ := hrel
    have Hall := Lib.hid hall
    clear hall
    by_cases hltk : k < L.length
    · obtain ⟨b, o, rfl, hS, hbl, c0, c1⟩ := pr_at Hs1.out hltk
      have hz := Hsz.out L[k] (List.getElem_mem hltk)
      have Hbad := Lib.hid (any_unfair (L := L) hltk)
      have Hgood := Lib.hid (fun h : unfairV L[k] = false => (fun j (hj : j < L.length) (hjk : j < k + 1) => by
        by_cases e : j = k
        · subst e; exact h
        · exact Hall.out j hj (by omega) : ∀ j (hj : j < L.length), j < k + 1 → unfairV L[j] = false))
      have Hx : Hid (unfairV L[k] = !(!L[k].name.toList.isEmpty && (cleanB L[k].name && cleanB L[k].value))) := Lib.hid rfl
      clear hS
      have Hc1 := Lib.hid (cleanR_any L[k].name wr (by unfold maxLen; omega))
      have Hc2 := Lib.hid (cleanR_any L[k].value wr (by unfold maxLen; omega))
      generalize cleanB L[k].name = b1 at *
      generalize cleanB L[k].value = b2 at *
      generalize unfairV L[k] = uf at *
      generalize L[k] = x at *
      have hlti : (k : Int) < (L.length : Int) := by omega
      clear hz
      cases he : x.name.toList.isEmpty with
      | true =>
        have Hb2 := Lib.hid (Hbad.out (by rw [Hx.out, he]; rfl))
        go_wp2_with fail
        go_ret
        exact ⟨ret_bool (by rw [Hm.out, Hb2.out]; rfl), Hw.out⟩
      | false =>
        cases b1 with
        | false =>
          have Hb2 := Lib.hid (Hbad.out (by rw [Hx.out, he]; rfl))
          go_wp2_with fail
          refine Hc1.out.mono ?_
          rintro e w3 ⟨rfl, rfl⟩
          go_wp2_with fail
          go_ret
          exact ⟨ret_bool (by rw [Hm.out, Hb2.out]; rfl), Hw.out⟩
        | true =>
          cases b2 with
          | false =>
            have Hb2 := Lib.hid (Hbad.out (by rw [Hx.out, he]; rfl))
            go_wp2_with fail
            refine Hc1.out.mono ?_
            rintro e w3 ⟨rfl, rfl⟩
            go_wp2_with fail
            refine Hc2.out.mono ?_
            rintro e w3 ⟨rfl, rfl⟩
            go_wp2_with fail
            go_ret
            exact ⟨ret_bool (by rw [Hm.out, Hb2.out]; rfl), Hw.out⟩
          | true =>
            have Hg2 := Lib.hid (Hgood.out (by rw [Hx.out, he]; rfl))
            go_wp2_with fail
            refine Hc1.out.mono ?_
            rintro e w3 ⟨rfl, rfl⟩
            go_wp2_with fail
            refine Hc2.out.mono ?_
            rintro e w3 ⟨rfl, rfl⟩
            go_wp2_with fail
            go_roundw
            case rel => exact ⟨k + 1, by omega, by go_num, Hg2.out, by first | rfl | trivial⟩
            case measure => simp [intOf]; omega
    · obtain rfl : k = L.length := by omega
      have Hun := Lib.hid (any_fair (fun j hj => Hall.out j hj hj))
      rw [Hun.out] at Hm
      clear Hall Hsz
      simp only [Bool.not_false, Bool.true_and] at Hm
      clear hltk hk Hun
      by_cases k1 : hc0 = 196608
      · have Hk2 := Lib.hid (Hk.out.trans (if_pos k1))
        subst k1
        clear Hk
        go_wp2_with fail
        all_goals
          go_ret
          refine ⟨ret_bool ?_, Hw.out⟩
          rw [Hm.out, Hk2.out]
          simp_all [bne]
      · have g1 : (hc0 == 196608) = false := by simpa using k1
        by_cases k2 : hc0 = 80877103
        · have Hk2 := Lib.hid (Hk.out.trans ((if_neg k1).trans (if_pos k2)))
          subst k2
          clear Hk k1
          go_wp2_with fail
          all_goals
            go_ret
            refine ⟨ret_bool ?_, Hw.out⟩
            rw [Hm.out, Hk2.out]
            simp_all [bne]
        · have g2 : (hc0 == 80877103) = false := by simpa using k2
          by_cases k3 : hc0 = 80877102
          · have Hk2 := Lib.hid (Hk.out.trans ((if_neg k1).trans ((if_neg k2).trans (if_pos k3))))
            subst k3
            clear Hk k1 k2
            have Hr1 := Lib.hid (rightR_any hc1 4 wr)
            have Hr2 := Lib.hid (rightR_any hc2 4 wr)
            generalize rightB hc1 4 = r1 at *
            generalize rightB hc2 4 = r2 at *
            by_cases hp : hc1 = 0
            · subst hp
              by_cases hn0 : (L.length : Int) = 0
              · have hnn : ((L.length : Int) == 0) = true := by simpa using hn0
                rw [hnn] at Hk2
                clear hn0
                by_cases q1 : (0 : Int) ≤ 0
                · rw [decide_eq_true q1] at Hk2
                  by_cases q2 : 0 ≤ hc2
                  · rw [decide_eq_true q2] at Hk2
                    cases r1 with
                    | false =>
                      go_wp2_with fail
                      refine Hr1.out.mono ?_
                      rintro e w3 ⟨rfl, rfl⟩
                      go_wp2_with fail
                      go_ret
                      exact ⟨ret_bool (by rw [Hm.out, Hk2.out]; simp), Hw.out⟩
                    | true =>
                      go_wp2_with fail
                      refine Hr1.out.mono ?_
                      rintro e w3 ⟨rfl, rfl⟩
                      go_wp2_with fail
                      refine Hr2.out.mono ?_
                      rintro e w3 ⟨rfl, rfl⟩
                      go_wp2_with fail
                      go_ret
                      exact ⟨ret_bool (by rw [Hm.out, Hk2.out]; simp), Hw.out⟩
                  · rw [decide_eq_false q2] at Hk2
                    go_wp2_with fail
                    all_goals
                      go_ret
                      exact ⟨ret_bool (by rw [Hm.out, Hk2.out]; simp), Hw.out⟩
                · exact absurd (Int.le_refl 0) q1
              · have hnn : ((L.length : Int) == 0) = false := by simpa using hn0
                rw [hnn] at Hk2
                clear hn0
                go_wp2_with fail
                all_goals
                  go_ret
                  exact ⟨ret_bool (by rw [Hm.out, Hk2.out]; simp), Hw.out⟩
            · have hpb : (hc1 == 0) = false := by simpa using hp
              clear hp
              by_cases hn0 : (L.length : Int) = 0
              · have hnn : ((L.length : Int) == 0) = true := by simpa using hn0
                rw [hnn] at Hk2
                clear hn0
                by_cases q1 : 0 ≤ hc1
                · rw [decide_eq_true q1] at Hk2
                  by_cases q2 : 0 ≤ hc2
                  · rw [decide_eq_true q2] at Hk2
                    cases r1 with
                    | false =>
                      go_wp2_with fail
                      refine Hr1.out.mono ?_
                      rintro e w3 ⟨rfl, rfl⟩
                      go_wp2_with fail
                      go_ret
                      exact ⟨ret_bool (by rw [Hm.out, Hk2.out]; simp), Hw.out⟩
                    | true =>
                      go_wp2_with fail
                      refine Hr1.out.mono ?_
                      rintro e w3 ⟨rfl, rfl⟩
                      go_wp2_with fail
                      refine Hr2.out.mono ?_
                      rintro e w3 ⟨rfl, rfl⟩
                      go_wp2_with fail
                      go_ret
                      exact ⟨ret_bool (by rw [Hm.out, Hk2.out]; simp), Hw.out⟩
                  · rw [decide_eq_false q2] at Hk2
                    go_wp2_with fail
                    all_goals
                      go_ret
                      exact ⟨ret_bool (by rw [Hm.out, Hk2.out]; simp), Hw.out⟩
                · rw [decide_eq_false q1] at Hk2
                  go_wp2_with fail
                  all_goals
                    go_ret
                    exact ⟨ret_bool (by rw [Hm.out, Hk2.out]; simp), Hw.out⟩
              · have hnn : ((L.length : Int) == 0) = false := by simpa using hn0
                rw [hnn] at Hk2
                clear hn0
                go_wp2_with fail
                all_goals
                  go_ret
                  exact ⟨ret_bool (by rw [Hm.out, Hk2.out]; simp), Hw.out⟩
          · have g3 : (hc0 == 80877102) = false := by simpa using k3
            have Hk2 := Lib.hid (Hk.out.trans ((if_neg k1).trans ((if_neg k2).trans (if_neg k3))))
            clear Hk k1 k2 k3
            go_wp2_with fail
            all_goals
              go_ret
              exact ⟨ret_bool (by rw [Hm.out, Hk2.out]), Hw.out⟩

end Go.Proofs.YtacnmdlefonjmaaGreat

/-
  First messages (layer 5): the body of a message: plain laws; the program's Build.
-/
namespace Go.Proofs.YtacnmdlefonjmaaGreat
open Go.RowKit
set_option linter.unusedVariables false
set_option linter.unusedSimpArgs false

def prB (x : PrV) : List UInt8 := (x.name.data.toList ++ [0]) ++ (x.value.data.toList ++ [0])
def parsB (L : List PrV) : List UInt8 := (L.map prB).flatten
theorem parsB_take {L : List PrV} {k : Nat} (hk : k < L.length) : parsB (L.take (k + 1)) = parsB (L.take k) ++ prB L[k] := by
  unfold parsB
  rw [List.take_succ_eq_append_getElem hk, List.map_append, List.flatten_append]
  simp
theorem parsB_le (L : List PrV) (k : Nat) : (parsB (L.take k)).length ≤ (parsB L).length := by
  have h : parsB L = parsB (L.take k) ++ parsB (L.drop k) := by
    unfold parsB
    rw [← List.flatten_append, ← List.map_append, List.take_append_drop]
  rw [h, List.length_append]
  omega
theorem parsB_all (L : List PrV) : parsB (L.take L.length) = parsB L := by rw [List.take_length]
theorem parsB_many : ∀ L : List PrV, 2 * L.length ≤ (parsB L).length
  | [] => by simp
  | x :: L => by
    have := parsB_many L
    unfold parsB at *
    rw [List.map_cons, List.flatten_cons, List.length_append, List.length_cons]
    have : 2 ≤ (prB x).length := by unfold prB; simp; omega
    omega

/-- The bytes of a message that may be told. -/
def bodyV (h : HelV) : List UInt8 :=
  if h.code = 80877102 then putV (putV (putV [] h.code 4) h.process 4) h.secret 4
  else if h.code = 196608 then (putV [] h.code 4 ++ parsB h.params) ++ [0]
  else putV [] h.code 4
def buildV (h : HelV) : List UInt8 × Int := if mayV h = true then (bodyV h, 0) else ([], 1)

/-- What a pair's bytes are after so many texts. -/
def pieceB (x : PrV) : Nat → List UInt8
  | 0 => []
  | 1 => x.name.data.toList ++ [0]
  | _ => prB x

/-- What Build leaves. -/
def BuildR (h : HelV) (w : World) (e : Ending) (w' : World) : Prop :=
  ∃ v, e = .returned (.tuple #[v, .int .i64 (buildV h).2]) ∧ OwnBR w.heap.size w' v (buildV h).1 ∧ Below w.heap.size w w'

end Go.Proofs.YtacnmdlefonjmaaGreat

/-
  First messages (layer 5): hello.Build whole.
-/
namespace Go.Proofs.YtacnmdlefonjmaaGreat
open Go.RowKit
set_option linter.unusedVariables false
set_option linter.unusedSimpArgs false

theorem may_code {h : HelV} (hm : mayV h = true) : h.code = 196608 ∨ h.code = 80877102 ∨ h.code = 80877103 := by
  unfold mayV kindV at hm
  by_cases h1 : h.code = 196608
  · exact .inl h1
  · by_cases h2 : h.code = 80877102
    · exact .inr (.inl h2)
    · by_cases h3 : h.code = 80877103
      · exact .inr (.inr h3)
      · rw [if_neg h1, if_neg h3, if_neg h2] at hm
        simp at hm

end Go.Proofs.YtacnmdlefonjmaaGreat

/-
  First messages (layer 5): the document's Build.
-/
namespace Go.Proofs.YtacnmdlefonjmaaGreat
open Go.RowKit
set_option linter.unusedVariables false
set_option linter.unusedSimpArgs false

theorem below_drew1 {w w' : World} (h : Below (w.drewN 1).heap.size (w.drewN 1) w') : Below w.heap.size w w' :=
  (((Touch.refl (fun _ => False) w).drewN 1).below (Nat.le_refl _) (fun _ e => e.elim)).trans h

set_option maxRecDepth 100000 in
set_option maxHeartbeats 4000000 in
theorem rbuild_no (S : Nat → Prop) (h : HelV) (p : Option Addr) (c : Nat) (w : World) (hs : SliceS 2 PrS S w [.slice p h.params.length c] h.params) (hsz : ∀ x ∈ h.params, x.name.size ≤ 100000 ∧ x.value.size ≤ 100000) (hm : mayV h = false) :
    Calls Tryz.prog 43 #[helArg h p c] w (BuildR h w) := by
  obtain ⟨hb, hs1, hw⟩ := hel_box hs
  have HM := Lib.hid (fun w0 hs0 => rmay_any S h p c w0 hs0 hsz)
  rw [hm] at HM
  have Hv : Hid (buildV h = ([], 1)) := Lib.hid (by unfold buildV; rw [hm]; rfl)
  have Hw := Lib.hid hw
  have Hs0 := Lib.hid hs
  have Hs1 := Lib.hid hs1
  have Hb := Lib.hid hb
  have hmany := parsB_many h.params
  unfold BuildR
  generalize buildV h = bv at *
  obtain ⟨hc0, hc1, hc2, L⟩ := h
  dsimp only at *
  skip
  obtain ⟨-, hlc, hcm⟩ := hs.len
  unfold maxLen at hcm
  unfold helArg helCells at *
  dsimp only at *
  clear hs hs1 hb hw hm hsz
  go_enter Tryz.func43, Tryz.ntmps43
  go_upto_region 1 with (fail)
  have hlt := Hb.out.lt
  generalize w.alloc (.cells #[.int .i64 hc0, .int .i64 hc1, .int .i64 hc2, .slice p L.length c] 42) = w1 at *
  have hc := Hb.out.cell
  go_wp2_with fail
  refine (HM.out w1 Hs1.out).mono ?_
  rintro e w2 ⟨rfl, hb2⟩
  have hsz2 := hb2.size
  have hcw : ∀ i, w2.cell? ⟨w.heap.size, i, none⟩ = (#[.int .i64 hc0, .int .i64 hc1, .int .i64 hc2, .slice p L.length c] : Array Value)[i]? := (Hb.out.below hb2 hlt).cell
  have Hb2 := Lib.hid (Hb.out.below hb2 hlt)
  have HW2 := Lib.hid (Hw.out.trans (hb2.mono Hw.out.size))
  clear hc hb2
  go_wp2_with fail
  go_ret2
  rw [Hv.out]
  exact ⟨_, rfl, OwnBR.empty _ _ _, HW2.out⟩

set_option maxRecDepth 100000 in
set_option maxHeartbeats 4000000 in
theorem rbuild_ssl (S : Nat → Prop) (h : HelV) (p : Option Addr) (c : Nat) (w : World) (hs : SliceS 2 PrS S w [.slice p h.params.length c] h.params) (hsz : ∀ x ∈ h.params, x.name.size ≤ 100000 ∧ x.value.size ≤ 100000) (hm : mayV h = true) (h1 : h.code = 80877103) :
    Calls Tryz.prog 43 #[helArg h p c] w (BuildR h w) := by
  obtain ⟨hb, hs1, hw⟩ := hel_box hs
  have HM := Lib.hid (fun w0 hs0 => rmay_any S h p c w0 hs0 hsz)
  rw [hm] at HM
  have Hv : Hid (buildV h = (putV [] 80877103 4, 0)) := Lib.hid (by unfold buildV bodyV; rw [if_pos hm, h1]; simp)
  have Hw := Lib.hid hw
  have Hs0 := Lib.hid hs
  have Hs1 := Lib.hid hs1
  have Hb := Lib.hid hb
  have hmany := parsB_many h.params
  unfold BuildR
  generalize buildV h = bv at *
  obtain ⟨hc0, hc1, hc2, L⟩ := h
  dsimp only at *
  subst h1
  obtain ⟨-, hlc, hcm⟩ := hs.len
  unfold maxLen at hcm
  unfold helArg helCells at *
  dsimp only at *
  clear hs hs1 hb hw hm hsz
  go_enter Tryz.func43, Tryz.ntmps43
  go_upto_region 1 with (fail)
  have hlt := Hb.out.lt
  generalize w.alloc (.cells #[.int .i64 80877103, .int .i64 hc1, .int .i64 hc2, .slice p L.length c] 42) = w1 at *
  have hc := Hb.out.cell
  go_wp2_with fail
  refine (HM.out w1 Hs1.out).mono ?_
  rintro e w2 ⟨rfl, hb2⟩
  have hsz2 := hb2.size
  have hcw : ∀ i, w2.cell? ⟨w.heap.size, i, none⟩ = (#[.int .i64 80877103, .int .i64 hc1, .int .i64 hc2, .slice p L.length c] : Array Value)[i]? := (Hb.out.below hb2 hlt).cell
  have Hb2 := Lib.hid (Hb.out.below hb2 hlt)
  have HW2 := Lib.hid (Hw.out.trans (hb2.mono Hw.out.size))
  clear hc hb2
  have Hp := Lib.hid (putR_any none [] 0 80877103 4 w2 (by simp) (BytesIn.nil _ _))
  go_wp2_with fail
  refine Hp.out.mono ?_
  rintro e w3 ⟨v3, rfl, ho3, hb3⟩
  have hsz3 := hb3.size
  have Ho3 : Hid (OwnBR w.heap.size w3 v3 _) := Lib.hid (OwnR.base (OwnBR.of ho3) (show w.heap.size ≤ w2.heap.size by omega))
  have hcw3 : ∀ i, w3.cell? ⟨w.heap.size, i, none⟩ = (#[.int .i64 80877103, .int .i64 hc1, .int .i64 hc2, .slice p L.length c] : Array Value)[i]? := (Hb2.out.below hb3 (by omega)).cell
  have Hb3 := Lib.hid (Hb2.out.below hb3 (by omega))
  have HW3 := Lib.hid (HW2.out.trans (hb3.mono HW2.out.size))
  clear hb3 ho3 hcw Hp
  go_wp2_with fail
  go_ret2
  rw [Hv.out]
  exact ⟨_, rfl, Ho3.out, HW3.out⟩

set_option maxRecDepth 100000 in
set_option maxHeartbeats 4000000 in
theorem rbuild_cancel (S : Nat → Prop) (h : HelV) (p : Option Addr) (c : Nat) (w : World) (hs : SliceS 2 PrS S w [.slice p h.params.length c] h.params) (hsz : ∀ x ∈ h.params, x.name.size ≤ 100000 ∧ x.value.size ≤ 100000) (hm : mayV h = true) (h1 : h.code = 80877102) :
    Calls Tryz.prog 43 #[helArg h p c] w (BuildR h w) := by
  obtain ⟨hb, hs1, hw⟩ := hel_box hs
  have HM := Lib.hid (fun w0 hs0 => rmay_any S h p c w0 hs0 hsz)
  rw [hm] at HM
  have Hv : Hid (buildV h = (putV (putV (putV [] 80877102 4) h.process 4) h.secret 4, 0)) := Lib.hid (by unfold buildV bodyV; rw [if_pos hm, h1]; simp)
  have Hw := Lib.hid hw
  have Hs0 := Lib.hid hs
  have Hs1 := Lib.hid hs1
  have Hb := Lib.hid hb
  have hmany := parsB_many h.params
  unfold BuildR
  generalize buildV h = bv at *
  obtain ⟨hc0, hc1, hc2, L⟩ := h
  dsimp only at *
  subst h1
  obtain ⟨-, hlc, hcm⟩ := hs.len
  unfold maxLen at hcm
  unfold helArg helCells at *
  dsimp only at *
  clear hs hs1 hb hw hm hsz
  go_enter Tryz.func43, Tryz.ntmps43
  go_upto_region 1 with (fail)
  have hlt := Hb.out.lt
  generalize w.alloc (.cells #[.int .i64 80877102, .int .i64 hc1, .int .i64 hc2, .slice p L.length c] 42) = w1 at *
  have hc := Hb.out.cell
  go_wp2_with fail
  refine (HM.out w1 Hs1.out).mono ?_
  rintro e w2 ⟨rfl, hb2⟩
  have hsz2 := hb2.size
  have hcw : ∀ i, w2.cell? ⟨w.heap.size, i, none⟩ = (#[.int .i64 80877102, .int .i64 hc1, .int .i64 hc2, .slice p L.length c] : Array Value)[i]? := (Hb.out.below hb2 hlt).cell
  have Hb2 := Lib.hid (Hb.out.below hb2 hlt)
  have HW2 := Lib.hid (Hw.out.trans (hb2.mono Hw.out.size))
  clear hc hb2
  have Hp := Lib.hid (putR_any none [] 0 80877102 4 w2 (by simp) (BytesIn.nil _ _))
  go_wp2_with fail
  refine Hp.out.mono ?_
  rintro e w3 ⟨v3, rfl, ho3, hb3⟩
  have hsz3 := hb3.size
  have Ho3 : Hid (OwnBR w.heap.size w3 v3 _) := Lib.hid (OwnR.base (OwnBR.of ho3) (show w.heap.size ≤ w2.heap.size by omega))
  have hcw3 : ∀ i, w3.cell? ⟨w.heap.size, i, none⟩ = (#[.int .i64 80877102, .int .i64 hc1, .int .i64 hc2, .slice p L.length c] : Array Value)[i]? := (Hb2.out.below hb3 (by omega)).cell
  have Hb3 := Lib.hid (Hb2.out.below hb3 (by omega))
  have HW3 := Lib.hid (HW2.out.trans (hb3.mono HW2.out.size))
  clear hb3 ho3 hcw Hp
  have hl3 := putV_len4 [] 80877102 4
  have hl4 := putV_len4 (putV [] 80877102 4) hc1 4
  simp only [List.length_nil] at hl3
  obtain ⟨p3, c3, hv3, k3, m3, q3, -⟩ := Ho3.out.slice
  subst hv3
  have Hp2 := Lib.hid (putR_any p3 (putV [] 80877102 4) c3 hc1 4 (w3.drewN 1) (by omega) (q3.drewN 1))
  have Hq3 := Lib.hid q3
  clear q3
  generalize (putV [] 80877102 4).length = n3 at *
  go_upto_region 13 with (fail)
  go_region_held3 (fun w' => ∀ i, w'.cell? ⟨w.heap.size, i, none⟩ = (#[.int .i64 80877102, .int .i64 hc1, .int .i64 hc2, .slice p L.length c] : Array Value)[i]?)
    (first | exact hcw3 | exact hcw4 | exact hcw5 | go_keep)
    (first
      | (go_at_call 69; refine Hp3.out.mono ?_; rintro e w5 ⟨v5, rfl, ho5, hb5⟩; have HW5 := Lib.hid (HW4.out.trans (hb5.mono HW4.out.size)); have Ho5 : Hid (OwnBR w.heap.size w5 v5 _) := Lib.hid (OwnR.base (OwnBR.of ho5) (show w.heap.size ≤ w4.heap.size by omega)); have hcw5 : ∀ i, w5.cell? ⟨w.heap.size, i, none⟩ = (#[.int .i64 80877102, .int .i64 hc1, .int .i64 hc2, .slice p L.length c] : Array Value)[i]? := (HX4.out.below hb5 (by omega)).cell; clear hb5 ho5)
      | (go_at_call 69; refine Hp2.out.mono ?_; rintro e w4 ⟨v4, rfl, ho4, hb4'⟩; have hb4 := below_drew1 hb4'; clear hb4'; have hsz4 := hb4.size; have HX4 := Lib.hid (Hb3.out.below hb4 (by omega)); have hcw4 : ∀ i, w4.cell? ⟨w.heap.size, i, none⟩ = (#[.int .i64 80877102, .int .i64 hc1, .int .i64 hc2, .slice p L.length c] : Array Value)[i]? := HX4.out.cell; have HW4 := Lib.hid (HW3.out.trans (hb4.mono HW3.out.size)); have Ho4 := Lib.hid (OwnBR.of ho4); clear hb4 ho4; obtain ⟨p4, c4, hv4, k4, m4, q4, -⟩ := Ho4.out.slice; subst hv4; have Hp3 := Lib.hid (putR_any p4 (putV (putV [] 80877102 4) hc1 4) c4 hc2 4 w4 (by omega) q4); clear q4))
  clear hcw3 hcw4 hcw5
  go_wp2_with fail
  go_ret2
  rw [Hv.out]
  exact ⟨_, rfl, Ho5.out, HW5.out⟩

set_option maxRecDepth 100000 in
set_option maxHeartbeats 4000000 in
theorem rbuild_version (S : Nat → Prop) (h : HelV) (p : Option Addr) (c : Nat) (w : World) (hs : SliceS 2 PrS S w [.slice p h.params.length c] h.params) (hsz : ∀ x ∈ h.params, x.name.size ≤ 100000 ∧ x.value.size ≤ 100000) (hl : (parsB h.params).length ≤ 100000) (hm : mayV h = true) (h1 : h.code = 196608) :
    Calls Tryz.prog 43 #[helArg h p c] w (BuildR h w) := by
  obtain ⟨hb, hs1, hw⟩ := hel_box hs
  have HM := Lib.hid (fun w0 hs0 => rmay_any S h p c w0 hs0 hsz)
  rw [hm] at HM
  have Hv : Hid (buildV h = ((putV [] 196608 4 ++ parsB h.params) ++ [0], 0)) := Lib.hid (by unfold buildV bodyV; rw [if_pos hm, h1]; simp)
  have Hpl := Lib.hid (putV_len4 [] 196608 4)
  have Hw := Lib.hid hw
  have Hs0 := Lib.hid hs
  have Hs1 := Lib.hid hs1
  have Hb := Lib.hid hb
  have hmany := parsB_many h.params
  unfold BuildR
  generalize buildV h = bv at *
  obtain ⟨hc0, hc1, hc2, L⟩ := h
  dsimp only at *
  subst h1
  obtain ⟨-, hlc, hcm⟩ := hs.len
  unfold maxLen at hcm
  unfold helArg helCells at *
  dsimp only at *
  clear hs hs1 hb hw hm hsz
  go_enter Tryz.func43, Tryz.ntmps43
  go_upto_region 1 with (fail)
  have hlt := Hb.out.lt
  generalize w.alloc (.cells #[.int .i64 196608, .int .i64 hc1, .int .i64 hc2, .slice p L.length c] 42) = w1 at *
  have hc := Hb.out.cell
  go_wp2_with fail
  refine (HM.out w1 Hs1.out).mono ?_
  rintro e w2 ⟨rfl, hb2⟩
  have hsz2 := hb2.size
  have hcw : ∀ i, w2.cell? ⟨w.heap.size, i, none⟩ = (#[.int .i64 196608, .int .i64 hc1, .int .i64 hc2, .slice p L.length c] : Array Value)[i]? := (Hb.out.below hb2 hlt).cell
  have Hb2 := Lib.hid (Hb.out.below hb2 hlt)
  have HW2 := Lib.hid (Hw.out.trans (hb2.mono Hw.out.size))
  clear hc hb2
  have Hp := Lib.hid (putR_any none [] 0 196608 4 w2 (by simp) (BytesIn.nil _ _))
  go_wp2_with fail
  refine Hp.out.mono ?_
  rintro e w3 ⟨v3, rfl, ho3, hb3⟩
  have hsz3 := hb3.size
  have Ho3 : Hid (OwnBR w2.heap.size w3 v3 _) := Lib.hid (OwnBR.of ho3)
  have hcw3 : ∀ i, w3.cell? ⟨w.heap.size, i, none⟩ = (#[.int .i64 196608, .int .i64 hc1, .int .i64 hc2, .slice p L.length c] : Array Value)[i]? := (Hb2.out.below hb3 (by omega)).cell
  have Hb3 := Lib.hid (Hb2.out.below hb3 (by omega))
  have HW3' := Lib.hid hb3
  have HW3 := Lib.hid (HW2.out.trans (hb3.mono HW2.out.size))
  clear hb3 ho3 hcw Hp
  obtain ⟨P, hP⟩ : ∃ P, putV [] 196608 4 = P := ⟨_, rfl⟩
  rw [hP] at Hv Hpl Ho3
  have hpl := Hpl.out
  simp only [List.length_nil] at hpl
  clear hP Hpl
  have hlt2 : w.heap.size < w2.heap.size := by omega
  go_wp2_with fail
  clear hcw3
  go_loopw [4, 5] (fun v i wr => ∃ k : Nat, k ≤ L.length ∧ i = .int .i64 k ∧ OwnBR w2.heap.size wr v (P ++ parsB (L.take k)) ∧ Below w2.heap.size w2 wr) (fun _ i _ => L.length - (intOf i).toNat)
  case atStart => exact ⟨0, Nat.zero_le _, rfl, (by have h0 : P ++ parsB (L.take 0) = P := (by simp [parsB]); rw [h0]; exact Ho3.out), HW3'.out⟩
  case round =>
    obtain ⟨k, hk, rfl, ho, hb⟩ := hrel
    have hsz := hb.size
    have Hbw := Lib.hid hb
    have Ho := Lib.hid ho
    by_cases hltk : k < L.length
    · obtain ⟨b, o, rfl, hS, hbl, c0, c1⟩ := pr_at Hs0.out hltk
      have Hk := Lib.hid (parsB_take hltk)
      have Hle := Lib.hid (parsB_le L (k + 1))
      have HbX : Hid (∀ w', Below w2.heap.size w2 w' → ∀ i, w'.cell? ⟨w.heap.size, i, none⟩ = (#[.int .i64 196608, .int .i64 hc1, .int .i64 hc2, .slice (some ⟨b, o, none⟩) L.length c] : Array Value)[i]?) := Lib.hid (fun w' h' => (Hb2.out.below h' hlt2).cell)
      have HcX : Hid (∀ w', Below w2.heap.size w2 w' → w'.cell? ⟨b, o + k * 2, none⟩ = some (.string L[k].name) ∧ w'.cell? ⟨b, o + k * 2 + 1, none⟩ = some (.string L[k].value)) := Lib.hid (fun w' h' => by
        have hww := HW2.out.trans (h'.mono HW2.out.size)
        exact ⟨(hww.cell (p := ⟨b, o + k * 2, none⟩) hbl).trans c0, (hww.cell (p := ⟨b, o + k * 2 + 1, none⟩) hbl).trans c1⟩)
      have c0' := (HcX.out wr hb).1
      have hcr := HbX.out wr hb
      clear ho hb hS c0 c1
      generalize L[k] = x at *
      have hlti : (k : Int) < (L.length : Int) := by omega
      obtain ⟨Q, hQ⟩ : ∃ Q, P ++ parsB (L.take k) = Q := ⟨_, rfl⟩
      rw [hQ] at Ho
      have hle := Hle.out
      have hQx : Q.length + (prB x).length ≤ 100004 := by rw [Hk.out, List.length_append] at hle; rw [← hQ, List.length_append]; omega
      have HQ := Lib.hid hQ
      have hr1 : Q.length + x.name.data.toList.length ≤ 200000 := by simp [prB] at hQx ⊢; omega
      have hr2 : (Q ++ x.name.data.toList).length + 1 ≤ 300000 := by rw [List.length_append]; omega
      have hr3 : ((Q ++ x.name.data.toList) ++ [0]).length + x.value.data.toList.length ≤ 400000 := by simp [prB] at hQx ⊢; omega
      have hr4 : (((Q ++ x.name.data.toList) ++ [0]) ++ x.value.data.toList).length + 1 ≤ 500000 := by rw [List.length_append]; omega
      clear hQ hle Hle
      go_upto_region 10 with (first
            | (at_builtin; refine step_appendStr _ rfl (.tmp 23) (.tmp 29) rfl w2.heap.size u4 _ rfl Ho.out x.name rfl (by omega) (by omega) ?_; intro v5name w5name ho5 hg5 hn5; have Ho5name := Lib.hid ho5; have hz5name := hg5.size; have HB5name : Hid (Below w2.heap.size w2 w5name) := Lib.hid (Hbw.out.trans (Below.of_row hg5 (by omega) (fun k hk => (Ho.out.row k hk).1))); clear ho5 hg5 hn5)
            | (at_builtin; refine step_appendBR _ rfl (.tmp 30) (.tmp 31) rfl w2.heap.size v5name _ rfl (Ho5name.out.alloc _) (some ⟨w5name.heap.size, 0, none⟩) [0] 1 1 rfl rfl (BytesIn.new1 w5name 0 0 _ rfl) (by rw [List.length_singleton]; omega) (by rw [World.size_alloc]; omega) ?_; intro v6name w6name ho6 hg6 hn6; have Ho6name := Lib.hid ho6; have HB6name : Hid (Below w2.heap.size w2 w6name) := Lib.hid ((HB5name.out.alloc (by omega) _).trans (Below.of_row hg6 (by rw [World.size_alloc]; omega) (fun k hk => (Ho5name.out.row k hk).1))); have hz6name := HB6name.out.size; clear ho6 hg6 hn6; have hcw6name := HbX.out w6name HB6name.out; have c16name := (HcX.out w6name HB6name.out).2))
      clear hcr c0'
      go_wp2_with (first
            | (at_builtin; refine step_appendStr _ rfl (.tmp 33) (.tmp 39) rfl w2.heap.size v6name _ rfl Ho6name.out x.value rfl (by omega) (by omega) ?_; intro v5value w5value ho5 hg5 hn5; have Ho5value := Lib.hid ho5; have hz5value := hg5.size; have HB5value : Hid (Below w2.heap.size w2 w5value) := Lib.hid (HB6name.out.trans (Below.of_row hg5 (by omega) (fun k hk => (Ho6name.out.row k hk).1))); clear ho5 hg5 hn5)
            | (at_builtin; refine step_appendBR _ rfl (.tmp 40) (.tmp 41) rfl w2.heap.size v5value _ rfl (Ho5value.out.alloc _) (some ⟨w5value.heap.size, 0, none⟩) [0] 1 1 rfl rfl (BytesIn.new1 w5value 0 0 _ rfl) (by rw [List.length_singleton]; omega) (by rw [World.size_alloc]; omega) ?_; intro v6value w6value ho6 hg6 hn6; have Ho6value := Lib.hid ho6; have HB6value : Hid (Below w2.heap.size w2 w6value) := Lib.hid ((HB5value.out.alloc (by omega) _).trans (Below.of_row hg6 (by rw [World.size_alloc]; omega) (fun k hk => (Ho5value.out.row k hk).1))); have hz6value := HB6value.out.size; clear ho6 hg6 hn6; have hcw6value := HbX.out w6value HB6value.out; have c16value := (HcX.out w6value HB6value.out).2))
      go_roundw
      case rel =>
        refine ⟨k + 1, by omega, by go_num, ?_, HB6value.out⟩
        have hfin := Ho6value.out
        rw [Hk.out, ← List.append_assoc, HQ.out]
        have he : Q ++ prB x = (((Q ++ x.name.data.toList) ++ [0]) ++ x.value.data.toList) ++ [0] := by simp [prB]
        rw [he]
        exact hfin
      case measure => simp [intOf]; omega
    · obtain rfl : k = L.length := by omega
      rw [parsB_all] at ho
      have Hoe := Lib.hid ho
      have hroom3 : (P ++ parsB L).length + 1 ≤ 200000 := by rw [List.length_append]; omega
      have hcr : ∀ i, wr.cell? ⟨w.heap.size, i, none⟩ = (#[.int .i64 196608, .int .i64 hc1, .int .i64 hc2, .slice p L.length c] : Array Value)[i]? := (Hb2.out.below hb hlt2).cell
      clear ho hb hltk hk Ho
      go_wp2_with (at_builtin; refine step_appendBR _ rfl (.tmp 43) (.tmp 44) rfl w2.heap.size u4 _ rfl (Hoe.out.alloc _) (some ⟨wr.heap.size, 0, none⟩) [0] 1 1 rfl rfl (BytesIn.new1 wr 0 0 _ rfl) (by rw [List.length_singleton]; omega) (by rw [World.size_alloc]; omega) ?_; intro v6 w6 ho6 hg6 hn6; have Ho6 := Lib.hid ho6; have HB6 : Hid (Below w2.heap.size w2 w6) := Lib.hid ((Hbw.out.alloc (by omega) _).trans (Below.of_row hg6 (by rw [World.size_alloc]; omega) (fun k hk => (Hoe.out.row k hk).1))); clear ho6 hg6 hn6)
      go_ret2
      rw [Hv.out]
      exact ⟨_, rfl, OwnR.base Ho6.out (by omega), HW2.out.trans (HB6.out.mono HW2.out.size)⟩

theorem rbuild_any (S : Nat → Prop) (h : HelV) (p : Option Addr) (c : Nat) (w : World) (hs : SliceS 2 PrS S w [.slice p h.params.length c] h.params) (hsz : ∀ x ∈ h.params, x.name.size ≤ 100000 ∧ x.value.size ≤ 100000) (hl : (parsB h.params).length ≤ 100000) :
    Calls Tryz.prog 43 #[helArg h p c] w (BuildR h w) := by
  cases hm : mayV h with
  | false => exact rbuild_no S h p c w hs hsz hm
  | true =>
    rcases may_code hm with h1 | h1 | h1
    · exact rbuild_version S h p c w hs hsz hl hm h1
    · exact rbuild_cancel S h p c w hs hsz hm h1
    · exact rbuild_ssl S h p c w hs hsz hm h1

end Go.Proofs.YtacnmdlefonjmaaGreat

/-
  The first message of an ordinary client; whether what comes is told; ClientNobody's walk (layer 39).
-/
namespace Go.Proofs.YtacnmdlefonjmaaGreat
open Go.RowKit
set_option linter.unusedVariables false
set_option linter.unusedSimpArgs false

def awHel : HelV := ⟨196608, 0, 0, [⟨⟨#[117, 115, 101, 114]⟩, ⟨#[117]⟩⟩]⟩
def helloB : List UInt8 := [0, 0, 0, 16, 0, 3, 0, 0, 117, 115, 101, 114, 0, 117, 0, 0]
theorem awh0 : msgL 0 (buildV awHel).1 = helloB := by decide +kernel
theorem awhl : (buildV awHel).1.length ≤ 100000 := by decide +kernel
theorem awh1 : (peekV false 1000 ([] ++ helloB) 0).kind = 1 := by decide +kernel
theorem awh2 : (peekV false 1000 ([] ++ helloB) 0).hel.code = 196608 := by decide +kernel
theorem awh3 : restL false 1000 ([] ++ helloB) 0 = [] := by decide +kernel
theorem awh4 : wrongL false 1000 ([] ++ helloB) 0 = 0 := by decide +kernel
def tenB : List UInt8 := [83, 0, 0, 0, 4, 100, 0, 0, 0, 4]
theorem awh5 : (peekV true 1000 ([] ++ tenB) 0).kind = 2 := by decide +kernel
theorem awh6 : (peekV true 1000 ([] ++ tenB) 0).front.kind = 83 := by decide +kernel
theorem awh7 : restL true 1000 ([] ++ tenB) 0 = [100, 0, 0, 0, 4] := by decide +kernel
theorem awh8 : wrongL true 1000 ([] ++ tenB) 0 = 0 := by decide +kernel
theorem awh9 : (peekV true 1000 [100, 0, 0, 0, 4] 0).kind = 3 := by decide +kernel
theorem awh10 : (peekV true 1000 [100, 0, 0, 0, 4] 0).code = codeA := by decide +kernel
theorem tenA : (#[.int .u8 83, .int .u8 0, .int .u8 0, .int .u8 0, .int .u8 4, .int .u8 100, .int .u8 0, .int .u8 0, .int .u8 0, .int .u8 4] : Array Value).toList = bytesV tenB := by simp [bytesV, byteV, tenB]

set_option maxRecDepth 100000 in
set_option maxHeartbeats 8000000 in
theorem hello_any (w : World) : Calls Tryz.prog 23 #[] w fun e w' => ∃ v, e = .returned v ∧ OwnBR w.heap.size w' v helloB ∧ Below w.heap.size w w' := by
  have hs : SliceS 2 PrS (fun _ => True) (w.alloc (.cells #[.string ⟨#[117, 115, 101, 114]⟩, .string ⟨#[117]⟩] 93)) [.slice (some ⟨w.heap.size, 0, none⟩) 1 1] awHel.params := SliceS.new1 (S := fun _ => True) PrS.still w 93 #[.string ⟨#[117, 115, 101, 114]⟩, .string ⟨#[117]⟩] ⟨⟨#[117, 115, 101, 114]⟩, ⟨#[117]⟩⟩ rfl rfl (fun _ _ h => h) trivial
  have HB := Lib.hid (rbuild_any _ awHel _ 1 _ hs (by decide +kernel) (by decide +kernel))
  have Hal := Lib.hid ((Below.refl w.heap.size w).alloc (Nat.le_refl _) (.cells #[.string ⟨#[117, 115, 101, 114]⟩, .string ⟨#[117]⟩] 93))
  unfold helArg helCells awHel at HB
  clear hs
  go_enter Tryz.func23, Tryz.ntmps23
  go_wp2_with fail
  refine HB.out.mono ?_
  rintro e w2 ⟨v, rfl, ho, hb⟩
  rw [show (⟨196608, 0, 0, [⟨⟨#[117, 115, 101, 114]⟩, ⟨#[117]⟩⟩]⟩ : HelV) = awHel from rfl] at ho ⊢
  obtain ⟨p, c, rfl, hin⟩ := ho.bytesS (S := fun _ => True) (fun _ _ => trivial)
  obtain ⟨p', c', e', -, -, hq, -⟩ := hin
  simp only [List.cons.injEq, Value.slice.injEq, and_true] at e'
  obtain ⟨rfl, -, rfl⟩ := e'
  have Hb2 := Lib.hid (Hal.out.trans (hb.mono Hal.out.size))
  have HM := Lib.hid (frBytesR_any 0 _ p c w2 hq awhl)
  rw [awh0] at HM
  unfold msgArg at HM
  generalize (buildV awHel).1.length = n at *
  generalize (buildV awHel).2 = er at *
  clear ho hb hq HB Hal
  go_wp2_with fail
  refine HM.out.mono ?_
  rintro e w3 ⟨v3, rfl, ho3, hb3⟩
  have Ho3 := Lib.hid (ho3.base (Nat.le_trans Hb2.out.size (Nat.le_refl _)))
  have Hb3 := Lib.hid (Hb2.out.trans (hb3.mono Hb2.out.size))
  obtain ⟨p3, c3, rfl, _⟩ := OwnBR.slice ho3
  clear ho3 hb3 HM
  go_wp2_with fail
  go_ret
  exact ⟨_, rfl, Ho3.out, Hb3.out⟩

theorem frT_belowC {B cb sb : Nat} {t : Bool} {L : List UInt8} {most room : Nat} {wrong : Int} {v : Value} {w w' : World} (h : ClO B w cb sb t L most room wrong v) (hT : FrT sb v w w') (hB : B ≤ w.heap.size) : Below B w w' :=
  hT.below hB (fun k hk => by
    rcases hk with e | e
    · rw [e]; exact h.fr.sB
    · exact (h.fr.own.row k e).1)

set_option maxRecDepth 100000 in
set_option maxHeartbeats 16000000 in
theorem clAwake (w : World) : Calls Tryz.prog 8 #[] w fun e w' => e = .returned (.bool true) ∧ Below w.heap.size w w' := by
  have hN : Calls Tryz.prog 5 #[.int .i64 1000, .int .i64 2000] w _ := clNew_ok 1000 2000 w (by omega) (by omega) (by omega) (by omega)
  have HN := Lib.hid hN
  have HH := Lib.hid hello_any
  clear hN
  go_enter Tryz.func8, Tryz.ntmps8
  go_wp2_with fail
  refine HN.out.mono ?_
  rintro e w1 ⟨cb, sb, rfl, hc1, hb1⟩
  have H1 := Lib.hid hc1
  have Hb1 := Lib.hid hb1
  clear hc1 hb1 HN
  go_wp2_with fail
  refine (HH.out _).mono ?_
  rintro e w2 ⟨v2, rfl, ho2, hb2⟩
  have H2 := Lib.hid (H1.out.still hb2)
  have Hb2 := Lib.hid (Hb1.out.trans (hb2.mono Hb1.out.size))
  obtain ⟨p2, c2, rfl, -, -, hq, -⟩ := OwnBR.slice ho2
  have HF := Lib.hid (clFeed_ok _ cb sb false [] 1000 2000 0 _ p2 helloB c2 w2 H2.out (by omega) (by omega) (by simp [helloB]) Hb2.out.size hq)
  clear ho2 hb2 hq H1 Hb1
  go_wp2_with fail
  refine HF.out.mono ?_
  rintro e w3 ⟨v3, rfl, hc3, hr3, hT3⟩
  have H3 := Lib.hid hc3
  have Hb3 := Lib.hid (Hb2.out.trans (frT_belowC H2.out hT3 Hb2.out.size))
  have HTk := Lib.hid (clTake_any _ cb sb false _ 1000 2000 0 v3 w3 hc3 (by omega) (by simp [helloB]) (by omega))
  rw [awh3, awh4] at HTk
  obtain ⟨x, hx⟩ : ∃ x, x = peekV false 1000 ([] ++ helloB) 0 := ⟨_, rfl⟩
  have Hx : Hid (x.kind = 1 ∧ x.hel.code = 196608) := Lib.hid (by rw [hx]; exact ⟨awh1, awh2⟩)
  rw [← hx] at HTk
  clear hc3 hr3 hT3 HF hx H2 Hb2
  obtain ⟨xk, ⟨xc, xp, xs, xl⟩, xf, xco, xt⟩ := x
  dsimp only at Hx
  obtain ⟨rfl, rfl⟩ := Hx.out
  go_wp2_with fail
  refine HTk.out.mono ?_
  rintro e w4 ⟨⟨px, cx, ax, rfl, -, -⟩, v4, hc4, hr4, hT4⟩
  have H4 := Lib.hid hc4
  have Hb4 := Lib.hid (Hb3.out.trans (frT_belowC H3.out hT4 Hb3.out.size))
  unfold itArg itCells
  dsimp only
  clear hc4 hr4 hT4 HTk H3 Hb3 Hx
  go_wp2_with (refine wpList_store_it _ rfl (.tmp 3) (.tmp 23) rfl w4.heap.size _ _ rfl rfl (Blk.new _ _ _) rfl rfl (by simp [Value.oneCell']) ?_; intro w5 hb hT; have HBw5 := Lib.hid hb; have HTw5 := Lib.hid hT; clear hb hT)
  have hz5 : w4.heap.size < w5.heap.size := Nat.lt_of_lt_of_le (by simp) HTw5.out.size
  have H5 := Lib.hid ((H4.out.still ((Below.refl _ _).alloc (Nat.le_refl _) (.cells #[.int .i64 0, .int .i64 0, .int .i64 0, .int .i64 0, .slice none 0 0, .int .u8 0, .int .u8 0, .string ⟨#[]⟩, .string ⟨#[]⟩, .string ⟨#[]⟩, .slice none 0 0, .slice none 0 0, .slice none 0 0, .slice none 0 0, .int .i64 0, .string ⟨#[]⟩, .string ⟨#[]⟩] 48))).touch HTw5.out (by have := H4.out.blk.lt; omega) (by have := H4.out.fr.blk.lt; omega) (fun k hk => by have := (H4.out.fr.own.row k hk).2; omega))
  have Hb5 := Lib.hid (Hb4.out.trans (((Below.refl w4.heap.size w4).alloc (Nat.le_refl _) (.cells #[.int .i64 0, .int .i64 0, .int .i64 0, .int .i64 0, .slice none 0 0, .int .u8 0, .int .u8 0, .string ⟨#[]⟩, .string ⟨#[]⟩, .string ⟨#[]⟩, .slice none 0 0, .slice none 0 0, .slice none 0 0, .slice none 0 0, .int .i64 0, .string ⟨#[]⟩, .string ⟨#[]⟩] 48)).trans (HTw5.out.below (by simp) (fun k e => by omega)) |>.mono Hb4.out.size))
  have Hg5 : Hid (cb ≠ w4.heap.size ∧ sb ≠ w4.heap.size ∧ ∀ k, rowOf v4 = some k → k ≠ w4.heap.size) := Lib.hid ⟨by have := H4.out.blk.lt; omega, by have := H4.out.fr.blk.lt; omega, fun k hk => by have := (H4.out.fr.own.row k hk).2; omega⟩
  obtain ⟨g1, hg1⟩ : ∃ g1, g1 = w4.heap.size := ⟨_, rfl⟩
  rw [← hg1] at HBw5 Hg5 hz5 ⊢
  have HBg := Lib.hid (clBegin_any _ cb sb false [] 1000 2000 0 v4 w5 H5.out (by omega))
  have HB5 := HBw5
  clear hg1 HTw5 HBw5 H4 Hb4
  refine HBg.out.mono ?_
  rintro e w6 ⟨rfl, hc6, hT6⟩
  have H6 := Lib.hid hc6
  have HB6 := Lib.hid (hT6.blk HB5.out (fun e => by rcases e with e | e; (· exact Hg5.out.1 e.symm); (· exact Hg5.out.2.1 e.symm)))
  have Hb6 := Lib.hid (Hb5.out.trans (hT6.below Hb5.out.size (fun k e => by rcases e with e | e; (· rw [e]; exact hc6.cB); (· rw [e]; exact hc6.fr.sB))))
  have hin := BytesIn.newB w6 tenB _ 5 tenA
  have hal : Below w6.heap.size w6 (w6.alloc (.cells #[.int .u8 83, .int .u8 0, .int .u8 0, .int .u8 0, .int .u8 4, .int .u8 100, .int .u8 0, .int .u8 0, .int .u8 0, .int .u8 4] 5)) := (Below.refl _ _).alloc (Nat.le_refl _) _
  have HF := Lib.hid (clFeed_ok _ cb sb true [] 1000 2000 0 v4 _ tenB 10 _ (hc6.still hal) (by omega) (by omega) (by simp [tenB]) (Nat.le_trans Hb6.out.size hal.size) hin)
  have H7 := Lib.hid (hc6.still hal)
  have HB7 := Lib.hid (HB6.out.below hal HB6.out.lt)
  have Hb7 := Lib.hid (Hb6.out.trans (hal.mono Hb6.out.size))
  clear hc6 hT6 hin hal HBg H5 HB5 Hb5 HB6 Hb6 H6 hz5
  have htl : tenB.length = 10 := rfl
  rw [htl] at HF
  clear htl
  go_wp2_with fail
  generalize (w6.alloc (.cells #[.int .u8 83, .int .u8 0, .int .u8 0, .int .u8 0, .int .u8 4, .int .u8 100, .int .u8 0, .int .u8 0, .int .u8 0, .int .u8 4] 5)) = w7 at *
  refine HF.out.mono ?_
  rintro e w8 ⟨v8, rfl, hc8, hr8, hT8⟩
  have H8 := Lib.hid hc8
  have hg7 := HB7.out.lt
  have HB8 := Lib.hid (hT8.blk HB7.out (fun e => by rcases e with e | e; (· exact Hg5.out.2.1 e.symm); (· exact Hg5.out.2.2 g1 e rfl)))
  have Hb8 := Lib.hid (Hb7.out.trans (frT_belowC H7.out hT8 Hb7.out.size))
  have Hg8 : Hid (cb ≠ g1 ∧ sb ≠ g1 ∧ ∀ k, rowOf v8 = some k → k ≠ g1) := Lib.hid ⟨Hg5.out.1, Hg5.out.2.1, fun k hk => by
    rcases hr8 k hk with e | e
    · exact Hg5.out.2.2 k e
    · omega⟩
  have HTk := Lib.hid (clTake_any _ cb sb true _ 1000 2000 0 v8 w8 hc8 (by omega) (by simp [tenB]) (by omega))
  rw [awh7, awh8] at HTk
  obtain ⟨y, hy⟩ : ∃ y, y = peekV true 1000 ([] ++ tenB) 0 := ⟨_, rfl⟩
  have Hy : Hid (y.kind = 2 ∧ y.front.kind = 83) := Lib.hid (by rw [hy]; exact ⟨awh5, awh6⟩)
  rw [← hy] at HTk
  clear hc8 hr8 hT8 hg7 HF hy H7 HB7 Hb7 Hg5
  obtain ⟨yk, yh, ⟨yf1, yf2, yf3, yf4, yf5, yf6, yf7, yf8, yf9, yf10⟩, yco, yt⟩ := y
  dsimp only at Hy
  obtain ⟨rfl, rfl⟩ := Hy.out
  go_wp2_with fail
  refine HTk.out.mono ?_
  rintro e w9 ⟨⟨py, cy, ay, rfl, -, -⟩, v9, hc9, hr9, hT9⟩
  have H9 := Lib.hid hc9
  have HB9 := Lib.hid (hT9.blk HB8.out (fun e => by rcases e with e | e; (· exact Hg8.out.2.1 e.symm); (· exact Hg8.out.2.2 g1 e rfl)))
  have Hb9 := Lib.hid (Hb8.out.trans (frT_belowC H8.out hT9 Hb8.out.size))
  have Hg9 : Hid (cb ≠ g1 ∧ sb ≠ g1 ∧ ∀ k, rowOf v9 = some k → k ≠ g1) := Lib.hid ⟨Hg8.out.1, Hg8.out.2.1, fun k hk => Hg8.out.2.2 k (hr9 k hk)⟩
  unfold itArg itCells
  dsimp only
  clear hc9 hr9 hT9 HTk H8 Hb8 Hy HB8 Hg8
  go_wp2_with (refine wpList_store_it _ rfl (.tmp 4) (.tmp 30) rfl w9.heap.size _ _ rfl rfl (Blk.new _ _ _) rfl rfl (by simp [Value.oneCell']) ?_; intro wa hb hT; have HBwa := Lib.hid hb; have HTwa := Lib.hid hT; clear hb hT)
  have hz10 : w9.heap.size < wa.heap.size := Nat.lt_of_lt_of_le (by simp) HTwa.out.size
  have Hc10 := Lib.hid ((H9.out.still ((Below.refl _ _).alloc (Nat.le_refl _) (.cells #[.int .i64 0, .int .i64 0, .int .i64 0, .int .i64 0, .slice none 0 0, .int .u8 0, .int .u8 0, .string ⟨#[]⟩, .string ⟨#[]⟩, .string ⟨#[]⟩, .slice none 0 0, .slice none 0 0, .slice none 0 0, .slice none 0 0, .int .i64 0, .string ⟨#[]⟩, .string ⟨#[]⟩] 48))).touch HTwa.out (by have := H9.out.blk.lt; omega) (by have := H9.out.fr.blk.lt; omega) (fun k hk => by have := (H9.out.fr.own.row k hk).2; omega))
  have HB10 := Lib.hid (HTwa.out.blk (HB9.out.alloc (.cells #[.int .i64 0, .int .i64 0, .int .i64 0, .int .i64 0, .slice none 0 0, .int .u8 0, .int .u8 0, .string ⟨#[]⟩, .string ⟨#[]⟩, .string ⟨#[]⟩, .slice none 0 0, .slice none 0 0, .slice none 0 0, .slice none 0 0, .int .i64 0, .string ⟨#[]⟩, .string ⟨#[]⟩] 48)) (by have := HB9.out.lt; omega))
  have Hb10 := Lib.hid (Hb9.out.trans (((Below.refl w9.heap.size w9).alloc (Nat.le_refl _) (.cells #[.int .i64 0, .int .i64 0, .int .i64 0, .int .i64 0, .slice none 0 0, .int .u8 0, .int .u8 0, .string ⟨#[]⟩, .string ⟨#[]⟩, .string ⟨#[]⟩, .slice none 0 0, .slice none 0 0, .slice none 0 0, .slice none 0 0, .int .i64 0, .string ⟨#[]⟩, .string ⟨#[]⟩] 48)).trans (HTwa.out.below (by simp) (fun k e => by omega)) |>.mono Hb9.out.size))
  have Hg10 : Hid (sb ≠ w9.heap.size) := Lib.hid (by have := H9.out.fr.blk.lt; omega)
  obtain ⟨g2, hg2⟩ : ∃ g2, g2 = w9.heap.size := ⟨_, rfl⟩
  rw [← hg2] at HBwa Hg10 hz10 ⊢
  have HPk := Lib.hid (clPeek_any _ cb sb true [100, 0, 0, 0, 4] 1000 2000 0 v9 wa Hc10.out (by omega) (by simp) (by omega))
  have HBa := HBwa
  obtain ⟨z, hz⟩ : ∃ z, z = peekV true 1000 [100, 0, 0, 0, 4] 0 := ⟨_, rfl⟩
  have Hz : Hid (z.kind = 3 ∧ z.code = codeA) := Lib.hid (by rw [hz]; exact ⟨awh9, awh10⟩)
  rw [← hz] at HPk
  clear hg2 hz HTwa HBwa H9 Hb9 HB9
  obtain ⟨zk, zh, zf, zco, zt⟩ := z
  dsimp only at Hz
  obtain ⟨rfl, rfl⟩ := Hz.out
  go_wp2_with fail
  refine HPk.out.mono ?_
  rintro e wb ⟨⟨pz, cz, az, rfl, -, -⟩, hcb, hTb⟩
  have HB11 := Lib.hid (hTb.blk HB10.out (fun e => Hg9.out.2.1 e.symm))
  have HB12 := Lib.hid (hTb.blk HBa.out (fun e => Hg10.out e.symm))
  have Hb11 := Lib.hid (Hb10.out.trans (hTb.below Hb10.out.size (fun k e => by rw [e]; exact hcb.fr.sB)))
  unfold itArg itCells codeA
  dsimp only
  clear hcb hTb HPk Hc10 HB10 HBa Hb10 Hz Hg9 Hg10 hz10
  have hcd : ((⟨#[48, 65, 48, 48, 48]⟩ : ByteArray).toList == (⟨#[48, 65, 48, 48, 48]⟩ : ByteArray).toList) = true := beq_self_eq_true _
  go_wp2_with (refine wpList_store_it _ rfl (.tmp 5) (.tmp 32) rfl wb.heap.size _ _ rfl rfl (Blk.new _ _ _) rfl rfl (by simp [Value.oneCell']) ?_; intro wc hb hT; have HBwc := Lib.hid hb; have HTwc := Lib.hid hT; have c1 : wc.cell? ⟨g1, 0, none⟩ = some (.int .i64 1) := (hT.blk (HB11.out.alloc _) (by have := HB11.out.lt; omega)).cell 0; have c2 : wc.cell? ⟨g1, 1, none⟩ = some (.int .i64 196608) := (hT.blk (HB11.out.alloc _) (by have := HB11.out.lt; omega)).cell 1; have c3 : wc.cell? ⟨g2, 0, none⟩ = some (.int .i64 2) := (hT.blk (HB12.out.alloc _) (by have := HB12.out.lt; omega)).cell 0; have c4 : wc.cell? ⟨g2, 5, none⟩ = some (.int .u8 83) := (hT.blk (HB12.out.alloc _) (by have := HB12.out.lt; omega)).cell 5; have c5 : wc.cell? ⟨wb.heap.size, 0, none⟩ = some (.int .i64 3) := hb.cell 0; have c6 : wc.cell? ⟨wb.heap.size, 15, none⟩ = some (.string ⟨#[48, 65, 48, 48, 48]⟩) := hb.cell 15; have Hbc := Lib.hid (Hb11.out.trans (((Below.refl wb.heap.size wb).alloc (Nat.le_refl _) (.cells #[.int .i64 0, .int .i64 0, .int .i64 0, .int .i64 0, .slice none 0 0, .int .u8 0, .int .u8 0, .string ⟨#[]⟩, .string ⟨#[]⟩, .string ⟨#[]⟩, .slice none 0 0, .slice none 0 0, .slice none 0 0, .slice none 0 0, .int .i64 0, .string ⟨#[]⟩, .string ⟨#[]⟩] 48)).trans (hT.below (by simp) (fun k e => by omega)) |>.mono Hb11.out.size)); clear hb hT)
  go_ret
  exact ⟨rfl, Hbc.out⟩

end Go.Proofs.YtacnmdlefonjmaaGreat

