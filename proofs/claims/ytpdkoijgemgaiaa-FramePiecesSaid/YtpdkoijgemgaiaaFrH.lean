/-
  A message's bytes, and the walk of FrameBytes (layer 4).
-/
import Derived.Test.YtpdkoijgemgaiaaFrG
import Derived.Test.YtpdkoijgemgaiaaFrBy
namespace Go.Proofs.Ytpdkoijgemgaiaa
open Go.RowKit

theorem msgL_eq (ty : UInt8) (l : List UInt8) (hl : l.length ≤ 1000) : msgL ty l = (if ty = 0 then [] else [ty]) ++ (putB ((l.length : Int) + 4) 4 4 ++ l) := by
  unfold msgL
  have := putV_right (l := if ty = 0 then [] else [ty]) (n := (l.length : Int) + 4) (z := 4) (rightB_4 (by omega) (by omega))
  have h4 : putV (if ty = 0 then [] else [ty]) ((l.length : Int) + 4) 4 = putV (if ty = 0 then [] else [ty]) ((l.length : Int) + 4) ((4 : Nat) : Int) := rfl
  rw [h4, this, List.append_assoc]

theorem nextL_pre (t : Bool) (pre P l : List UInt8) (hp : pre.length = headN t) (hP : P.length = 4) (hb : be P = (l.length : Int) + 4) (hl : l.length ≤ 1000) :
    nextL t 2000 (pre ++ (P ++ l)) 0 = some (tyOf t (pre ++ (P ++ l)), l, []) := by
  have hlen : (pre ++ (P ++ l)).length = headN t + 4 + l.length := by rw [List.length_append, List.length_append, hp, hP]; omega
  have hd : (pre ++ (P ++ l)).drop (headN t) = P ++ l := by rw [← hp, List.drop_left]
  have hN : frN t (pre ++ (P ++ l)) = (l.length : Int) + 4 := by
    unfold frN
    rw [hd, ← hP, List.take_left, hb]
  have he : frErr 2000 ((l.length : Int) + 4) = 0 := by
    unfold frErr
    rw [if_neg (by omega), if_neg (by omega)]
  have hw : frWhole t (pre ++ (P ++ l)) 2000 0 = (((headN t + 4 + l.length : Nat) : Int), true, 0) := by
    unfold frWhole
    rw [if_neg (by simp), if_neg (by omega), hN, if_neg (by rw [he]; simp)]
    simp only [Prod.mk.injEq, decide_eq_true_eq, and_true]
    omega
  unfold nextL
  rw [hw]
  simp only [if_true, Int.toNat_natCast]
  have h1 : (pre ++ (P ++ l)).drop (headN t + 4) = l := by rw [← List.drop_drop, hd, ← hP, List.drop_left]
  rw [h1, show headN t + 4 + l.length - (headN t + 4) = l.length from by omega, List.take_length, List.drop_eq_nil_of_le (by omega)]

theorem nextL_msg (ty : UInt8) (l : List UInt8) (hl : l.length ≤ 1000) : nextL (!decide (ty = 0)) 2000 (msgL ty l) 0 = some (ty.toNat, l, []) := by
  rw [msgL_eq ty l hl]
  have hP := putB_length ((l.length : Int) + 4) 4 4
  have hb := be_put4 (n := (l.length : Int) + 4) (by omega) (by omega)
  by_cases h0 : ty = 0
  · subst h0
    rw [if_pos rfl, nextL_pre _ [] _ l rfl hP hb hl]
    rfl
  · rw [if_neg h0]
    have ht : (!decide (ty = 0)) = true := by simp [h0]
    rw [ht, nextL_pre true [ty] _ l rfl hP hb hl]
    simp [tyOf, List.getD]

/-- Two messages that are the same. -/
theorem frSame_any (ty : UInt8) (l : List UInt8) (p q : Option Addr) (c d : Nat) (w : World) (h1 : BytesIn w p l) (h2 : BytesIn w q l) :
    Calls Try.prog 67 #[msgArg ty p l.length c, msgArg ty q l.length d] w fun e w' => e = .returned (.bool true) ∧ Below w.heap.size w w' := by
  have H1 := Lib.hid h1
  have H2 := Lib.hid h2
  obtain ⟨x, hX⟩ : ∃ x : Int, (ty.toNat : Int) = x := ⟨_, rfl⟩
  unfold msgArg
  rw [hX]
  clear h1 h2 hX
  go_enter Try.func67, Try.ntmps67
  go_wp2_with (go_at_call 58; refine (equal_any _ _ l l _ _ _ ((H1.out.alloc _).alloc _) ((H2.out.alloc _).alloc _)).mono ?_; rintro e w1 ⟨rfl, rfl⟩; rw [beq_self_eq_true])
  go_ret
  exact ⟨rfl, ((Below.refl _ _).alloc (Nat.le_refl _) _).alloc (by simp) _⟩

/-- What stays while the statement's last line runs. -/
structure FbI (w0 w : World) (B sb : Nat) (t : Bool) (v : Value) (g g5 : Nat) (c0 c5 : Array Value) (l : List UInt8) (p q : Option Addr) : Prop where
  fr : FrO B w sb t [] 2000 4000 0 v
  b1 : Blk w g 67 c0
  b2 : Blk w g5 67 c5
  i1 : BytesIn w p l
  i2 : BytesIn w q l
  bel : Below w0.heap.size w0 w
theorem FbI.step {w0 w w' : World} {B sb : Nat} {t : Bool} {v : Value} {g g5 : Nat} {c0 c5 : Array Value} {l : List UInt8} {p q : Option Addr} (h : FbI w0 w B sb t v g g5 c0 c5 l p q) (hb : Below w.heap.size w w') : FbI w0 w' B sb t v g g5 c0 c5 l p q :=
  ⟨h.fr.still hb, h.b1.below hb h.b1.lt, h.b2.below hb h.b2.lt, h.i1.below hb, h.i2.below hb, h.bel.trans (hb.mono h.bel.size)⟩
theorem FbI.cells {w0 w : World} {B sb : Nat} {t : Bool} {v : Value} {g g5 : Nat} {c0 c5 : Array Value} {l : List UInt8} {p q : Option Addr} (h : FbI w0 w B sb t v g g5 c0 c5 l p q) : (∀ i, w.cell? ⟨g, i, none⟩ = c0[i]?) ∧ (∀ i, w.cell? ⟨g5, i, none⟩ = c5[i]?) := ⟨h.b1.cell, h.b2.cell⟩

set_option maxRecDepth 100000 in
set_option maxHeartbeats 10000000 in
theorem frameBytes_walk (ty : UInt8) (l : List UInt8) (p : Option Addr) (c : Nat) (w : World) (hx : BytesIn w p l) :
    Calls Try.prog 13 #[msgArg ty p l.length c] w fun e w' => e = .returned (.bool true) ∧ Below w.heap.size w w' := by
  have Haw : Hid (∀ w3, Calls Try.prog 46 #[] w3 fun e w' => e = .returned (.bool true) ∧ Below w3.heap.size w3 w') := Lib.hid frAwake
  have hblk := Blk.new w 67 #[.int .u8 (ty.toNat : Int), .slice p l.length c]
  have hby := fun (h : l.length ≤ 1000) (w0 : World) (hi : BytesIn w0 p l) => frBytes_any ty l p c w0 hi (by omega)
  have hbyR := fun (h : l.length ≤ 1000) (w0 : World) (hi : BytesIn w0 p l) => frBytesR_any ty l p c w0 hi (by omega)
  have hsm := fun (q1 q2 : Option Addr) (d1 d2 : Nat) (w0 : World) (h1 : BytesIn w0 q1 l) (h2 : BytesIn w0 q2 l) => frSame_any ty l q1 q2 d1 d2 w0 h1 h2
  unfold msgArg at *
  have hx0 := u8_bd ty
  have hcase : ty = 0 ∨ ¬ ty = 0 := Decidable.em _
  have hxe : (ty.toNat : Int) = 0 ↔ ty = 0 := ⟨fun e => UInt8.toNat_inj.1 (by have : (0 : UInt8).toNat = 0 := rfl; omega), fun e => by rw [e]; rfl⟩
  obtain ⟨x, hX⟩ : ∃ x : Int, (ty.toNat : Int) = x := ⟨_, rfl⟩
  rw [hX] at hx0 hxe hblk ⊢
  simp only [hX] at hby hbyR hsm
  have Hi1 := Lib.hid (hx.alloc (.cells #[.int .u8 x, .slice p l.length c] 67))
  have HB1 := Lib.hid ((Below.refl w.heap.size w).alloc (Nat.le_refl _) (.cells #[.int .u8 x, .slice p l.length c] 67))
  have Hb1 := Lib.hid hblk
  have Hsm := Lib.hid hsm
  have HX := Lib.hid hX
  clear hblk hsm hX hx
  by_cases hbig : 1000 < l.length
  · clear hby hbyR hcase hxe HX
    go_enter Try.func13, Try.ntmps13
    go_wp2_with fail
    generalize w.alloc (.cells #[.int .u8 x, .slice p l.length c] 67) = w1 at *
    refine (Haw.out w1).mono ?_
    rintro e w2 ⟨rfl, hb2⟩
    have HB2 := Lib.hid (HB1.out.trans (hb2.mono HB1.out.size))
    clear hb2
    go_wp2
    go_ret
    exact ⟨rfl, HB2.out⟩
  have hl : l.length ≤ 1000 := by omega
  have Hbig := Lib.hid hbig
  have Hby := Lib.hid (hby hl)
  have HbyR := Lib.hid (hbyR hl)
  clear hby hbyR hbig
  rcases hcase with h0 | h0
  · have hx00 := hxe.2 h0
    subst hx00
    clear hxe hx0
    have Hnx : Hid (nextL false 2000 (msgL ty l) 0 = some (ty.toNat, l, [])) := Lib.hid (by have := nextL_msg ty l hl; rw [show (!decide (ty = 0)) = false by simp [h0]] at this; exact this)
    clear h0 Hbig
    go_enter Try.func13, Try.ntmps13
    go_wp2_with fail
    generalize w.alloc (.cells #[.int .u8 0, .slice p l.length c] 67) = w1 at *
    have hnew : Calls Try.prog 64 #[.int .i64 2000, .int .i64 4000, .bool true] w1 fun e w' =>
      e = .returned (.tuple #[.pointer (some ⟨w1.heap.size, 0, none⟩), .int .i64 0]) ∧ FrO w1.heap.size w' w1.heap.size false [] 2000 4000 0 (.slice none 0 0) ∧ Below w1.heap.size w1 w' := frNew_ok 2000 4000 true w1 (by omega) (by omega) (by omega) (by omega)
    refine hnew.mono ?_
    clear hnew
    rintro e w2 ⟨rfl, hf2, hb2⟩
    have HF2 := Lib.hid hf2
    have HB2 := Lib.hid hb2
    have hb2b := Hb1.out.below hb2 Hb1.out.lt
    have hc2 := hb2b.cell
    have Hi2 := Lib.hid (Hi1.out.below hb2)
    clear hf2 hb2 hb2b
    go_wp2_with fail
    refine (Hby.out w2 Hi2.out).mono ?_
    rintro e w3 ⟨v3, rfl, ho3, hb3⟩
    obtain ⟨p3, c3, rfl, hs3⟩ := ho3.bytesS (S := fun _ => True) (fun _ _ => trivial)
    have HF3 := Lib.hid (HF2.out.still hb3)
    have HB3 := Lib.hid (HB2.out.trans (hb3.mono HB2.out.size))
    have Hs3 := Lib.hid hs3.parts.2.2.2
    have hml := msgL_len ty l
    clear ho3 hb3 hs3 hc2
    go_wp2_with fail
    refine (frFeed_ok _ _ false [] 2000 4000 0 _ p3 (msgL ty l) c3 w3 HF3.out (by omega) (by omega) (by simp; omega) HB3.out.size Hs3.out).mono ?_
    rintro e w4 ⟨v4, rfl, hf4, _, hT4⟩
    rw [List.nil_append] at hf4
    have HF4 := Lib.hid hf4
    have HB4 := Lib.hid (HB3.out.trans (frT_below HF3.out hT4 HB3.out.size))
    clear hf4 hT4 HF2 HF3 Hi2
    go_wp2_with fail
    refine (frNext_any _ _ false _ 2000 4000 0 v4 w4 HF4.out (by omega) (by omega)).mono ?_
    rintro e w5 hn
    obtain ⟨q, d, v5, rfl, hbs5, hf5, _, hT5⟩ := frNext_some hn Hnx.out
    rw [HX.out]
    have hB5 := HB4.out.trans (frT_below HF4.out hT5 HB4.out.size)
    have hal : Below w5.heap.size w5 (w5.alloc (.cells #[.int .u8 0, .slice q l.length d] 67)) := (Below.refl _ _).alloc (Nat.le_refl _) _
    have hB6 := hB5.trans (hal.mono hB5.size)
    have HI := Lib.hid (show FbI w1 (w5.alloc (.cells #[.int .u8 0, .slice q l.length d] 67)) w1.heap.size w1.heap.size false v5 w.heap.size w5.heap.size #[.int .u8 0, .slice p l.length c] #[.int .u8 0, .slice q l.length d] l p q from
      ⟨hf5.still hal, Hb1.out.below hB6 Hb1.out.lt, Blk.new _ _ _, Hi1.out.below hB6, hbs5.parts.2.2.2.below hal, hB6⟩)
    clear hn hbs5 hf5 hT5 hB5 hal hB6 HF4 HB2 HB3 HB4 Hnx hml
    go_wp2_with fail
    generalize w5.alloc (.cells #[.int .u8 0, .slice q l.length d] 67) = w6 at *
    generalize w5.heap.size = g5 at *
    have hcl := HI.out.cells
    obtain ⟨hcl1, hcl2⟩ := hcl
    go_region_held3 (fun w' => (∀ i, w'.cell? ⟨w.heap.size, i, none⟩ = (#[.int .u8 0, .slice p l.length c] : Array Value)[i]?) ∧ (∀ i, w'.cell? ⟨g5, i, none⟩ = (#[.int .u8 0, .slice q l.length d] : Array Value)[i]?))
      (first | exact ⟨hcl1, hcl2⟩ | exact HIA.out.cells | exact HIB.out.cells | exact HIC.out.cells | exact HID.out.cells | go_keep)
      (first
        | (go_at_call 65; refine (Hby.out _ (HI.out.i1.drewN 1)).mono ?_; rintro e wA ⟨vA, rfl, ho, hb⟩; obtain ⟨pA, cA, rfl, hrA⟩ := ho.bytesS (S := fun _ => True) (fun _ _ => trivial); have HrA := Lib.hid hrA; have HIA := Lib.hid (HI.out.step (below_ofDr hb)); clear hb ho hrA hcl1 hcl2)
        | (go_at_call 66; refine (HbyR.out _ HIA.out.i1).mono ?_; rintro e wB ⟨vB, rfl, ho, hb⟩; obtain ⟨pB, cB, rfl, hrB⟩ := ho.bytesS (S := fun _ => True) (fun _ _ => trivial); have HrB := Lib.hid hrB; have HrA2 := Lib.hid (HrA.out.below hb); have HIB := Lib.hid (HIA.out.step hb); clear hb ho hrB)
        | (go_at_call 58; refine (equal_any pA pB (msgL ty l) (msgL ty l) cA cB _ HrA2.out.parts.2.2.2 HrB.out.parts.2.2.2).mono ?_; rintro e w9 ⟨rfl, rfl⟩; rw [beq_self_eq_true])
        | (go_at_call 67; refine (Hsm.out q p d c _ HIB.out.i2 HIB.out.i1).mono ?_; rintro e wC ⟨rfl, hb⟩; have HIC := Lib.hid (HIB.out.step hb); clear hb)
        | (go_at_call 45; refine (frSize_any _ _ false [] 2000 4000 0 v5 _ HIC.out.fr (by omega)).mono ?_; rintro e w9 ⟨rfl, rfl⟩)
        | (go_at_call 46; refine (Haw.out _).mono ?_; rintro e wD ⟨rfl, hb⟩; have HID := Lib.hid (HIC.out.step hb); clear hb))
    go_wp2
    go_ret
    exact ⟨rfl, HB1.out.trans (HID.out.bel.mono HB1.out.size)⟩
  · have hne : ¬ x = 0 := fun e => h0 (hxe.1 e)
    have hne2 : (x == 0) = false := by simpa using hne
    clear hxe
    have Hnx : Hid (nextL true 2000 (msgL ty l) 0 = some (ty.toNat, l, [])) := Lib.hid (by have := nextL_msg ty l hl; rw [show (!decide (ty = 0)) = true by simp [h0]] at this; exact this)
    clear h0 Hbig
    go_enter Try.func13, Try.ntmps13
    go_wp2_with fail
    generalize w.alloc (.cells #[.int .u8 x, .slice p l.length c] 67) = w1 at *
    have hnew : Calls Try.prog 64 #[.int .i64 2000, .int .i64 4000, .bool false] w1 fun e w' =>
      e = .returned (.tuple #[.pointer (some ⟨w1.heap.size, 0, none⟩), .int .i64 0]) ∧ FrO w1.heap.size w' w1.heap.size true [] 2000 4000 0 (.slice none 0 0) ∧ Below w1.heap.size w1 w' := frNew_ok 2000 4000 false w1 (by omega) (by omega) (by omega) (by omega)
    refine hnew.mono ?_
    clear hnew
    rintro e w2 ⟨rfl, hf2, hb2⟩
    have HF2 := Lib.hid hf2
    have HB2 := Lib.hid hb2
    have hb2b := Hb1.out.below hb2 Hb1.out.lt
    have hc2 := hb2b.cell
    have Hi2 := Lib.hid (Hi1.out.below hb2)
    clear hf2 hb2 hb2b
    go_wp2_with fail
    refine (Hby.out w2 Hi2.out).mono ?_
    rintro e w3 ⟨v3, rfl, ho3, hb3⟩
    obtain ⟨p3, c3, rfl, hs3⟩ := ho3.bytesS (S := fun _ => True) (fun _ _ => trivial)
    have HF3 := Lib.hid (HF2.out.still hb3)
    have HB3 := Lib.hid (HB2.out.trans (hb3.mono HB2.out.size))
    have Hs3 := Lib.hid hs3.parts.2.2.2
    have hml := msgL_len ty l
    clear ho3 hb3 hs3 hc2
    go_wp2_with fail
    refine (frFeed_ok _ _ true [] 2000 4000 0 _ p3 (msgL ty l) c3 w3 HF3.out (by omega) (by omega) (by simp; omega) HB3.out.size Hs3.out).mono ?_
    rintro e w4 ⟨v4, rfl, hf4, _, hT4⟩
    rw [List.nil_append] at hf4
    have HF4 := Lib.hid hf4
    have HB4 := Lib.hid (HB3.out.trans (frT_below HF3.out hT4 HB3.out.size))
    clear hf4 hT4 HF2 HF3 Hi2
    go_wp2_with fail
    refine (frNext_any _ _ true _ 2000 4000 0 v4 w4 HF4.out (by omega) (by omega)).mono ?_
    rintro e w5 hn
    obtain ⟨q, d, v5, rfl, hbs5, hf5, _, hT5⟩ := frNext_some hn Hnx.out
    rw [HX.out]
    have hB5 := HB4.out.trans (frT_below HF4.out hT5 HB4.out.size)
    have hal : Below w5.heap.size w5 (w5.alloc (.cells #[.int .u8 x, .slice q l.length d] 67)) := (Below.refl _ _).alloc (Nat.le_refl _) _
    have hB6 := hB5.trans (hal.mono hB5.size)
    have HI := Lib.hid (show FbI w1 (w5.alloc (.cells #[.int .u8 x, .slice q l.length d] 67)) w1.heap.size w1.heap.size true v5 w.heap.size w5.heap.size #[.int .u8 x, .slice p l.length c] #[.int .u8 x, .slice q l.length d] l p q from
      ⟨hf5.still hal, Hb1.out.below hB6 Hb1.out.lt, Blk.new _ _ _, Hi1.out.below hB6, hbs5.parts.2.2.2.below hal, hB6⟩)
    clear hn hbs5 hf5 hT5 hB5 hal hB6 HF4 HB2 HB3 HB4 Hnx hml
    go_wp2_with fail
    generalize w5.alloc (.cells #[.int .u8 x, .slice q l.length d] 67) = w6 at *
    generalize w5.heap.size = g5 at *
    have hcl := HI.out.cells
    obtain ⟨hcl1, hcl2⟩ := hcl
    go_region_held3 (fun w' => (∀ i, w'.cell? ⟨w.heap.size, i, none⟩ = (#[.int .u8 x, .slice p l.length c] : Array Value)[i]?) ∧ (∀ i, w'.cell? ⟨g5, i, none⟩ = (#[.int .u8 x, .slice q l.length d] : Array Value)[i]?))
      (first | exact ⟨hcl1, hcl2⟩ | exact HIA.out.cells | exact HIB.out.cells | exact HIC.out.cells | exact HID.out.cells | go_keep)
      (first
        | (go_at_call 65; refine (Hby.out _ (HI.out.i1.drewN 1)).mono ?_; rintro e wA ⟨vA, rfl, ho, hb⟩; obtain ⟨pA, cA, rfl, hrA⟩ := ho.bytesS (S := fun _ => True) (fun _ _ => trivial); have HrA := Lib.hid hrA; have HIA := Lib.hid (HI.out.step (below_ofDr hb)); clear hb ho hrA hcl1 hcl2)
        | (go_at_call 66; refine (HbyR.out _ HIA.out.i1).mono ?_; rintro e wB ⟨vB, rfl, ho, hb⟩; obtain ⟨pB, cB, rfl, hrB⟩ := ho.bytesS (S := fun _ => True) (fun _ _ => trivial); have HrB := Lib.hid hrB; have HrA2 := Lib.hid (HrA.out.below hb); have HIB := Lib.hid (HIA.out.step hb); clear hb ho hrB)
        | (go_at_call 58; refine (equal_any pA pB (msgL ty l) (msgL ty l) cA cB _ HrA2.out.parts.2.2.2 HrB.out.parts.2.2.2).mono ?_; rintro e w9 ⟨rfl, rfl⟩; rw [beq_self_eq_true])
        | (go_at_call 67; refine (Hsm.out q p d c _ HIB.out.i2 HIB.out.i1).mono ?_; rintro e wC ⟨rfl, hb⟩; have HIC := Lib.hid (HIB.out.step hb); clear hb)
        | (go_at_call 45; refine (frSize_any _ _ true [] 2000 4000 0 v5 _ HIC.out.fr (by omega)).mono ?_; rintro e w9 ⟨rfl, rfl⟩)
        | (go_at_call 46; refine (Haw.out _).mono ?_; rintro e wD ⟨rfl, hb⟩; have HID := Lib.hid (HIC.out.step hb); clear hb))
    go_wp2
    go_ret
    exact ⟨rfl, HB1.out.trans (HID.out.bel.mono HB1.out.size)⟩

/-- A message as it is handed over. -/
def MsgS : Rd (UInt8 × List UInt8) := fun S w cs x => ∃ p c, cs = [.int .u8 (x.1.toNat : Int), .slice p x.2.length c] ∧ BytesS S w [.slice p x.2.length c] x.2

theorem opensS_msg : OpensS Try.prog 67 MsgS := by
  intro H enc w base spare held fuel cs x h
  have S : StructOf Try.prog 67 _ := ⟨Try.underlying67, by kernel_rfl, by kernel_rfl⟩
  have hl := S.len h
  match cs, hl with
  | [c0, c1], _ =>
    obtain ⟨y0, e0, hw⟩ := S.field h 0 _ rfl c0 rfl (opens_int Try.underlying5)
    obtain ⟨y1, hy1⟩ := S.field h 1 _ rfl c1 rfl (opensS_bytes Try.underlying24 Try.underlying5 (by kernel_rfl))
    obtain ⟨p, c, e1, _⟩ := id hy1
    simp only [List.cons.injEq, and_true] at e0 e1
    subst e0 e1
    exact ⟨(UInt8.ofNat y0.toNat, y1), p, c, by rw [byte_ofNat (byte_of_wf hw)], hy1⟩

theorem frameBytes_read (s : Array Value) (y : UInt8 × List UInt8) (w : World) (h : MsgS (fun k => k < w.heap.size) w s.toList y) :
    Calls Try.prog 13 #[.agg s] w fun e w' => e = .returned (.bool true) ∧ Below w.heap.size w w' := by
  obtain ⟨p, c, hs, hb⟩ := h
  have e : (.agg s : Value) = msgArg y.1 p y.2.length c := by
    unfold msgArg
    congr 1
    exact Array.ext' hs
  have h3 := hb.parts.2.2.2
  rw [e]
  exact frameBytes_walk y.1 y.2 p c w h3

end Go.Proofs.Ytpdkoijgemgaiaa
