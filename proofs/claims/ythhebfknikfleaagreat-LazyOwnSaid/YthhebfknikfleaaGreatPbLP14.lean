/-
  Ground: FrBy, BaR, GrA, GrB.
-/
import Derived.Test.YthhebfknikfleaaGreatPbLP1
import Derived.Test.YthhebfknikfleaaGreatPbLP2
import Derived.BigQuiet
import Derived.Deep.QuietTactic
import Derived.Deep.RegionLaw
import Derived.Deep.RegionHeld3
import Derived.Test.YthhebfknikfleaaGreatPbLXBaP
import Derived.Test.YthhebfknikfleaaGreatPbLP0
import Derived.Laws.Bits64b
import Derived.IntWalk
/-
  A message's bytes: the contracts of frame.Bytes and of the document's (layer 4).
-/
namespace Go.Proofs.YthhebfknikfleaaGreat
open Go.RowKit

/-- A message's bytes. -/
def msgL (ty : UInt8) (l : List UInt8) : List UInt8 := putV (if ty = 0 then [] else [ty]) ((l.length : Int) + 4) 4 ++ l

theorem msgL_len (ty : UInt8) (l : List UInt8) : (msgL ty l).length ≤ l.length + 5 := by
  have h := putV_len4 (if ty = 0 then [] else [ty]) ((l.length : Int) + 4) 4
  unfold msgL
  rw [List.length_append]
  have : (if ty = 0 then ([] : List UInt8) else [ty]).length ≤ 1 := by split <;> simp
  omega

def msgArg (ty : UInt8) (p : Option Addr) (n c : Nat) : Value := .agg #[.int .u8 (ty.toNat : Int), .slice p n c]

/-- A message in a block, and its bytes. -/
structure MsW (w0 w : World) (g : Nat) (ty : UInt8) (l : List UInt8) (p : Option Addr) (c : Nat) : Prop where
  blk : Blk w g 42 #[.int .u8 (ty.toNat : Int), .slice p l.length c]
  inn : BytesIn w p l
  bel : Below w0.heap.size w0 w
section
variable {w0 w w' : World} {g : Nat} {ty : UInt8} {l : List UInt8} {p : Option Addr} {c : Nat}
theorem MsW.step (h : MsW w0 w g ty l p c) (hb : Below w.heap.size w w') : MsW w0 w' g ty l p c := ⟨h.blk.below hb h.blk.lt, h.inn.below hb, h.bel.trans (hb.mono h.bel.size)⟩
theorem MsW.drew (h : MsW w0 w g ty l p c) : MsW w0 w.drew g ty l p c := h.step (((Touch.refl (fun _ => False) w).drew).below (Nat.le_refl _) (fun _ e => e.elim))
theorem MsW.box (h : BytesIn w p l) : MsW w (w.alloc (.cells #[.int .u8 (ty.toNat : Int), .slice p l.length c] 42)) w.heap.size ty l p c := ⟨Blk.new _ _ _, h.alloc _, (Below.refl _ _).alloc (Nat.le_refl _) _⟩
end

theorem cell_grown {w w' : World} {row : Option Nat} {g i : Nat} (h : w.grownBy w' row) (hg : g < w.heap.size) (hr : some g ≠ row) : w'.cell? ⟨g, i, none⟩ = w.cell? ⟨g, i, none⟩ := World.cell?_of_block (a := ⟨g, i, none⟩) (h.block g hg hr)

set_option maxRecDepth 100000 in
set_option maxHeartbeats 4000000 in
theorem frBytes_any (ty : UInt8) (l : List UInt8) (p : Option Addr) (c : Nat) (w : World) (hx : BytesIn w p l) (hl : l.length ≤ 100000) :
    Calls Tryz.prog 79 #[msgArg ty p l.length c] w fun e w' => ∃ v, e = .returned v ∧ OwnBR w.heap.size w' v (msgL ty l) ∧ Below w.heap.size w w' := by
  have H0 := Lib.hid (MsW.box (ty := ty) (c := c) hx)
  have Hm : Hid (∀ pre, pre = (if ty = 0 then ([] : List UInt8) else [ty]) → msgL ty l = putV pre ((l.length : Int) + 4) 4 ++ l) := Lib.hid (fun pre e => by rw [e]; rfl)
  have Hpl := Lib.hid (fun pre : List UInt8 => putV_len4 pre ((l.length : Int) + 4) 4)
  have hx0 := u8_bd ty
  have hws : IntKind.i64.wrap (4 + (l.length : Int)) = 4 + (l.length : Int) := by rw [IntKind.wrap_i64]; omega
  have hws2 : IntKind.i64.wrap ((l.length : Int) + 4) = (l.length : Int) + 4 := by rw [IntKind.wrap_i64]; omega
  have Hsum := Lib.hid (show (4 : Int) + (l.length : Int) = (l.length : Int) + 4 by omega)
  have hcase : ty = 0 ∨ ¬ ty = 0 := Decidable.em _
  clear hx
  unfold msgArg
  rcases hcase with h0 | h0
  · have Hm2 := Lib.hid (Hm.out [] (by rw [if_pos h0]))
    have hz : (ty.toNat : Int) = 0 := by rw [h0]; rfl
    rw [hz]
    have H1 : Hid (MsW w (w.alloc (.cells #[.int .u8 0, .slice p l.length c] 42)) w.heap.size ty l p c) := Lib.hid (by have := H0.out; rw [hz] at this; exact this)
    have hc1 : ∀ i, (w.alloc (.cells #[.int .u8 0, .slice p l.length c] 42)).cell? ⟨w.heap.size, i, none⟩ = (#[.int .u8 0, .slice p l.length c] : Array Value)[i]? := by have := H1.out.blk.cell; rw [hz] at this; exact this
    have hX : (ty.toNat : Int) = 0 := hz
    have HX := Lib.hid hX
    clear Hm h0 hx0 hX hz H0
    go_enter Tryz.func79, Tryz.ntmps79
    go_wp2_with fail
    generalize hw1 : w.alloc (.cells #[.int .u8 0, .slice p l.length c] 42) = w1 at *
    clear hw1
    have hlt1 := H1.out.blk.lt
    have H2 := H1
    have Hi2 := Lib.hid (BytesIn.nil w1 none)
    go_wp2_with fail
    generalize hw2 : w1 = w2 at *
    clear hw2
    have hc2 : ∀ i, w2.cell? ⟨w.heap.size, i, none⟩ = (#[.int .u8 0, .slice p l.length c] : Array Value)[i]? := (by have := H2.out.blk.cell; rw [HX.out] at this; exact this)
    have hlt2 := H2.out.blk.lt
    go_region_held3 (fun w' => ∀ i, w'.cell? ⟨w.heap.size, i, none⟩ = (#[.int .u8 0, .slice p l.length c] : Array Value)[i]?)
      (first | exact hc2 | exact hc3 | exact hc4 | go_keep)
      (first
        | (go_at_call 98; (try rw [Hsum.out]); refine (put_any none [] 0 ((l.length : Int) + 4) 4 _ (by simp) (Hi2.out.drewN 1)).mono ?_; rintro e w3 ⟨v3, rfl, ho3, hb3⟩; have H3 : Hid (MsW w w3 _ _ _ _ _) := Lib.hid (H2.out.drew.step hb3); have hc3 : ∀ i, w3.cell? ⟨w.heap.size, i, none⟩ = (#[.int .u8 0, .slice p l.length c] : Array Value)[i]? := (by have := H3.out.blk.cell; rw [HX.out] at this; exact this); have hpl3 := Hpl.out []; have Ho3 : Hid (OwnBR w2.heap.size w3 v3 (putV [] ((l.length : Int) + 4) 4)) := Lib.hid (OwnBR.of ho3); have hs3 : w2.heap.size ≤ w3.heap.size := hb3.size; (try simp only [List.length_cons] at hpl3); simp only [List.length_nil] at hpl3; clear hb3 ho3)
        | (refine rgn_appendBR rfl (.tmp 15) (.tmp 17) rfl w2.heap.size _ _ rfl Ho3.out _ l _ _ rfl rfl H3.out.inn (by omega) hs3 ?_; intro v4 w4 ho4 hg4 _; have hc4 : ∀ i, w4.cell? ⟨w.heap.size, i, none⟩ = (#[.int .u8 0, .slice p l.length c] : Array Value)[i]? := (fun i => (cell_grown hg4 (by omega) (fun e => by have := (Ho3.out.row _ e.symm).1; omega)).trans (hc3 i))))
    have hw : Below w.heap.size w w4 := H3.out.bel.trans (Below.of_row hg4 H3.out.bel.size (fun k hk => by have := (Ho3.out.row k hk).1; omega))
    have Hw := Lib.hid hw
    have Ho4 := Lib.hid ho4
    clear hw ho4 hg4 hc2 hc3 hc4
    go_wp2
    go_ret
    refine ⟨_, rfl, ?_, Hw.out⟩
    rw [Hm2.out]
    exact OwnR.base Ho4.out (by omega)
  · have Hm2 := Lib.hid (Hm.out [ty] (by rw [if_neg h0]))
    have hne0 : ¬ ((ty.toNat : Int) = 0) := fun e => h0 (UInt8.toNat_inj.1 (by have : (0 : UInt8).toNat = 0 := rfl; omega))
    obtain ⟨x, hX⟩ : ∃ x : Nat, (ty.toNat : Int) = (x : Int) := ⟨_, rfl⟩
    rw [hX]
    rw [hX] at hne0 hx0
    have H1 : Hid (MsW w (w.alloc (.cells #[.int .u8 (x : Int), .slice p l.length c] 42)) w.heap.size ty l p c) := Lib.hid (by have := H0.out; rw [hX] at this; exact this)
    have hc1 : ∀ i, (w.alloc (.cells #[.int .u8 (x : Int), .slice p l.length c] 42)).cell? ⟨w.heap.size, i, none⟩ = (#[.int .u8 (x : Int), .slice p l.length c] : Array Value)[i]? := by have := H1.out.blk.cell; rw [hX] at this; exact this
    have HX := Lib.hid hX
    have hne : ¬ ((x : Int) = 0) := hne0
    clear Hm h0 hX H0 hne0
    have hz1 : (w.alloc (.cells #[.int .u8 (x : Int), .slice p l.length c] 42)).heap.size = w.heap.size + 1 := by simp
    have H2a := Lib.hid (H1.out.step ((Below.refl _ _).alloc (Nat.le_refl _) (.cells #[.int .u8 (x : Int)] 5)))
    have hi2a := BytesIn.new1 (w.alloc (.cells #[.int .u8 (x : Int), .slice p l.length c] 42)) ty (x : Int) 5 HX.out
    rw [hz1] at hi2a
    have Hi2a := Lib.hid hi2a
    have hz2a : ((w.alloc (.cells #[.int .u8 (x : Int), .slice p l.length c] 42)).alloc (.cells #[.int .u8 (x : Int)] 5)).heap.size = w.heap.size + 2 := by simp
    clear hz1 hi2a hc1
    go_enter Tryz.func79, Tryz.ntmps79
    go_wp2_with fail
    generalize (w.alloc (.cells #[.int .u8 (x : Int), .slice p l.length c] 42)).alloc (.cells #[.int .u8 (x : Int)] 5) = w2 at *
    have H2 := H2a
    have Hi2 := Hi2a
    have hc2 : ∀ i, w2.cell? ⟨w.heap.size, i, none⟩ = (#[.int .u8 (x : Int), .slice p l.length c] : Array Value)[i]? := (by have := H2.out.blk.cell; rw [HX.out] at this; exact this)
    have hlt2 := H2.out.blk.lt
    go_region_held3 (fun w' => ∀ i, w'.cell? ⟨w.heap.size, i, none⟩ = (#[.int .u8 (x : Int), .slice p l.length c] : Array Value)[i]?)
      (first | exact hc2 | exact hc3 | exact hc4 | go_keep)
      (first
        | (go_at_call 98; (try rw [Hsum.out]); refine (put_any (some ⟨w.heap.size + 1, 0, none⟩) [ty] 1 ((l.length : Int) + 4) 4 _ (by simp) (Hi2.out.drewN 1)).mono ?_; rintro e w3 ⟨v3, rfl, ho3, hb3⟩; have H3 : Hid (MsW w w3 _ _ _ _ _) := Lib.hid (H2.out.drew.step hb3); have hc3 : ∀ i, w3.cell? ⟨w.heap.size, i, none⟩ = (#[.int .u8 (x : Int), .slice p l.length c] : Array Value)[i]? := (by have := H3.out.blk.cell; rw [HX.out] at this; exact this); have hpl3 := Hpl.out [ty]; have Ho3 : Hid (OwnBR w2.heap.size w3 v3 (putV [ty] ((l.length : Int) + 4) 4)) := Lib.hid (OwnBR.of ho3); have hs3 : w2.heap.size ≤ w3.heap.size := hb3.size; (try simp only [List.length_cons] at hpl3); simp only [List.length_nil] at hpl3; clear hb3 ho3)
        | (refine rgn_appendBR rfl (.tmp 15) (.tmp 17) rfl w2.heap.size _ _ rfl Ho3.out _ l _ _ rfl rfl H3.out.inn (by omega) hs3 ?_; intro v4 w4 ho4 hg4 _; have hc4 : ∀ i, w4.cell? ⟨w.heap.size, i, none⟩ = (#[.int .u8 (x : Int), .slice p l.length c] : Array Value)[i]? := (fun i => (cell_grown hg4 (by omega) (fun e => by have := (Ho3.out.row _ e.symm).1; omega)).trans (hc3 i))))
    have hw : Below w.heap.size w w4 := H3.out.bel.trans (Below.of_row hg4 H3.out.bel.size (fun k hk => by have := (Ho3.out.row k hk).1; omega))
    have Hw := Lib.hid hw
    have Ho4 := Lib.hid ho4
    clear hw ho4 hg4 hc2 hc3 hc4
    go_wp2
    go_ret
    refine ⟨_, rfl, ?_, Hw.out⟩
    rw [Hm2.out]
    exact OwnR.base Ho4.out (by omega)

set_option maxRecDepth 100000 in
set_option maxHeartbeats 4000000 in
theorem frBytesR_any (ty : UInt8) (l : List UInt8) (p : Option Addr) (c : Nat) (w : World) (hx : BytesIn w p l) (hl : l.length ≤ 100000) :
    Calls Tryz.prog 80 #[msgArg ty p l.length c] w fun e w' => ∃ v, e = .returned v ∧ OwnBR w.heap.size w' v (msgL ty l) ∧ Below w.heap.size w w' := by
  have H0 := Lib.hid (MsW.box (ty := ty) (c := c) hx)
  have Hm : Hid (∀ pre, pre = (if ty = 0 then ([] : List UInt8) else [ty]) → msgL ty l = putV pre ((l.length : Int) + 4) 4 ++ l) := Lib.hid (fun pre e => by rw [e]; rfl)
  have Hpl := Lib.hid (fun pre : List UInt8 => putV_len4 pre ((l.length : Int) + 4) 4)
  have hx0 := u8_bd ty
  have hws : IntKind.i64.wrap (4 + (l.length : Int)) = 4 + (l.length : Int) := by rw [IntKind.wrap_i64]; omega
  have hws2 : IntKind.i64.wrap ((l.length : Int) + 4) = (l.length : Int) + 4 := by rw [IntKind.wrap_i64]; omega
  have Hsum := Lib.hid (show (4 : Int) + (l.length : Int) = (l.length : Int) + 4 by omega)
  have hcase : ty = 0 ∨ ¬ ty = 0 := Decidable.em _
  clear hx
  unfold msgArg
  rcases hcase with h0 | h0
  · have Hm2 := Lib.hid (Hm.out [] (by rw [if_pos h0]))
    have hz : (ty.toNat : Int) = 0 := by rw [h0]; rfl
    rw [hz]
    have H1 : Hid (MsW w (w.alloc (.cells #[.int .u8 0, .slice p l.length c] 42)) w.heap.size ty l p c) := Lib.hid (by have := H0.out; rw [hz] at this; exact this)
    have hc1 : ∀ i, (w.alloc (.cells #[.int .u8 0, .slice p l.length c] 42)).cell? ⟨w.heap.size, i, none⟩ = (#[.int .u8 0, .slice p l.length c] : Array Value)[i]? := by have := H1.out.blk.cell; rw [hz] at this; exact this
    have hX : (ty.toNat : Int) = 0 := hz
    have HX := Lib.hid hX
    clear Hm h0 hx0 hX hz H0
    go_enter Tryz.func80, Tryz.ntmps80
    go_wp2_with fail
    generalize hw1 : w.alloc (.cells #[.int .u8 0, .slice p l.length c] 42) = w1 at *
    clear hw1
    have hlt1 := H1.out.blk.lt
    have H2 := H1
    have Hi2 := Lib.hid (BytesIn.nil w1 none)
    go_wp2_with fail
    generalize hw2 : w1 = w2 at *
    clear hw2
    have hc2 : ∀ i, w2.cell? ⟨w.heap.size, i, none⟩ = (#[.int .u8 0, .slice p l.length c] : Array Value)[i]? := (by have := H2.out.blk.cell; rw [HX.out] at this; exact this)
    have hlt2 := H2.out.blk.lt
    go_region_held3 (fun w' => ∀ i, w'.cell? ⟨w.heap.size, i, none⟩ = (#[.int .u8 0, .slice p l.length c] : Array Value)[i]?)
      (first | exact hc2 | exact hc3 | exact hc4 | go_keep)
      (first
        | (go_at_call 46; (try rw [Hsum.out]); refine (putR_any none [] 0 ((l.length : Int) + 4) 4 _ (by simp) (Hi2.out.drewN 1)).mono ?_; rintro e w3 ⟨v3, rfl, ho3, hb3⟩; have H3 : Hid (MsW w w3 _ _ _ _ _) := Lib.hid (H2.out.drew.step hb3); have hc3 : ∀ i, w3.cell? ⟨w.heap.size, i, none⟩ = (#[.int .u8 0, .slice p l.length c] : Array Value)[i]? := (by have := H3.out.blk.cell; rw [HX.out] at this; exact this); have hpl3 := Hpl.out []; have Ho3 : Hid (OwnBR w2.heap.size w3 v3 (putV [] ((l.length : Int) + 4) 4)) := Lib.hid (OwnBR.of ho3); have hs3 : w2.heap.size ≤ w3.heap.size := hb3.size; (try simp only [List.length_cons] at hpl3); simp only [List.length_nil] at hpl3; clear hb3 ho3)
        | (refine rgn_appendBR rfl (.tmp 17) (.tmp 19) rfl w2.heap.size _ _ rfl Ho3.out _ l _ _ rfl rfl H3.out.inn (by omega) hs3 ?_; intro v4 w4 ho4 hg4 _; have hc4 : ∀ i, w4.cell? ⟨w.heap.size, i, none⟩ = (#[.int .u8 0, .slice p l.length c] : Array Value)[i]? := (fun i => (cell_grown hg4 (by omega) (fun e => by have := (Ho3.out.row _ e.symm).1; omega)).trans (hc3 i))))
    have hw : Below w.heap.size w w4 := H3.out.bel.trans (Below.of_row hg4 H3.out.bel.size (fun k hk => by have := (Ho3.out.row k hk).1; omega))
    have Hw := Lib.hid hw
    have Ho4 := Lib.hid ho4
    clear hw ho4 hg4 hc2 hc3 hc4
    go_wp2
    go_ret
    refine ⟨_, rfl, ?_, Hw.out⟩
    rw [Hm2.out]
    exact OwnR.base Ho4.out (by omega)
  · have Hm2 := Lib.hid (Hm.out [ty] (by rw [if_neg h0]))
    have hne0 : ¬ ((ty.toNat : Int) = 0) := fun e => h0 (UInt8.toNat_inj.1 (by have : (0 : UInt8).toNat = 0 := rfl; omega))
    obtain ⟨x, hX⟩ : ∃ x : Nat, (ty.toNat : Int) = (x : Int) := ⟨_, rfl⟩
    rw [hX]
    rw [hX] at hne0 hx0
    have H1 : Hid (MsW w (w.alloc (.cells #[.int .u8 (x : Int), .slice p l.length c] 42)) w.heap.size ty l p c) := Lib.hid (by have := H0.out; rw [hX] at this; exact this)
    have hc1 : ∀ i, (w.alloc (.cells #[.int .u8 (x : Int), .slice p l.length c] 42)).cell? ⟨w.heap.size, i, none⟩ = (#[.int .u8 (x : Int), .slice p l.length c] : Array Value)[i]? := by have := H1.out.blk.cell; rw [hX] at this; exact this
    have HX := Lib.hid hX
    have hne : ¬ ((x : Int) = 0) := hne0
    clear Hm h0 hX H0 hne0
    have hz1 : (w.alloc (.cells #[.int .u8 (x : Int), .slice p l.length c] 42)).heap.size = w.heap.size + 1 := by simp
    have H2a := Lib.hid (H1.out.step ((Below.refl _ _).alloc (Nat.le_refl _) (.cells #[.int .u8 (x : Int)] 5)))
    have hi2a := BytesIn.new1 (w.alloc (.cells #[.int .u8 (x : Int), .slice p l.length c] 42)) ty (x : Int) 5 HX.out
    rw [hz1] at hi2a
    have Hi2a := Lib.hid hi2a
    have hz2a : ((w.alloc (.cells #[.int .u8 (x : Int), .slice p l.length c] 42)).alloc (.cells #[.int .u8 (x : Int)] 5)).heap.size = w.heap.size + 2 := by simp
    clear hz1 hi2a hc1
    go_enter Tryz.func80, Tryz.ntmps80
    go_wp2_with (at_builtin; refine step_appendBR _ rfl (.tmp 7) (.tmp 10) rfl (w.heap.size + 1) (.slice none 0 0) [] rfl (OwnBR.empty _ _ _) (some ⟨w.heap.size + 1, 0, none⟩) [ty] 1 1 rfl rfl Hi2a.out (by simp) (by omega) ?_; intro v2 w2 ho2 hg2 _; have Ho2 : Hid (OwnBR (w.heap.size + 1) w2 v2 [ty]) := Lib.hid ho2; have H2 := Lib.hid (H2a.out.step (Below.of_row hg2 (Nat.le_refl _) (fun k hk => by simp [rowOf] at hk))); clear ho2 hg2; obtain ⟨q2, d2, rfl, _, _, hi2, _⟩ := Ho2.out.slice; have Hi2 := Lib.hid hi2; clear hi2)
    have hc2 : ∀ i, w2.cell? ⟨w.heap.size, i, none⟩ = (#[.int .u8 (x : Int), .slice p l.length c] : Array Value)[i]? := (by have := H2.out.blk.cell; rw [HX.out] at this; exact this)
    have hlt2 := H2.out.blk.lt
    go_region_held3 (fun w' => ∀ i, w'.cell? ⟨w.heap.size, i, none⟩ = (#[.int .u8 (x : Int), .slice p l.length c] : Array Value)[i]?)
      (first | exact hc2 | exact hc3 | exact hc4 | go_keep)
      (first
        | (go_at_call 46; (try rw [Hsum.out]); refine (putR_any q2 [ty] d2 ((l.length : Int) + 4) 4 _ (by simp) (Hi2.out.drewN 1)).mono ?_; rintro e w3 ⟨v3, rfl, ho3, hb3⟩; have H3 : Hid (MsW w w3 _ _ _ _ _) := Lib.hid (H2.out.drew.step hb3); have hc3 : ∀ i, w3.cell? ⟨w.heap.size, i, none⟩ = (#[.int .u8 (x : Int), .slice p l.length c] : Array Value)[i]? := (by have := H3.out.blk.cell; rw [HX.out] at this; exact this); have hpl3 := Hpl.out [ty]; have Ho3 : Hid (OwnBR w2.heap.size w3 v3 (putV [ty] ((l.length : Int) + 4) 4)) := Lib.hid (OwnBR.of ho3); have hs3 : w2.heap.size ≤ w3.heap.size := hb3.size; (try simp only [List.length_cons] at hpl3); simp only [List.length_nil] at hpl3; clear hb3 ho3)
        | (refine rgn_appendBR rfl (.tmp 17) (.tmp 19) rfl w2.heap.size _ _ rfl Ho3.out _ l _ _ rfl rfl H3.out.inn (by omega) hs3 ?_; intro v4 w4 ho4 hg4 _; have hc4 : ∀ i, w4.cell? ⟨w.heap.size, i, none⟩ = (#[.int .u8 (x : Int), .slice p l.length c] : Array Value)[i]? := (fun i => (cell_grown hg4 (by omega) (fun e => by have := (Ho3.out.row _ e.symm).1; omega)).trans (hc3 i))))
    have hw : Below w.heap.size w w4 := H3.out.bel.trans (Below.of_row hg4 H3.out.bel.size (fun k hk => by have := (Ho3.out.row k hk).1; omega))
    have Hw := Lib.hid hw
    have Ho4 := Lib.hid ho4
    clear hw ho4 hg4 hc2 hc3 hc4
    go_wp2
    go_ret
    refine ⟨_, rfl, ?_, Hw.out⟩
    rw [Hm2.out]
    exact OwnR.base Ho4.out (by omega)

end Go.Proofs.YthhebfknikfleaaGreat

/-
  Messages of servers (layer 7): messages' bytes, one behind the other; both.
-/
namespace Go.Proofs.YthhebfknikfleaaGreat
open Go.RowKit
set_option linter.unusedVariables false
set_option linter.unusedSimpArgs false

/-- A message in a list. -/
def BaS : Rd BaV := fun S w cs x => ∃ a, cs = (baCells x a).toList ∧ BaL S w x a ∧ BaB x
theorem BaS.still : Still BaS := fun S S' w w' cs x ⟨a, h1, h2, h3⟩ hk => ⟨a, h1, h2.keep hk, h3⟩
theorem BaS.one (S : Nat → Prop) (w : World) (cs : List Value) (x : BaV) (h : BaS S w cs x) : ∀ u ∈ cs, u.oneCell' = true := by
  obtain ⟨a, rfl, _⟩ := h
  intro u hu
  simp only [baCells, List.mem_cons, List.not_mem_nil, or_false] at hu
  rcases hu with rfl | rfl | rfl | rfl | rfl | rfl | rfl | rfl | rfl | rfl | rfl <;> rfl
theorem ba_at {S : Nat → Prop} {w : World} {p : Option Addr} {n c k : Nat} {xs : List BaV} (h : SliceS 11 BaS S w [.slice p n c] xs) (hk : k < xs.length) :
    ∃ b o a, p = some ⟨b, o, none⟩ ∧ b < w.heap.size ∧ BaL S w xs[k] a ∧ BaB xs[k] ∧ w.cell? ⟨b, o + k * 11, none⟩ = some (.int .u8 xs[k].kind) ∧ w.cell? ⟨b, o + k * 11 + 1, none⟩ = some (.int .u8 xs[k].status) ∧ w.cell? ⟨b, o + k * 11 + 2, none⟩ = some (.string xs[k].tag) ∧ w.cell? ⟨b, o + k * 11 + 3, none⟩ = some (.string xs[k].name) ∧ w.cell? ⟨b, o + k * 11 + 4, none⟩ = some (.string xs[k].value) ∧ w.cell? ⟨b, o + k * 11 + 5, none⟩ = some (.int .i64 xs[k].n) ∧ w.cell? ⟨b, o + k * 11 + 6, none⟩ = some (.int .i64 xs[k].m) ∧ w.cell? ⟨b, o + k * 11 + 7, none⟩ = some (.slice a.po xs[k].oids.length a.co) ∧ w.cell? ⟨b, o + k * 11 + 8, none⟩ = some (.slice a.pc xs[k].cols.length a.cc) ∧ w.cell? ⟨b, o + k * 11 + 9, none⟩ = some (.slice a.pr xs[k].row.length a.cr) ∧ w.cell? ⟨b, o + k * 11 + 10, none⟩ = some (.slice a.pf xs[k].fields.length a.cf) := by
  obtain ⟨b, o, cs, rfl, hS, hb, _, hc, a, rfl, hl, hq⟩ := h.elem (by omega) k xs[k] (List.getElem?_eq_getElem hk)
  have c0 := hc 0 _ rfl
  rw [Nat.add_zero] at c0
  exact ⟨b, o, a, rfl, hb, hl, hq, c0, hc 1 _ rfl, hc 2 _ rfl, hc 3 _ rfl, hc 4 _ rfl, hc 5 _ rfl, hc 6 _ rfl, hc 7 _ rfl, hc 8 _ rfl, hc 9 _ rfl, hc 10 _ rfl⟩
/-- A message that may be, and its bytes are few. -/
structure ShortB (x : BaV) : Prop where
  s : SmallB x
  l : (bodyB x).length ≤ 100000
def addB (b : List UInt8) (x : BaV) : List UInt8 := if checkB x = 0 then b ++ msgL (UInt8.ofNat x.kind.toNat) (bodyB x) else b
def bytesB (l : List BaV) : List UInt8 := l.foldl addB []
def bytP (l : List BaV) (k : Nat) : List UInt8 := (l.take k).foldl addB []
theorem bytP_succ {l : List BaV} {k : Nat} (hk : k < l.length) : bytP l (k + 1) = addB (bytP l k) l[k] := by
  unfold bytP
  rw [List.take_succ_eq_append_getElem hk, List.foldl_append]
  rfl
theorem bytP_all (l : List BaV) : bytP l l.length = bytesB l := by
  unfold bytP bytesB
  rw [List.take_length]
theorem addB_len (b : List UInt8) (x : BaV) (h : (bodyB x).length ≤ 100000) : (addB b x).length ≤ b.length + 100005 := by
  unfold addB
  split
  · have := msgL_len (UInt8.ofNat x.kind.toNat) (bodyB x)
    rw [List.length_append]
    omega
  · omega
theorem bytP_len (l : List BaV) (hm : ∀ x ∈ l, (bodyB x).length ≤ 100000) : ∀ k, k ≤ l.length → (bytP l k).length ≤ 100005 * k
  | 0, _ => by simp [bytP]
  | k + 1, hk => by
    have ih := bytP_len l hm k (by omega)
    rw [bytP_succ (by omega)]
    have := addB_len (bytP l k) l[k] (hm l[k] (List.getElem_mem _))
    rw [Nat.mul_add]
    omega
theorem bframe_any (k : Int) (h0 : 0 ≤ k) (h1 : k < 256) (l : List UInt8) (p : Option Addr) (c : Nat) (w : World) (hx : BytesIn w p l) (hl : l.length ≤ 100000) :
    Calls Tryz.prog 79 #[.agg #[.int .u8 k, .slice p l.length c]] w fun e w' => ∃ p c, e = .returned (.slice p (msgL (UInt8.ofNat k.toNat) l).length c) ∧ BytesIn w' p (msgL (UInt8.ofNat k.toNat) l) ∧ Below w.heap.size w w' := by
  have h := frBytes_any (UInt8.ofNat k.toNat) l p c w hx hl
  unfold msgArg at h
  rw [byte_back h0 h1] at h
  refine h.mono ?_
  rintro e w' ⟨v, rfl, ho, hb⟩
  obtain ⟨p', c', rfl, -, -, q, -⟩ := ho.slice
  exact ⟨p', c', rfl, q, hb⟩
theorem rbframe_any (k : Int) (h0 : 0 ≤ k) (h1 : k < 256) (l : List UInt8) (p : Option Addr) (c : Nat) (w : World) (hx : BytesIn w p l) (hl : l.length ≤ 100000) :
    Calls Tryz.prog 80 #[.agg #[.int .u8 k, .slice p l.length c]] w fun e w' => ∃ p c, e = .returned (.slice p (msgL (UInt8.ofNat k.toNat) l).length c) ∧ BytesIn w' p (msgL (UInt8.ofNat k.toNat) l) ∧ Below w.heap.size w w' := by
  have h := frBytesR_any (UInt8.ofNat k.toNat) l p c w hx hl
  unfold msgArg at h
  rw [byte_back h0 h1] at h
  refine h.mono ?_
  rintro e w' ⟨v, rfl, ho, hb⟩
  obtain ⟨p', c', rfl, -, -, q, -⟩ := ho.slice
  exact ⟨p', c', rfl, q, hb⟩

set_option maxRecDepth 100000 in
set_option maxHeartbeats 4000000 in
theorem bbytes_any (S : Nat → Prop) (p : Option Addr) (n c : Nat) (ls : List BaV) (w : World) (hx : SliceS 11 BaS S w [.slice p n c] ls) (hxl : ls.length ≤ 1000) (hm : ∀ x ∈ ls, ShortB x) :
    Calls Tryz.prog 23 #[.slice p n c] w fun e w' => ∃ v', e = .returned v' ∧ OwnBR w.heap.size w' v' (bytesB ls) ∧ Below w.heap.size w w' := by
  obtain ⟨rfl, hlc, hcm⟩ := hx.len
  unfold maxLen at hcm
  have Hx := Lib.hid hx
  have Hall := Lib.hid (bytP_all ls)
  have Hlen := Lib.hid (fun k hk => bytP_len ls (fun x h => (hm x h).l) k hk)
  have Hm := Lib.hid hm
  clear hx hm
  go_enter Tryz.func23, Tryz.ntmps23
  go_wp2_with fail
  go_loopw [3, 10] (fun v i wr => ∃ k : Nat, k ≤ ls.length ∧ i = .int .i64 k ∧ OwnBR w.heap.size wr v (bytP ls k) ∧ Below w.heap.size w wr) (fun _ i _ => ls.length - (intOf i).toNat)
  case atStart => exact ⟨0, Nat.zero_le _, rfl, OwnBR.empty _ _ _, Below.refl _ _⟩
  case round =>
    obtain ⟨k, hk, rfl, ho, hb⟩ := hrel
    have hsz := hb.size
    have Hb := Lib.hid hb
    have Ho := Lib.hid ho
    by_cases hlt : k < ls.length
    · obtain ⟨b, o, a, rfl, hbl, hl, hbb, d0, d1, d2, d3, d4, d5, d6, d7, d8, d9, d10⟩ := ba_at (Hx.out.below BaS.still hb) hlt
      have hlk := Hlen.out k hk
      have hl9 : (bytP ls k).length ≤ 200000000 := by
        have : 100005 * k ≤ 100005 * 1000 := Nat.mul_le_mul (Nat.le_refl _) (by omega)
        omega
      have HS := Lib.hid (Hm.out ls[k] (List.getElem_mem hlt))
      have Hstep := Lib.hid (bytP_succ hlt)
      have Had : Hid (∀ b0, addB b0 ls[k] = if checkB ls[k] = 0 then b0 ++ msgL (UInt8.ofNat ls[k].kind.toNat) (bodyB ls[k]) else b0) := Lib.hid (fun _ => rfl)
      have Hen : Hid (encB ls[k] = if checkB ls[k] = 0 then (ls[k].kind, bodyB ls[k], 0) else (0, [], checkB ls[k])) := Lib.hid rfl
      have Hl := Lib.hid hl
      have Hbb := Lib.hid hbb
      have hbl2 := HS.out.l
      clear ho hb hlk hl hbb
      generalize hxe : ls[k] = x at *
      clear hxe
      have Hc := Lib.hid (fun (wz : World) (hl : BaL S wz x a) => benc_any S x a wz hl Hbb.out HS.out.s)
      unfold EncB at Hc
      have Hk0 := Lib.hid (show 0 ≤ x.kind ∧ x.kind < 256 from ⟨Hbb.out.1, Hbb.out.2.1⟩)
      generalize encB x = ev at *
      generalize bodyB x = bx at *
      generalize checkB x = cx at *
      obtain ⟨xk, xs, xt, xn, xv, xa, xb, xo, xc, xr, xf⟩ := x
      obtain ⟨apo, aco, apc, acc, apr, acr, apf, acf⟩ := a
      unfold baArg baCells at Hc
      dsimp only at *
      have hlti : (k : Int) < (ls.length : Int) := by omega
      have hal : Below wr.heap.size wr (wr.alloc (.cells #[.int .u8 xk, .int .u8 xs, .string xt, .string xn, .string xv, .int .i64 xa, .int .i64 xb, .slice apo xo.length aco, .slice apc xc.length acc, .slice apr xr.length acr, .slice apf xf.length acf] 39)) := (Below.refl _ _).alloc (Nat.le_refl _) _
      have Hla := Lib.hid (Hl.out.below hal)
      have HBa := Lib.hid (Hb.out.trans (hal.mono hsz))
      have Hoa := Lib.hid (Ho.out.below hal)
      have Hka := Lib.hid (Blk.new wr 39 #[.int .u8 xk, .int .u8 xs, .string xt, .string xn, .string xv, .int .i64 xa, .int .i64 xb, .slice apo xo.length aco, .slice apc xc.length acc, .slice apr xr.length acr, .slice apf xf.length acf])
      clear hal Hl
      go_upto_region 5 with fail
      clear d0 d1 d2 d3 d4 d5 d6 d7 d8 d9 d10 hbl
      generalize wr.alloc (.cells #[.int .u8 xk, .int .u8 xs, .string xt, .string xn, .string xv, .int .i64 xa, .int .i64 xb, .slice apo xo.length aco, .slice apc xc.length acc, .slice apr xr.length acr, .slice apf xf.length acf] 39) = wa at *
      generalize hgx : wr.heap.size = gx at *
      have hcx := Hka.out.cell
      have hza : w.heap.size ≤ wa.heap.size := HBa.out.size
      go_wp2_with fail
      refine (Hc.out _ Hla.out).mono ?_
      rintro e w5 ⟨v5, rfl, ho5, hb5⟩
      have HB5 := Lib.hid (HBa.out.trans (hb5.mono hza))
      have Ho5 := Lib.hid ho5
      have Hoo := Lib.hid (Hoa.out.below hb5)
      have hz5 : w.heap.size ≤ w5.heap.size := HB5.out.size
      obtain ⟨n5, p5, c5, hv5⟩ : ∃ n p c, v5 = .slice p n c := by
        obtain ⟨p, c, h, _⟩ := ho5.slice
        exact ⟨_, p, c, h⟩
      subst hv5
      clear ho5 hb5 hcx
      by_cases hcz : cx = 0
      · have hev := Hen.out
        rw [if_pos hcz] at hev
        have hnx := Hstep.out.trans (Had.out _)
        rw [if_pos hcz] at hnx
        have Hnx := Lib.hid hnx
        subst hev
        dsimp only at Ho5 ⊢
        clear hcz hnx Hen
        have hn5 : n5 = bx.length := by
          obtain ⟨p, c, h, _⟩ := Ho5.out.slice
          cases h
          rfl
        subst hn5
        obtain ⟨p', c', hpc, -, -, q5, -⟩ := Ho5.out.slice
        simp only [Value.slice.injEq, true_and] at hpc
        obtain ⟨rfl, rfl⟩ := hpc
        have Hq5 := Lib.hid q5
        clear q5
        have Hkm := Lib.hid (Blk.new w5 42 #[.int .u8 xk, .slice p5 bx.length c5])
        have halm : Below w5.heap.size w5 (w5.alloc (.cells #[.int .u8 xk, .slice p5 bx.length c5] 42)) := (Below.refl _ _).alloc (Nat.le_refl _) _
        have HB6 := Lib.hid (HB5.out.trans (halm.mono hz5))
        have Ho6 := Lib.hid (Hoo.out.below halm)
        have Hq6 := Lib.hid (Hq5.out.below halm)
        have Hfr := Lib.hid (fun wz h => bframe_any xk Hk0.out.1 Hk0.out.2 bx p5 c5 wz h hbl2)
        clear halm
        go_upto_region 6 with fail
        generalize w5.alloc (.cells #[.int .u8 xk, .slice p5 bx.length c5] 42) = w6 at *
        generalize w5.heap.size = g5 at *
        have hcm6 := Hkm.out.cell
        have hz6 := HB6.out.size
        go_wp2_with fail
        refine (Hfr.out w6 Hq6.out).mono ?_
        rintro e w7 ⟨p7, c7, rfl, hq7, hb7⟩
        have Hml := Lib.hid (msgL_len (UInt8.ofNat xk.toNat) bx)
        have Hq7 := Lib.hid hq7
        have HB7 := Lib.hid (HB6.out.trans (hb7.mono hz6))
        have Ho7 := Lib.hid (Ho6.out.below hb7)
        have hz7 := HB7.out.size
        clear hq7 hb7 hcm6
        generalize hM : msgL (UInt8.ofNat xk.toNat) bx = M at *
        have hml := Hml.out
        clear hM
        generalize hQ : bytP ls k = Q at *
        clear hQ
        go_wp2_with (at_builtin; refine step_appendBR _ rfl (.tmp 21) (.tmp 23) rfl w.heap.size _ Q rfl Ho7.out p7 M _ c7 rfl rfl Hq7.out (by omega) hz7 ?_; intro v8 w8 ho8 hg8 hn8; have Ho8 := Lib.hid ho8; have HB8 : Hid (Below w.heap.size w w8) := Lib.hid (HB7.out.trans (Below.of_row hg8 hz7 (fun k hk => (Ho7.out.row k hk).1))); clear ho8 hg8 hn8)
        rw [← Hnx.out] at Ho8
        go_roundw
        case rel => exact ⟨k + 1, by omega, by go_num, Ho8.out, HB8.out⟩
        case measure => simp [intOf]; omega
      · have hev := Hen.out
        rw [if_neg hcz] at hev
        have hnx := Hstep.out.trans (Had.out _)
        rw [if_neg hcz] at hnx
        have Hnx := Lib.hid hnx
        have hcb : (cx == 0) = false := by simpa using hcz
        subst hev
        dsimp only at Ho5 ⊢
        clear hcz hnx Hen
        have halm : Below w5.heap.size w5 (w5.alloc (.cells #[.int .u8 0, .slice p5 n5 c5] 42)) := (Below.refl _ _).alloc (Nat.le_refl _) _
        have HB6 := Lib.hid (HB5.out.trans (halm.mono hz5))
        have Ho6 := Lib.hid (Hoo.out.below halm)
        rw [← Hnx.out] at Ho6
        clear halm
        go_wp2_with fail
        go_roundw
        case rel => exact ⟨k + 1, by omega, by go_num, Ho6.out, HB6.out⟩
        case measure => simp [intOf]; omega
    · obtain rfl : k = ls.length := by omega
      rw [Hall.out] at ho
      have Hoe := Lib.hid ho
      clear ho hb Ho
      go_wp2_with fail
      go_ret
      exact ⟨_, rfl, Hoe.out, Hb.out⟩

set_option maxRecDepth 100000 in
set_option maxHeartbeats 4000000 in
theorem rbbytes_any (S : Nat → Prop) (p : Option Addr) (n c : Nat) (ls : List BaV) (w : World) (hx : SliceS 11 BaS S w [.slice p n c] ls) (hxl : ls.length ≤ 1000) (hm : ∀ x ∈ ls, ShortB x) :
    Calls Tryz.prog 24 #[.slice p n c] w fun e w' => ∃ v', e = .returned v' ∧ OwnBR w.heap.size w' v' (bytesB ls) ∧ Below w.heap.size w w' := by
  obtain ⟨rfl, hlc, hcm⟩ := hx.len
  unfold maxLen at hcm
  have Hx := Lib.hid hx
  have Hall := Lib.hid (bytP_all ls)
  have Hlen := Lib.hid (fun k hk => bytP_len ls (fun x h => (hm x h).l) k hk)
  have Hm := Lib.hid hm
  clear hx hm
  go_enter Tryz.func24, Tryz.ntmps24
  go_wp2_with fail
  go_loopw [3, 4] (fun v i wr => ∃ k : Nat, k ≤ ls.length ∧ i = .int .i64 k ∧ OwnBR w.heap.size wr v (bytP ls k) ∧ Below w.heap.size w wr) (fun _ i _ => ls.length - (intOf i).toNat)
  case atStart => exact ⟨0, Nat.zero_le _, rfl, OwnBR.empty _ _ _, Below.refl _ _⟩
  case round =>
    obtain ⟨k, hk, rfl, ho, hb⟩ := hrel
    have hsz := hb.size
    have Hb := Lib.hid hb
    have Ho := Lib.hid ho
    by_cases hlt : k < ls.length
    · obtain ⟨b, o, a, rfl, hbl, hl, hbb, d0, d1, d2, d3, d4, d5, d6, d7, d8, d9, d10⟩ := ba_at (Hx.out.below BaS.still hb) hlt
      have hlk := Hlen.out k hk
      have hl9 : (bytP ls k).length ≤ 200000000 := by
        have : 100005 * k ≤ 100005 * 1000 := Nat.mul_le_mul (Nat.le_refl _) (by omega)
        omega
      have HS := Lib.hid (Hm.out ls[k] (List.getElem_mem hlt))
      have Hstep := Lib.hid (bytP_succ hlt)
      have Had : Hid (∀ b0, addB b0 ls[k] = if checkB ls[k] = 0 then b0 ++ msgL (UInt8.ofNat ls[k].kind.toNat) (bodyB ls[k]) else b0) := Lib.hid (fun _ => rfl)
      have Hen : Hid (encB ls[k] = if checkB ls[k] = 0 then (ls[k].kind, bodyB ls[k], 0) else (0, [], checkB ls[k])) := Lib.hid rfl
      have Hl := Lib.hid hl
      have Hbb := Lib.hid hbb
      have hbl2 := HS.out.l
      clear ho hb hlk hl hbb
      generalize hxe : ls[k] = x at *
      clear hxe
      have Hc := Lib.hid (fun (wz : World) (hl : BaL S wz x a) => rbenc_any S x a wz hl Hbb.out HS.out.s)
      unfold EncB at Hc
      have Hk0 := Lib.hid (show 0 ≤ x.kind ∧ x.kind < 256 from ⟨Hbb.out.1, Hbb.out.2.1⟩)
      generalize encB x = ev at *
      generalize bodyB x = bx at *
      generalize checkB x = cx at *
      obtain ⟨xk, xs, xt, xn, xv, xa, xb, xo, xc, xr, xf⟩ := x
      obtain ⟨apo, aco, apc, acc, apr, acr, apf, acf⟩ := a
      unfold baArg baCells at Hc
      dsimp only at *
      have hlti : (k : Int) < (ls.length : Int) := by omega
      have hal : Below wr.heap.size wr wr := Below.refl _ _
      have Hla := Lib.hid (Hl.out.below hal)
      have HBa := Lib.hid Hb.out
      have Hoa := Lib.hid Ho.out
      clear hal Hl
      have hza : w.heap.size ≤ wr.heap.size := hsz
      go_wp2_with fail
      refine (Hc.out _ Hla.out).mono ?_
      rintro e w5 ⟨v5, rfl, ho5, hb5⟩
      have HB5 := Lib.hid (HBa.out.trans (hb5.mono hza))
      have Ho5 := Lib.hid ho5
      have Hoo := Lib.hid (Hoa.out.below hb5)
      have hz5 : w.heap.size ≤ w5.heap.size := HB5.out.size
      obtain ⟨n5, p5, c5, hv5⟩ : ∃ n p c, v5 = .slice p n c := by
        obtain ⟨p, c, h, _⟩ := ho5.slice
        exact ⟨_, p, c, h⟩
      subst hv5
      clear ho5 hb5 d0 d1 d2 d3 d4 d5 d6 d7 d8 d9 d10 hbl
      by_cases hcz : cx = 0
      · have hev := Hen.out
        rw [if_pos hcz] at hev
        have hnx := Hstep.out.trans (Had.out _)
        rw [if_pos hcz] at hnx
        have Hnx := Lib.hid hnx
        subst hev
        dsimp only at Ho5 ⊢
        clear hcz hnx Hen
        have hn5 : n5 = bx.length := by
          obtain ⟨p, c, h, _⟩ := Ho5.out.slice
          cases h
          rfl
        subst hn5
        obtain ⟨p', c', hpc, -, -, q5, -⟩ := Ho5.out.slice
        simp only [Value.slice.injEq, true_and] at hpc
        obtain ⟨rfl, rfl⟩ := hpc
        have Hq5 := Lib.hid q5
        clear q5
        have Hkm := Lib.hid (Blk.new w5 42 #[.int .u8 xk, .slice p5 bx.length c5])
        have halm : Below w5.heap.size w5 (w5.alloc (.cells #[.int .u8 xk, .slice p5 bx.length c5] 42)) := (Below.refl _ _).alloc (Nat.le_refl _) _
        have HB6 := Lib.hid (HB5.out.trans (halm.mono hz5))
        have Ho6 := Lib.hid (Hoo.out.below halm)
        have Hq6 := Lib.hid (Hq5.out.below halm)
        have Hfr := Lib.hid (fun wz h => rbframe_any xk Hk0.out.1 Hk0.out.2 bx p5 c5 wz h hbl2)
        clear halm
        go_upto_region 6 with fail
        generalize w5.alloc (.cells #[.int .u8 xk, .slice p5 bx.length c5] 42) = w6 at *
        generalize w5.heap.size = g5 at *
        have hcm6 := Hkm.out.cell
        have hz6 := HB6.out.size
        go_wp2_with fail
        refine (Hfr.out w6 Hq6.out).mono ?_
        rintro e w7 ⟨p7, c7, rfl, hq7, hb7⟩
        have Hml := Lib.hid (msgL_len (UInt8.ofNat xk.toNat) bx)
        have Hq7 := Lib.hid hq7
        have HB7 := Lib.hid (HB6.out.trans (hb7.mono hz6))
        have Ho7 := Lib.hid (Ho6.out.below hb7)
        have hz7 := HB7.out.size
        clear hq7 hb7 hcm6
        generalize hM : msgL (UInt8.ofNat xk.toNat) bx = M at *
        have hml := Hml.out
        clear hM
        generalize hQ : bytP ls k = Q at *
        clear hQ
        go_wp2_with (at_builtin; refine step_appendBR _ rfl (.tmp 23) (.tmp 25) rfl w.heap.size _ Q rfl Ho7.out p7 M _ c7 rfl rfl Hq7.out (by omega) hz7 ?_; intro v8 w8 ho8 hg8 hn8; have Ho8 := Lib.hid ho8; have HB8 : Hid (Below w.heap.size w w8) := Lib.hid (HB7.out.trans (Below.of_row hg8 hz7 (fun k hk => (Ho7.out.row k hk).1))); clear ho8 hg8 hn8)
        rw [← Hnx.out] at Ho8
        go_roundw
        case rel => exact ⟨k + 1, by omega, by go_num, Ho8.out, HB8.out⟩
        case measure => simp [intOf]; omega
      · have hev := Hen.out
        rw [if_neg hcz] at hev
        have hnx := Hstep.out.trans (Had.out _)
        rw [if_neg hcz] at hnx
        have Hnx := Lib.hid hnx
        have hcb : (cx == 0) = false := by simpa using hcz
        subst hev
        dsimp only at Ho5 ⊢
        clear hcz hnx Hen
        have halm : Below w5.heap.size w5 (w5.alloc (.cells #[.int .u8 0, .slice p5 n5 c5] 42)) := (Below.refl _ _).alloc (Nat.le_refl _) _
        have HB6 := Lib.hid (HB5.out.trans (halm.mono hz5))
        have Ho6 := Lib.hid (Hoo.out.below halm)
        rw [← Hnx.out] at Ho6
        clear halm
        go_wp2_with fail
        go_roundw
        case rel => exact ⟨k + 1, by omega, by go_num, Ho6.out, HB6.out⟩
        case measure => simp [intOf]; omega
    · obtain rfl : k = ls.length := by omega
      rw [Hall.out] at ho
      have Hoe := Lib.hid ho
      clear ho hb Ho
      go_wp2_with fail
      go_ret
      exact ⟨_, rfl, Hoe.out, Hb.out⟩

end Go.Proofs.YthhebfknikfleaaGreat

/-
  What is said first (layer 11): a session's keys; both.
-/
namespace Go.Proofs.YthhebfknikfleaaGreat
open Go.RowKit
set_option linter.unusedVariables false
set_option linter.unusedSimpArgs false

/-- A session's number, between two others. -/
def keyI (id : Int) : Int := (if id < 0 then 0 else if 1048576 < id then 1048576 else id) + 1
def keyM (id : Int) : Int := keyI id * 7919 % 2147483648
theorem keyI_bd (id : Int) : 1 ≤ keyI id ∧ keyI id ≤ 1048577 := by unfold keyI; split <;> (try split) <;> omega
theorem keyM_bd (id : Int) : 0 ≤ keyM id ∧ keyM id < 2147483648 := by unfold keyM; omega
theorem and_mask {E : Int} (h0 : 0 ≤ E) (h1 : E < 9223372036854775808) : bits BinOp.and IntKind.i64 E 2147483647 = E % 2147483648 := by
  obtain ⟨n, rfl⟩ := Int.eq_ofNat_of_zero_le h0
  have e : n &&& 2147483647 = n % 2147483648 := Nat.and_two_pow_sub_one_eq_mod n 31
  have h1 : (BitVec.ofInt 64 (n : Int)).toNat = n := by
    rw [BitVec.ofInt_natCast, BitVec.toNat_ofNat]; exact Nat.mod_eq_of_lt (by omega)
  have h2 : (BitVec.ofInt 64 ((2147483647 : Nat) : Int)).toNat = 2147483647 := by
    rw [BitVec.ofInt_natCast, BitVec.toNat_ofNat]
  show IntKind.i64.wrap ((BitVec.ofInt 64 (n : Int) &&& BitVec.ofInt 64 ((2147483647 : Nat) : Int)).toNat : Int) = _
  rw [BitVec.toNat_and, h1, h2, e, IntKind.wrap_i64]
  omega
theorem ret_two {a b c d : Int} (h1 : a = c) (h2 : b = d) : Ending.returned (.tuple #[.int .i64 a, .int .i64 b]) = .returned (.tuple #[.int .i64 c, .int .i64 d]) := by rw [h1, h2]
theorem keyI_lo {id : Int} (h : id < 0) : keyI id = 1 := by unfold keyI; rw [if_pos h]; rfl
theorem keyI_hi {id : Int} (h : 1048576 < id) : keyI id = 1048577 := by unfold keyI; rw [if_neg (by omega), if_pos h]; rfl
theorem keyI_in {id : Int} (h : 0 ≤ id) (g : id ≤ 1048576) : keyI id = id + 1 := by unfold keyI; rw [if_neg (by omega), if_neg (by omega)]

set_option maxRecDepth 100000 in
theorem keys_any (id : Int) (w : World) : Calls Tryz.prog 92 #[.int .i64 id] w fun e w' => e = .returned (.tuple #[.int .i64 (keyI id), .int .i64 (keyM id)]) ∧ w = w' := by
  have Hm : Hid (keyM id = keyI id * 7919 % 2147483648) := Lib.hid rfl
  by_cases h : id < 0
  · have Hk := Lib.hid (keyI_lo h)
    generalize keyM id = km at *
    generalize keyI id = ki at *
    go_enter Tryz.func92, Tryz.ntmps92
    go_wp2
    all_goals
      go_ret2
      exact ⟨ret_two (by rw [Hk.out]; try (first | (rw [and_mask (by omega) (by omega)]; omega) | (rw [and_mask (by omega) (by omega)]; rfl) | rfl | decide)) (by rw [Hm.out, Hk.out]; try (first | (rw [and_mask (by omega) (by omega)]; omega) | (rw [and_mask (by omega) (by omega)]; rfl) | rfl | decide)), rfl⟩
  · by_cases g : 1048576 < id
    · have Hk := Lib.hid (keyI_hi g)
      generalize keyM id = km at *
      generalize keyI id = ki at *
      have h' : 0 ≤ id := by omega
      clear h
      go_enter Tryz.func92, Tryz.ntmps92
      go_wp2
      all_goals
        go_ret2
        exact ⟨ret_two (by rw [Hk.out]; try (first | (rw [and_mask (by omega) (by omega)]; omega) | (rw [and_mask (by omega) (by omega)]; rfl) | rfl | decide)) (by rw [Hm.out, Hk.out]; try (first | (rw [and_mask (by omega) (by omega)]; omega) | (rw [and_mask (by omega) (by omega)]; rfl) | rfl | decide)), rfl⟩
    · have Hk := Lib.hid (keyI_in (id := id) (by omega) (by omega))
      generalize keyM id = km at *
      generalize keyI id = ki at *
      have h' : 0 ≤ id := by omega
      have g' : id ≤ 1048576 := by omega
      clear h g
      go_enter Tryz.func92, Tryz.ntmps92
      go_wp2
      all_goals
        go_ret2
        exact ⟨ret_two (by rw [Hk.out]; try (rw [and_mask (by omega) (by omega)]; try omega)) (by rw [Hm.out, Hk.out]; rw [and_mask (by omega) (by omega)]; try omega), rfl⟩

set_option maxRecDepth 100000 in
theorem rkeys_any (id : Int) (w : World) : Calls Tryz.prog 87 #[.int .i64 id] w fun e w' => e = .returned (.tuple #[.int .i64 (keyI id), .int .i64 (keyM id)]) ∧ w = w' := by
  have Hm : Hid (keyM id = keyI id * 7919 % 2147483648) := Lib.hid rfl
  by_cases h : id < 0
  · have Hk := Lib.hid (keyI_lo h)
    generalize keyM id = km at *
    generalize keyI id = ki at *
    go_enter Tryz.func87, Tryz.ntmps87
    go_wp2
    all_goals
      go_ret2
      exact ⟨ret_two (by rw [Hk.out]; try (first | omega | rfl | decide)) (by rw [Hm.out, Hk.out]; try (first | omega | rfl | decide)), rfl⟩
  · by_cases g : 1048576 < id
    · have Hk := Lib.hid (keyI_hi g)
      generalize keyM id = km at *
      generalize keyI id = ki at *
      have h' : 0 ≤ id := by omega
      clear h
      go_enter Tryz.func87, Tryz.ntmps87
      go_wp2
      all_goals
        go_ret2
        exact ⟨ret_two (by rw [Hk.out]; try (first | omega | rfl | decide)) (by rw [Hm.out, Hk.out]; try (first | omega | rfl | decide)), rfl⟩
    · have Hk := Lib.hid (keyI_in (id := id) (by omega) (by omega))
      generalize keyM id = km at *
      generalize keyI id = ki at *
      have h' : 0 ≤ id := by omega
      have g' : id ≤ 1048576 := by omega
      clear h g
      go_enter Tryz.func87, Tryz.ntmps87
      go_wp2
      all_goals
        go_ret2
        exact ⟨ret_two (by rw [Hk.out]; try (first | omega | rfl)) (by rw [Hm.out, Hk.out]; try (first | omega | rfl)), rfl⟩

end Go.Proofs.YthhebfknikfleaaGreat

/-
  What is said first (layer 11): pairs, rows of messages; settings, Backs, Bytes of both; far.
-/
namespace Go.Proofs.YthhebfknikfleaaGreat
open Go.RowKit
set_option linter.unusedVariables false
set_option linter.unusedSimpArgs false

structure PaV where
  name : ByteArray
  value : ByteArray
def PaS : Rd PaV := fun _ _ cs x => cs = [.string x.name, .string x.value] ∧ x.name.size ≤ maxLen ∧ x.value.size ≤ maxLen
theorem PaS.still : Still PaS := fun _ _ _ _ _ _ h _ => h
theorem pa_at {S : Nat → Prop} {w : World} {p : Option Addr} {n c k : Nat} {xs : List PaV} (h : SliceS 2 PaS S w [.slice p n c] xs) (hk : k < xs.length) :
    ∃ b o, p = some ⟨b, o, none⟩ ∧ S b ∧ b < w.heap.size ∧ w.cell? ⟨b, o + k * 2, none⟩ = some (.string xs[k].name) ∧ w.cell? ⟨b, o + k * 2 + 1, none⟩ = some (.string xs[k].value) := by
  obtain ⟨b, o, cs, rfl, hS, hb, _, hc, rfl, _⟩ := h.elem (by omega) k xs[k] (List.getElem?_eq_getElem hk)
  have c0 := hc 0 _ rfl
  rw [Nat.add_zero] at c0
  exact ⟨b, o, rfl, hS, hb, c0, hc 1 _ rfl⟩
theorem opensS_pa : OpensS Tryz.prog 55 PaS := by
  intro H enc w base spare held fuel cs x h
  have S : StructOf Tryz.prog 55 _ := ⟨Tryz.underlying55, by kernel_rfl, by kernel_rfl⟩
  have hl := S.len h
  match cs, hl with
  | [c0, c1], _ =>
    obtain ⟨y0, e0, hw0⟩ := S.field h 0 _ rfl c0 rfl (opens_str Tryz.underlying9)
    obtain ⟨y1, e1, hw1⟩ := S.field h 1 _ rfl c1 rfl (opens_str Tryz.underlying9)
    simp only [List.cons.injEq, and_true] at e0 e1
    subst e0 e1
    exact ⟨⟨y0, y1⟩, rfl, hw0, hw1⟩
theorem opensS_pas : OpensS Tryz.prog 22 (SliceS 2 PaS) := opensS_slice Tryz.underlying22 (by kernel_rfl) (by omega) opensS_pa

def setV (p : PaV) : BaV := { baZero 83 with name := p.name, value := p.value }
def keyB (id : Int) : BaV := { baZero 75 with n := keyI id, m := keyM id }
def idleB : BaV := { baZero 90 with status := 73 }
/-- What is said first. -/
def greetV (l : List PaV) (id : Int) : List BaV := (baZero 82 :: l.map setV) ++ [keyB id, idleB]
theorem setV_cells (p : PaV) : (baCells (setV p) baNil).toList = [.int .u8 83, .int .u8 0, .string ⟨#[]⟩, .string p.name, .string p.value, .int .i64 0, .int .i64 0, .slice none 0 0, .slice none 0 0, .slice none 0 0, .slice none 0 0] := rfl
theorem nil_l {S : Nat → Prop} {w : World} {x : BaV} (ho : x.oids = []) (hc : x.cols = []) (hr : x.row = []) (hf : x.fields = []) : BaL S w x baNil := by
  refine ⟨?_, ?_, ?_, ?_⟩
  · rw [ho]; exact SliceS.empty none 0 (by simp [maxLen])
  · rw [hc]; exact SliceS.empty none 0 (by simp [maxLen])
  · rw [hr]; exact SliceS.empty none 0 (by simp [maxLen])
  · rw [hf]; exact SliceS.empty none 0 (by simp [maxLen])
theorem set_ba (p : PaV) (S : Nat → Prop) (w : World) : BaS S w [.int .u8 83, .int .u8 0, .string ⟨#[]⟩, .string p.name, .string p.value, .int .i64 0, .int .i64 0, .slice none 0 0, .slice none 0 0, .slice none 0 0, .slice none 0 0] (setV p) :=
  ⟨baNil, rfl, nil_l rfl rfl rfl rfl, show (0 : Int) ≤ 83 by decide, show (83 : Int) < 256 by decide, show (0 : Int) ≤ 0 by decide, show (0 : Int) < 256 by decide⟩
theorem r_ba (S : Nat → Prop) (w : World) : BaS S w [.int .u8 82, .int .u8 0, .string ⟨#[]⟩, .string ⟨#[]⟩, .string ⟨#[]⟩, .int .i64 0, .int .i64 0, .slice none 0 0, .slice none 0 0, .slice none 0 0, .slice none 0 0] (baZero 82) :=
  ⟨baNil, rfl, nil_l rfl rfl rfl rfl, show (0 : Int) ≤ 82 by decide, show (82 : Int) < 256 by decide, show (0 : Int) ≤ 0 by decide, show (0 : Int) < 256 by decide⟩
theorem key_ba (id : Int) (S : Nat → Prop) (w : World) : BaS S w [.int .u8 75, .int .u8 0, .string ⟨#[]⟩, .string ⟨#[]⟩, .string ⟨#[]⟩, .int .i64 (keyI id), .int .i64 (keyM id), .slice none 0 0, .slice none 0 0, .slice none 0 0, .slice none 0 0] (keyB id) :=
  ⟨baNil, rfl, nil_l rfl rfl rfl rfl, show (0 : Int) ≤ 75 by decide, show (75 : Int) < 256 by decide, show (0 : Int) ≤ 0 by decide, show (0 : Int) < 256 by decide⟩
theorem idle_ba (S : Nat → Prop) (w : World) : BaS S w [.int .u8 90, .int .u8 73, .string ⟨#[]⟩, .string ⟨#[]⟩, .string ⟨#[]⟩, .int .i64 0, .int .i64 0, .slice none 0 0, .slice none 0 0, .slice none 0 0, .slice none 0 0] idleB :=
  ⟨baNil, rfl, nil_l rfl rfl rfl rfl, show (0 : Int) ≤ 90 by decide, show (90 : Int) < 256 by decide, show (0 : Int) ≤ 73 by decide, show (73 : Int) < 256 by decide⟩

abbrev OwnBa (B : Nat) (w : World) (v : Value) (xs : List BaV) : Prop := OwnS B 39 11 BaS (fun k => B ≤ k) w v xs
theorem Tryz.info39 : (Tryz.prog.info? 39).map (fun i => (i.zero, i.size, i.bytes)) = some (some (.agg #[.int .u8 0, .int .u8 0, .string ⟨#[]⟩, .string ⟨#[]⟩, .string ⟨#[]⟩, .int .i64 0, .int .i64 0, .slice none 0 0, .slice none 0 0, .slice none 0 0, .slice none 0 0]), 11, 168) := by kernel_rfl
theorem info_ba : ∃ i z, Tryz.prog.info? 39 = some i ∧ i.zero = some z ∧ i.size = 11 ∧ i.bytes = 168 ∧ z.cells.size = 11 := by
  obtain ⟨i0, hi, hz0, hz1, hz2⟩ := info_parts Tryz.info39
  exact ⟨i0, _, hi, hz0, hz1, hz2, rfl⟩
theorem OwnBa.lst {B : Nat} {w : World} {v : Value} {xs : List BaV} (h : OwnBa B w v xs) : ∃ p c, v = .slice p xs.length c ∧ SliceS 11 BaS (fun k => B ≤ k) w [.slice p xs.length c] xs :=
  h.slice BaS.still (fun _ _ hk => hk) (fun k hk => (h.row k hk).1)
/-- A row of one message. -/
theorem OwnBa.new1 (B : Nat) (w : World) (cs : Array Value) (x : BaV) (hB : B ≤ w.heap.size) (hl : cs.size = 11) (hx : ∀ S w, BaS S w cs.toList x) : OwnBa B (w.alloc (.cells cs 39)) (.slice (some ⟨w.heap.size, 0, none⟩) 1 1) [x] := by
  refine ⟨[cs.toList], ?_, ⟨⟨by simpa using hl, hx _ _⟩, trivial⟩⟩
  have h := OwnR.new (e := 39) (size := 11) B w 1 cs (by omega) (by simp [maxLen]) (by omega) hB
  simpa using h
/-- Two messages in a new block. -/
theorem slice2Ba (w : World) (a b : List Value) (x y : BaV) (ha : a.length = 11) (hb : b.length = 11) (hx : ∀ S w, BaS S w a x) (hy : ∀ S w, BaS S w b y) :
    SliceS 11 BaS (fun j => j = w.heap.size) (w.alloc (.cells (a ++ b).toArray 39)) [.slice (some ⟨w.heap.size, 0, none⟩) 2 2] [x, y] := by
  refine ⟨_, _, [a, b], rfl, Nat.le_refl _, by simp [maxLen], fun j u hu => ⟨_, _, rfl, rfl, ?_⟩, ⟨ha, hx _ _⟩, ⟨hb, hy _ _⟩, trivial⟩
  rw [Nat.zero_add, World.cell?_alloc_new]
  simpa using hu
theorem step_appendBa {ops : Array Oper} {rest : List Oper} {o : Oper} {a : Act} {Q : Exit → Act → World → Prop} (w : World) (hgd : o.guard = none) (s y : Operand)
    (ho : o.op = .call { callee := .builtin .append, args := #[s, y], argTypes := #[50, 50] })
    (B : Nat) (v : Value) (xs : List BaV) (hsv : a.eval s = v) (hown : OwnBa B w v xs) (p : Option Addr) (n c : Nat) (ys : List BaV) (hx : a.eval y = .slice p n c) (hs : SliceS 11 BaS (fun k => B ≤ k ∧ rowOf v ≠ some k) w [.slice p n c] ys)
    (hroom : xs.length + ys.length ≤ 1000000) (hbase : B ≤ w.heap.size)
    (h : ∀ v' w', OwnBa B w' v' (xs ++ ys) → w.grownBy w' (rowOf v) → (∀ k, rowOf v' = some k → rowOf v = some k ∨ w.heap.size ≤ k) → wpList Tryz.prog ops Q rest (a.put o.dst v') w') : wpList Tryz.prog ops Q (o :: rest) a w :=
  wpList_append_S w hgd s y 50 50 ho B 39 39 11 168 Tryz.underlying50 Tryz.underlying50 info_ba BaS BaS.still BaS.one (fun k => B ≤ k) v xs hsv hown p n c ys hx hs
    (by omega) (by simp only [maxLen]; omega) hbase h
theorem rgn_appendBa {ops : Array Oper} {o : Oper} {a : Act} {w : World} {K : Act → World → Prop} {Q : Exit → Act → World → Prop} {F : Prop} (hgd : o.guard = none) (s y : Operand)
    (ho : o.op = .call { callee := .builtin .append, args := #[s, y], argTypes := #[50, 50] })
    (B : Nat) (v : Value) (xs : List BaV) (hsv : a.eval s = v) (hown : OwnBa B w v xs) (p : Option Addr) (n c : Nat) (ys : List BaV) (hx : a.eval y = .slice p n c) (hs : SliceS 11 BaS (fun k => B ≤ k ∧ rowOf v ≠ some k) w [.slice p n c] ys)
    (hroom : xs.length + ys.length ≤ 1000000) (hbase : B ≤ w.heap.size)
    (h : ∀ v' w', OwnBa B w' v' (xs ++ ys) → w.grownBy w' (rowOf v) → (∀ k, rowOf v' = some k → rowOf v = some k ∨ w.heap.size ≤ k) → K (a.put o.dst v') w') :
    if Region.wanted o (yielded ops a.tmps) = true then Oper.wp Tryz.prog o a w K Q else F := by
  have hw : Region.wanted o (yielded ops a.tmps) = true := by simp [Region.wanted, hgd]
  rw [if_pos hw]
  obtain ⟨i, z, hi, hz, hsize, hby, hzs⟩ := info_ba
  obtain ⟨css, k1, k2⟩ := hown
  obtain ⟨dss, rfl, k3, k4⟩ := hs.src (P := Tryz.prog) BaS.one Tryz.underlying50
  obtain ⟨v', w', hrun, r1, r2, r3⟩ := run_append_R (P := Tryz.prog) 50 50 o.type i z 168 Tryz.underlying50 hi hz hsize hby hzs k1 _ _ _ k3 (by simp only [maxLen]; omega) (by omega) hbase
  unfold Oper.wp
  simp [execOp, ho, resolve, invoke, builtin, hsv, hx, hrun, Result.andThen]
  refine h v' w' ⟨css ++ dss, ?_, ?_⟩ r2 r3
  · rw [List.length_append, List.flatten_append]; exact r1
  · exact All2.append (OwnS.grow BaS.still k2 r2 r3) (OwnS.grow BaS.still k4 r2 r3)

set_option maxRecDepth 100000 in
set_option maxHeartbeats 1000000 in
theorem settings_any (S : Nat → Prop) (p : Option Addr) (n c : Nat) (l : List PaV) (w : World) (h : SliceS 2 PaS S w [.slice p n c] l) (hl : l.length ≤ 1000) :
    Calls Tryz.prog 94 #[.slice p n c] w fun e w' => ∃ p c, e = .returned (.slice p l.length c) ∧ SliceS 11 BaS (fun k => w.heap.size ≤ k) w' [.slice p l.length c] (l.map setV) ∧ Below w.heap.size w w' := by
  obtain ⟨rfl, hlc, hcm⟩ := h.len
  unfold maxLen at hcm
  have H := Lib.hid h
  clear h
  go_enter Tryz.func94, Tryz.ntmps94
  go_wp2_with fail
  go_loopw [3, 8] (fun v i wr => ∃ k : Nat, k ≤ l.length ∧ i = .int .i64 k ∧ OwnBa w.heap.size wr v ((l.take k).map setV) ∧ Below w.heap.size w wr) (fun _ i _ => l.length - (intOf i).toNat)
  case atStart => exact ⟨0, Nat.zero_le _, rfl, OwnS.empty _, Below.refl _ _⟩
  case round =>
    obtain ⟨k, hk, rfl, ho, hb⟩ := hrel
    have hsz := hb.size
    have Hb := Lib.hid hb
    have Ho := Lib.hid ho
    by_cases hlt : k < l.length
    · obtain ⟨b, o, rfl, hS, hbl, c0, c1⟩ := pa_at (H.out.below PaS.still hb) hlt
      have Htk : Hid ((l.take (k + 1)).map setV = (l.take k).map setV ++ [setV l[k]]) := Lib.hid (by rw [List.take_succ_eq_append_getElem hlt, List.map_append]; rfl)
      have Hln : Hid (((l.take k).map setV).length ≤ 1000) := Lib.hid (by rw [List.length_map, List.length_take]; omega)
      have Hrow := Lib.hid ho.row
      clear ho hb hS
      generalize l[k] = x at *
      obtain ⟨xn, xv⟩ := x
      dsimp only at *
      have hlti : (k : Int) < (l.length : Int) := by omega
      have hal : Below wr.heap.size wr (wr.alloc (.cells #[.string xn, .string xv] 55)) := (Below.refl _ _).alloc (Nat.le_refl _) _
      have HBa := Lib.hid (Hb.out.trans (hal.mono hsz))
      have Hoa := Lib.hid (OwnS.below' BaS.still Ho.out hal)
      have Hka := Lib.hid (Blk.new wr 55 #[.string xn, .string xv])
      clear hal
      go_upto_region 5 with fail
      clear c0 c1 hbl Ho
      generalize wr.alloc (.cells #[.string xn, .string xv] 55) = wa at *
      have hlg := Hka.out.lt
      generalize hgx : wr.heap.size = gx at *
      have hcx := Hka.out.cell
      have hza := HBa.out.size
      have Hra := Lib.hid Hoa.out.row
      have Hn : Hid (SliceS 11 BaS (fun j => j = wa.heap.size) (wa.alloc (.cells #[.int .u8 83, .int .u8 0, .string ⟨#[]⟩, .string xn, .string xv, .int .i64 0, .int .i64 0, .slice none 0 0, .slice none 0 0, .slice none 0 0, .slice none 0 0] 39)) [.slice (some ⟨wa.heap.size, 0, none⟩) 1 1] [setV ⟨xn, xv⟩]) := Lib.hid (SliceS.new1 (S := fun _ => False) BaS.still wa 39 #[.int .u8 83, .int .u8 0, .string ⟨#[]⟩, .string xn, .string xv, .int .i64 0, .int .i64 0, .slice none 0 0, .slice none 0 0, .slice none 0 0, .slice none 0 0] (setV ⟨xn, xv⟩) (set_ba ⟨xn, xv⟩ _ _) rfl (fun _ _ h => h.elim) rfl)
      have Hob := Lib.hid (OwnS.below' BaS.still Hoa.out ((Below.refl _ _).alloc (Nat.le_refl _) (.cells #[.int .u8 83, .int .u8 0, .string ⟨#[]⟩, .string xn, .string xv, .int .i64 0, .int .i64 0, .slice none 0 0, .slice none 0 0, .slice none 0 0, .slice none 0 0] 39)))
      have HBb := Lib.hid (HBa.out.alloc hza (.cells #[.int .u8 83, .int .u8 0, .string ⟨#[]⟩, .string xn, .string xv, .int .i64 0, .int .i64 0, .slice none 0 0, .slice none 0 0, .slice none 0 0, .slice none 0 0] 39))
      go_wp2_with (at_builtin; refine step_appendBa _ rfl (.tmp 12) (.tmp 18) rfl w.heap.size _ _ rfl Hob.out (some ⟨wa.heap.size, 0, none⟩) 1 1 [setV ⟨xn, xv⟩] rfl (SliceS.weak BaS.still Hn.out (fun k' _ hk' => by have hk2 : k' = wa.heap.size := hk'; exact ⟨by omega, fun e => by have := (Hra.out k' e).2; omega⟩)) (by have := Hln.out; simp only [List.length_singleton]; omega) HBb.out.size ?_; intro v5 w5 ho5 hg5 hn5; have Ho5 := Lib.hid ho5; have HB5 := Lib.hid (HBb.out.trans (Below.of_row hg5 HBb.out.size (fun k hk => (Hra.out k hk).1))); clear ho5 hg5 hn5)
      rw [← Htk.out] at Ho5
      clear hcx
      go_roundw
      case rel => exact ⟨k + 1, by omega, by go_num, Ho5.out, HB5.out⟩
      case measure => simp [intOf]; omega
    · obtain rfl : k = l.length := by omega
      rw [List.take_length] at ho
      obtain ⟨p1, c1, hv1, hs1⟩ := OwnBa.lst ho
      subst hv1
      rw [List.length_map] at hs1 ⊢
      have Hs1 := Lib.hid hs1
      clear ho hb Ho hs1
      go_wp2_with fail
      go_ret
      exact ⟨_, _, rfl, Hs1.out, Hb.out⟩

end Go.Proofs.YthhebfknikfleaaGreat

