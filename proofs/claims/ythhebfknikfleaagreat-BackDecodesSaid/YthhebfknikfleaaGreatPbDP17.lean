/-
  Ground: FrBy, BaR, IdxCo0, IdxFd0, BaT.
-/
import Derived.Test.YthhebfknikfleaaGreatPbDP1
import Derived.Test.YthhebfknikfleaaGreatPbDP5
import Derived.Test.YthhebfknikfleaaGreatPbDP2
import Derived.BigQuiet
import Derived.Deep.QuietTactic
import Derived.Deep.RegionLaw
import Derived.Deep.RegionHeld3
import Derived.Test.YthhebfknikfleaaGreatPbDXBaP
import Derived.Test.YthhebfknikfleaaGreatPbDP0
/-
  A message's bytes: the contracts of frame.Bytes and of the document's (layer 4).
-/
namespace Go.Proofs.YthhebfknikfleaaGreat
open Go.RowKit

/-- A message's bytes. -/
def msgL (ty : UInt8) (l : List UInt8) : List UInt8 := putV (if ty = 0 then [] else [ty]) ((l.length : Int) + 4) 4 ++ l

theorem msgL_len (ty : UInt8) (l : List UInt8) : (msgL ty l).length ≤ l.length + 5 := by
  have h := putV_len4 (if ty = 0 then [] else [ty]) ((l.length : Int) + 4) 4
  unfold msgL
  rw [List.length_append]
  have : (if ty = 0 then ([] : List UInt8) else [ty]).length ≤ 1 := by split <;> simp
  omega

def msgArg (ty : UInt8) (p : Option Addr) (n c : Nat) : Value := .agg #[.int .u8 (ty.toNat : Int), .slice p n c]

/-- A message in a block, and its bytes. -/
structure MsW (w0 w : World) (g : Nat) (ty : UInt8) (l : List UInt8) (p : Option Addr) (c : Nat) : Prop where
  blk : Blk w g 42 #[.int .u8 (ty.toNat : Int), .slice p l.length c]
  inn : BytesIn w p l
  bel : Below w0.heap.size w0 w
section
variable {w0 w w' : World} {g : Nat} {ty : UInt8} {l : List UInt8} {p : Option Addr} {c : Nat}
theorem MsW.step (h : MsW w0 w g ty l p c) (hb : Below w.heap.size w w') : MsW w0 w' g ty l p c := ⟨h.blk.below hb h.blk.lt, h.inn.below hb, h.bel.trans (hb.mono h.bel.size)⟩
theorem MsW.drew (h : MsW w0 w g ty l p c) : MsW w0 w.drew g ty l p c := h.step (((Touch.refl (fun _ => False) w).drew).below (Nat.le_refl _) (fun _ e => e.elim))
theorem MsW.box (h : BytesIn w p l) : MsW w (w.alloc (.cells #[.int .u8 (ty.toNat : Int), .slice p l.length c] 42)) w.heap.size ty l p c := ⟨Blk.new _ _ _, h.alloc _, (Below.refl _ _).alloc (Nat.le_refl _) _⟩
end

theorem cell_grown {w w' : World} {row : Option Nat} {g i : Nat} (h : w.grownBy w' row) (hg : g < w.heap.size) (hr : some g ≠ row) : w'.cell? ⟨g, i, none⟩ = w.cell? ⟨g, i, none⟩ := World.cell?_of_block (a := ⟨g, i, none⟩) (h.block g hg hr)

set_option maxRecDepth 100000 in
set_option maxHeartbeats 4000000 in
theorem frBytes_any (ty : UInt8) (l : List UInt8) (p : Option Addr) (c : Nat) (w : World) (hx : BytesIn w p l) (hl : l.length ≤ 100000) :
    Calls Tryz.prog 79 #[msgArg ty p l.length c] w fun e w' => ∃ v, e = .returned v ∧ OwnBR w.heap.size w' v (msgL ty l) ∧ Below w.heap.size w w' := by
  have H0 := Lib.hid (MsW.box (ty := ty) (c := c) hx)
  have Hm : Hid (∀ pre, pre = (if ty = 0 then ([] : List UInt8) else [ty]) → msgL ty l = putV pre ((l.length : Int) + 4) 4 ++ l) := Lib.hid (fun pre e => by rw [e]; rfl)
  have Hpl := Lib.hid (fun pre : List UInt8 => putV_len4 pre ((l.length : Int) + 4) 4)
  have hx0 := u8_bd ty
  have hws : IntKind.i64.wrap (4 + (l.length : Int)) = 4 + (l.length : Int) := by rw [IntKind.wrap_i64]; omega
  have hws2 : IntKind.i64.wrap ((l.length : Int) + 4) = (l.length : Int) + 4 := by rw [IntKind.wrap_i64]; omega
  have Hsum := Lib.hid (show (4 : Int) + (l.length : Int) = (l.length : Int) + 4 by omega)
  have hcase : ty = 0 ∨ ¬ ty = 0 := Decidable.em _
  clear hx
  unfold msgArg
  rcases hcase with h0 | h0
  · have Hm2 := Lib.hid (Hm.out [] (by rw [if_pos h0]))
    have hz : (ty.toNat : Int) = 0 := by rw [h0]; rfl
    rw [hz]
    have H1 : Hid (MsW w (w.alloc (.cells #[.int .u8 0, .slice p l.length c] 42)) w.heap.size ty l p c) := Lib.hid (by have := H0.out; rw [hz] at this; exact this)
    have hc1 : ∀ i, (w.alloc (.cells #[.int .u8 0, .slice p l.length c] 42)).cell? ⟨w.heap.size, i, none⟩ = (#[.int .u8 0, .slice p l.length c] : Array Value)[i]? := by have := H1.out.blk.cell; rw [hz] at this; exact this
    have hX : (ty.toNat : Int) = 0 := hz
    have HX := Lib.hid hX
    clear Hm h0 hx0 hX hz H0
    go_enter Tryz.func79, Tryz.ntmps79
    go_wp2_with fail
    generalize hw1 : w.alloc (.cells #[.int .u8 0, .slice p l.length c] 42) = w1 at *
    clear hw1
    have hlt1 := H1.out.blk.lt
    have H2 := H1
    have Hi2 := Lib.hid (BytesIn.nil w1 none)
    go_wp2_with fail
    generalize hw2 : w1 = w2 at *
    clear hw2
    have hc2 : ∀ i, w2.cell? ⟨w.heap.size, i, none⟩ = (#[.int .u8 0, .slice p l.length c] : Array Value)[i]? := (by have := H2.out.blk.cell; rw [HX.out] at this; exact this)
    have hlt2 := H2.out.blk.lt
    go_region_held3 (fun w' => ∀ i, w'.cell? ⟨w.heap.size, i, none⟩ = (#[.int .u8 0, .slice p l.length c] : Array Value)[i]?)
      (first | exact hc2 | exact hc3 | exact hc4 | go_keep)
      (first
        | (go_at_call 98; (try rw [Hsum.out]); refine (put_any none [] 0 ((l.length : Int) + 4) 4 _ (by simp) (Hi2.out.drewN 1)).mono ?_; rintro e w3 ⟨v3, rfl, ho3, hb3⟩; have H3 : Hid (MsW w w3 _ _ _ _ _) := Lib.hid (H2.out.drew.step hb3); have hc3 : ∀ i, w3.cell? ⟨w.heap.size, i, none⟩ = (#[.int .u8 0, .slice p l.length c] : Array Value)[i]? := (by have := H3.out.blk.cell; rw [HX.out] at this; exact this); have hpl3 := Hpl.out []; have Ho3 : Hid (OwnBR w2.heap.size w3 v3 (putV [] ((l.length : Int) + 4) 4)) := Lib.hid (OwnBR.of ho3); have hs3 : w2.heap.size ≤ w3.heap.size := hb3.size; (try simp only [List.length_cons] at hpl3); simp only [List.length_nil] at hpl3; clear hb3 ho3)
        | (refine rgn_appendBR rfl (.tmp 15) (.tmp 17) rfl w2.heap.size _ _ rfl Ho3.out _ l _ _ rfl rfl H3.out.inn (by omega) hs3 ?_; intro v4 w4 ho4 hg4 _; have hc4 : ∀ i, w4.cell? ⟨w.heap.size, i, none⟩ = (#[.int .u8 0, .slice p l.length c] : Array Value)[i]? := (fun i => (cell_grown hg4 (by omega) (fun e => by have := (Ho3.out.row _ e.symm).1; omega)).trans (hc3 i))))
    have hw : Below w.heap.size w w4 := H3.out.bel.trans (Below.of_row hg4 H3.out.bel.size (fun k hk => by have := (Ho3.out.row k hk).1; omega))
    have Hw := Lib.hid hw
    have Ho4 := Lib.hid ho4
    clear hw ho4 hg4 hc2 hc3 hc4
    go_wp2
    go_ret
    refine ⟨_, rfl, ?_, Hw.out⟩
    rw [Hm2.out]
    exact OwnR.base Ho4.out (by omega)
  · have Hm2 := Lib.hid (Hm.out [ty] (by rw [if_neg h0]))
    have hne0 : ¬ ((ty.toNat : Int) = 0) := fun e => h0 (UInt8.toNat_inj.1 (by have : (0 : UInt8).toNat = 0 := rfl; omega))
    obtain ⟨x, hX⟩ : ∃ x : Nat, (ty.toNat : Int) = (x : Int) := ⟨_, rfl⟩
    rw [hX]
    rw [hX] at hne0 hx0
    have H1 : Hid (MsW w (w.alloc (.cells #[.int .u8 (x : Int), .slice p l.length c] 42)) w.heap.size ty l p c) := Lib.hid (by have := H0.out; rw [hX] at this; exact this)
    have hc1 : ∀ i, (w.alloc (.cells #[.int .u8 (x : Int), .slice p l.length c] 42)).cell? ⟨w.heap.size, i, none⟩ = (#[.int .u8 (x : Int), .slice p l.length c] : Array Value)[i]? := by have := H1.out.blk.cell; rw [hX] at this; exact this
    have HX := Lib.hid hX
    have hne : ¬ ((x : Int) = 0) := hne0
    clear Hm h0 hX H0 hne0
    have hz1 : (w.alloc (.cells #[.int .u8 (x : Int), .slice p l.length c] 42)).heap.size = w.heap.size + 1 := by simp
    have H2a := Lib.hid (H1.out.step ((Below.refl _ _).alloc (Nat.le_refl _) (.cells #[.int .u8 (x : Int)] 5)))
    have hi2a := BytesIn.new1 (w.alloc (.cells #[.int .u8 (x : Int), .slice p l.length c] 42)) ty (x : Int) 5 HX.out
    rw [hz1] at hi2a
    have Hi2a := Lib.hid hi2a
    have hz2a : ((w.alloc (.cells #[.int .u8 (x : Int), .slice p l.length c] 42)).alloc (.cells #[.int .u8 (x : Int)] 5)).heap.size = w.heap.size + 2 := by simp
    clear hz1 hi2a hc1
    go_enter Tryz.func79, Tryz.ntmps79
    go_wp2_with fail
    generalize (w.alloc (.cells #[.int .u8 (x : Int), .slice p l.length c] 42)).alloc (.cells #[.int .u8 (x : Int)] 5) = w2 at *
    have H2 := H2a
    have Hi2 := Hi2a
    have hc2 : ∀ i, w2.cell? ⟨w.heap.size, i, none⟩ = (#[.int .u8 (x : Int), .slice p l.length c] : Array Value)[i]? := (by have := H2.out.blk.cell; rw [HX.out] at this; exact this)
    have hlt2 := H2.out.blk.lt
    go_region_held3 (fun w' => ∀ i, w'.cell? ⟨w.heap.size, i, none⟩ = (#[.int .u8 (x : Int), .slice p l.length c] : Array Value)[i]?)
      (first | exact hc2 | exact hc3 | exact hc4 | go_keep)
      (first
        | (go_at_call 98; (try rw [Hsum.out]); refine (put_any (some ⟨w.heap.size + 1, 0, none⟩) [ty] 1 ((l.length : Int) + 4) 4 _ (by simp) (Hi2.out.drewN 1)).mono ?_; rintro e w3 ⟨v3, rfl, ho3, hb3⟩; have H3 : Hid (MsW w w3 _ _ _ _ _) := Lib.hid (H2.out.drew.step hb3); have hc3 : ∀ i, w3.cell? ⟨w.heap.size, i, none⟩ = (#[.int .u8 (x : Int), .slice p l.length c] : Array Value)[i]? := (by have := H3.out.blk.cell; rw [HX.out] at this; exact this); have hpl3 := Hpl.out [ty]; have Ho3 : Hid (OwnBR w2.heap.size w3 v3 (putV [ty] ((l.length : Int) + 4) 4)) := Lib.hid (OwnBR.of ho3); have hs3 : w2.heap.size ≤ w3.heap.size := hb3.size; (try simp only [List.length_cons] at hpl3); simp only [List.length_nil] at hpl3; clear hb3 ho3)
        | (refine rgn_appendBR rfl (.tmp 15) (.tmp 17) rfl w2.heap.size _ _ rfl Ho3.out _ l _ _ rfl rfl H3.out.inn (by omega) hs3 ?_; intro v4 w4 ho4 hg4 _; have hc4 : ∀ i, w4.cell? ⟨w.heap.size, i, none⟩ = (#[.int .u8 (x : Int), .slice p l.length c] : Array Value)[i]? := (fun i => (cell_grown hg4 (by omega) (fun e => by have := (Ho3.out.row _ e.symm).1; omega)).trans (hc3 i))))
    have hw : Below w.heap.size w w4 := H3.out.bel.trans (Below.of_row hg4 H3.out.bel.size (fun k hk => by have := (Ho3.out.row k hk).1; omega))
    have Hw := Lib.hid hw
    have Ho4 := Lib.hid ho4
    clear hw ho4 hg4 hc2 hc3 hc4
    go_wp2
    go_ret
    refine ⟨_, rfl, ?_, Hw.out⟩
    rw [Hm2.out]
    exact OwnR.base Ho4.out (by omega)

set_option maxRecDepth 100000 in
set_option maxHeartbeats 4000000 in
theorem frBytesR_any (ty : UInt8) (l : List UInt8) (p : Option Addr) (c : Nat) (w : World) (hx : BytesIn w p l) (hl : l.length ≤ 100000) :
    Calls Tryz.prog 80 #[msgArg ty p l.length c] w fun e w' => ∃ v, e = .returned v ∧ OwnBR w.heap.size w' v (msgL ty l) ∧ Below w.heap.size w w' := by
  have H0 := Lib.hid (MsW.box (ty := ty) (c := c) hx)
  have Hm : Hid (∀ pre, pre = (if ty = 0 then ([] : List UInt8) else [ty]) → msgL ty l = putV pre ((l.length : Int) + 4) 4 ++ l) := Lib.hid (fun pre e => by rw [e]; rfl)
  have Hpl := Lib.hid (fun pre : List UInt8 => putV_len4 pre ((l.length : Int) + 4) 4)
  have hx0 := u8_bd ty
  have hws : IntKind.i64.wrap (4 + (l.length : Int)) = 4 + (l.length : Int) := by rw [IntKind.wrap_i64]; omega
  have hws2 : IntKind.i64.wrap ((l.length : Int) + 4) = (l.length : Int) + 4 := by rw [IntKind.wrap_i64]; omega
  have Hsum := Lib.hid (show (4 : Int) + (l.length : Int) = (l.length : Int) + 4 by omega)
  have hcase : ty = 0 ∨ ¬ ty = 0 := Decidable.em _
  clear hx
  unfold msgArg
  rcases hcase with h0 | h0
  · have Hm2 := Lib.hid (Hm.out [] (by rw [if_pos h0]))
    have hz : (ty.toNat : Int) = 0 := by rw [h0]; rfl
    rw [hz]
    have H1 : Hid (MsW w (w.alloc (.cells #[.int .u8 0, .slice p l.length c] 42)) w.heap.size ty l p c) := Lib.hid (by have := H0.out; rw [hz] at this; exact this)
    have hc1 : ∀ i, (w.alloc (.cells #[.int .u8 0, .slice p l.length c] 42)).cell? ⟨w.heap.size, i, none⟩ = (#[.int .u8 0, .slice p l.length c] : Array Value)[i]? := by have := H1.out.blk.cell; rw [hz] at this; exact this
    have hX : (ty.toNat : Int) = 0 := hz
    have HX := Lib.hid hX
    clear Hm h0 hx0 hX hz H0
    go_enter Tryz.func80, Tryz.ntmps80
    go_wp2_with fail
    generalize hw1 : w.alloc (.cells #[.int .u8 0, .slice p l.length c] 42) = w1 at *
    clear hw1
    have hlt1 := H1.out.blk.lt
    have H2 := H1
    have Hi2 := Lib.hid (BytesIn.nil w1 none)
    go_wp2_with fail
    generalize hw2 : w1 = w2 at *
    clear hw2
    have hc2 : ∀ i, w2.cell? ⟨w.heap.size, i, none⟩ = (#[.int .u8 0, .slice p l.length c] : Array Value)[i]? := (by have := H2.out.blk.cell; rw [HX.out] at this; exact this)
    have hlt2 := H2.out.blk.lt
    go_region_held3 (fun w' => ∀ i, w'.cell? ⟨w.heap.size, i, none⟩ = (#[.int .u8 0, .slice p l.length c] : Array Value)[i]?)
      (first | exact hc2 | exact hc3 | exact hc4 | go_keep)
      (first
        | (go_at_call 46; (try rw [Hsum.out]); refine (putR_any none [] 0 ((l.length : Int) + 4) 4 _ (by simp) (Hi2.out.drewN 1)).mono ?_; rintro e w3 ⟨v3, rfl, ho3, hb3⟩; have H3 : Hid (MsW w w3 _ _ _ _ _) := Lib.hid (H2.out.drew.step hb3); have hc3 : ∀ i, w3.cell? ⟨w.heap.size, i, none⟩ = (#[.int .u8 0, .slice p l.length c] : Array Value)[i]? := (by have := H3.out.blk.cell; rw [HX.out] at this; exact this); have hpl3 := Hpl.out []; have Ho3 : Hid (OwnBR w2.heap.size w3 v3 (putV [] ((l.length : Int) + 4) 4)) := Lib.hid (OwnBR.of ho3); have hs3 : w2.heap.size ≤ w3.heap.size := hb3.size; (try simp only [List.length_cons] at hpl3); simp only [List.length_nil] at hpl3; clear hb3 ho3)
        | (refine rgn_appendBR rfl (.tmp 17) (.tmp 19) rfl w2.heap.size _ _ rfl Ho3.out _ l _ _ rfl rfl H3.out.inn (by omega) hs3 ?_; intro v4 w4 ho4 hg4 _; have hc4 : ∀ i, w4.cell? ⟨w.heap.size, i, none⟩ = (#[.int .u8 0, .slice p l.length c] : Array Value)[i]? := (fun i => (cell_grown hg4 (by omega) (fun e => by have := (Ho3.out.row _ e.symm).1; omega)).trans (hc3 i))))
    have hw : Below w.heap.size w w4 := H3.out.bel.trans (Below.of_row hg4 H3.out.bel.size (fun k hk => by have := (Ho3.out.row k hk).1; omega))
    have Hw := Lib.hid hw
    have Ho4 := Lib.hid ho4
    clear hw ho4 hg4 hc2 hc3 hc4
    go_wp2
    go_ret
    refine ⟨_, rfl, ?_, Hw.out⟩
    rw [Hm2.out]
    exact OwnR.base Ho4.out (by omega)
  · have Hm2 := Lib.hid (Hm.out [ty] (by rw [if_neg h0]))
    have hne0 : ¬ ((ty.toNat : Int) = 0) := fun e => h0 (UInt8.toNat_inj.1 (by have : (0 : UInt8).toNat = 0 := rfl; omega))
    obtain ⟨x, hX⟩ : ∃ x : Nat, (ty.toNat : Int) = (x : Int) := ⟨_, rfl⟩
    rw [hX]
    rw [hX] at hne0 hx0
    have H1 : Hid (MsW w (w.alloc (.cells #[.int .u8 (x : Int), .slice p l.length c] 42)) w.heap.size ty l p c) := Lib.hid (by have := H0.out; rw [hX] at this; exact this)
    have hc1 : ∀ i, (w.alloc (.cells #[.int .u8 (x : Int), .slice p l.length c] 42)).cell? ⟨w.heap.size, i, none⟩ = (#[.int .u8 (x : Int), .slice p l.length c] : Array Value)[i]? := by have := H1.out.blk.cell; rw [hX] at this; exact this
    have HX := Lib.hid hX
    have hne : ¬ ((x : Int) = 0) := hne0
    clear Hm h0 hX H0 hne0
    have hz1 : (w.alloc (.cells #[.int .u8 (x : Int), .slice p l.length c] 42)).heap.size = w.heap.size + 1 := by simp
    have H2a := Lib.hid (H1.out.step ((Below.refl _ _).alloc (Nat.le_refl _) (.cells #[.int .u8 (x : Int)] 5)))
    have hi2a := BytesIn.new1 (w.alloc (.cells #[.int .u8 (x : Int), .slice p l.length c] 42)) ty (x : Int) 5 HX.out
    rw [hz1] at hi2a
    have Hi2a := Lib.hid hi2a
    have hz2a : ((w.alloc (.cells #[.int .u8 (x : Int), .slice p l.length c] 42)).alloc (.cells #[.int .u8 (x : Int)] 5)).heap.size = w.heap.size + 2 := by simp
    clear hz1 hi2a hc1
    go_enter Tryz.func80, Tryz.ntmps80
    go_wp2_with (at_builtin; refine step_appendBR _ rfl (.tmp 7) (.tmp 10) rfl (w.heap.size + 1) (.slice none 0 0) [] rfl (OwnBR.empty _ _ _) (some ⟨w.heap.size + 1, 0, none⟩) [ty] 1 1 rfl rfl Hi2a.out (by simp) (by omega) ?_; intro v2 w2 ho2 hg2 _; have Ho2 : Hid (OwnBR (w.heap.size + 1) w2 v2 [ty]) := Lib.hid ho2; have H2 := Lib.hid (H2a.out.step (Below.of_row hg2 (Nat.le_refl _) (fun k hk => by simp [rowOf] at hk))); clear ho2 hg2; obtain ⟨q2, d2, rfl, _, _, hi2, _⟩ := Ho2.out.slice; have Hi2 := Lib.hid hi2; clear hi2)
    have hc2 : ∀ i, w2.cell? ⟨w.heap.size, i, none⟩ = (#[.int .u8 (x : Int), .slice p l.length c] : Array Value)[i]? := (by have := H2.out.blk.cell; rw [HX.out] at this; exact this)
    have hlt2 := H2.out.blk.lt
    go_region_held3 (fun w' => ∀ i, w'.cell? ⟨w.heap.size, i, none⟩ = (#[.int .u8 (x : Int), .slice p l.length c] : Array Value)[i]?)
      (first | exact hc2 | exact hc3 | exact hc4 | go_keep)
      (first
        | (go_at_call 46; (try rw [Hsum.out]); refine (putR_any q2 [ty] d2 ((l.length : Int) + 4) 4 _ (by simp) (Hi2.out.drewN 1)).mono ?_; rintro e w3 ⟨v3, rfl, ho3, hb3⟩; have H3 : Hid (MsW w w3 _ _ _ _ _) := Lib.hid (H2.out.drew.step hb3); have hc3 : ∀ i, w3.cell? ⟨w.heap.size, i, none⟩ = (#[.int .u8 (x : Int), .slice p l.length c] : Array Value)[i]? := (by have := H3.out.blk.cell; rw [HX.out] at this; exact this); have hpl3 := Hpl.out [ty]; have Ho3 : Hid (OwnBR w2.heap.size w3 v3 (putV [ty] ((l.length : Int) + 4) 4)) := Lib.hid (OwnBR.of ho3); have hs3 : w2.heap.size ≤ w3.heap.size := hb3.size; (try simp only [List.length_cons] at hpl3); simp only [List.length_nil] at hpl3; clear hb3 ho3)
        | (refine rgn_appendBR rfl (.tmp 17) (.tmp 19) rfl w2.heap.size _ _ rfl Ho3.out _ l _ _ rfl rfl H3.out.inn (by omega) hs3 ?_; intro v4 w4 ho4 hg4 _; have hc4 : ∀ i, w4.cell? ⟨w.heap.size, i, none⟩ = (#[.int .u8 (x : Int), .slice p l.length c] : Array Value)[i]? := (fun i => (cell_grown hg4 (by omega) (fun e => by have := (Ho3.out.row _ e.symm).1; omega)).trans (hc3 i))))
    have hw : Below w.heap.size w w4 := H3.out.bel.trans (Below.of_row hg4 H3.out.bel.size (fun k hk => by have := (Ho3.out.row k hk).1; omega))
    have Hw := Lib.hid hw
    have Ho4 := Lib.hid ho4
    clear hw ho4 hg4 hc2 hc3 hc4
    go_wp2
    go_ret
    refine ⟨_, rfl, ?_, Hw.out⟩
    rw [Hm2.out]
    exact OwnR.base Ho4.out (by omega)

end Go.Proofs.YthhebfknikfleaaGreat

/-
  Messages of servers (layer 7): messages' bytes, one behind the other; both.
-/
namespace Go.Proofs.YthhebfknikfleaaGreat
open Go.RowKit
set_option linter.unusedVariables false
set_option linter.unusedSimpArgs false

/-- A message in a list. -/
def BaS : Rd BaV := fun S w cs x => ∃ a, cs = (baCells x a).toList ∧ BaL S w x a ∧ BaB x
theorem BaS.still : Still BaS := fun S S' w w' cs x ⟨a, h1, h2, h3⟩ hk => ⟨a, h1, h2.keep hk, h3⟩
theorem BaS.one (S : Nat → Prop) (w : World) (cs : List Value) (x : BaV) (h : BaS S w cs x) : ∀ u ∈ cs, u.oneCell' = true := by
  obtain ⟨a, rfl, _⟩ := h
  intro u hu
  simp only [baCells, List.mem_cons, List.not_mem_nil, or_false] at hu
  rcases hu with rfl | rfl | rfl | rfl | rfl | rfl | rfl | rfl | rfl | rfl | rfl <;> rfl
theorem ba_at {S : Nat → Prop} {w : World} {p : Option Addr} {n c k : Nat} {xs : List BaV} (h : SliceS 11 BaS S w [.slice p n c] xs) (hk : k < xs.length) :
    ∃ b o a, p = some ⟨b, o, none⟩ ∧ b < w.heap.size ∧ BaL S w xs[k] a ∧ BaB xs[k] ∧ w.cell? ⟨b, o + k * 11, none⟩ = some (.int .u8 xs[k].kind) ∧ w.cell? ⟨b, o + k * 11 + 1, none⟩ = some (.int .u8 xs[k].status) ∧ w.cell? ⟨b, o + k * 11 + 2, none⟩ = some (.string xs[k].tag) ∧ w.cell? ⟨b, o + k * 11 + 3, none⟩ = some (.string xs[k].name) ∧ w.cell? ⟨b, o + k * 11 + 4, none⟩ = some (.string xs[k].value) ∧ w.cell? ⟨b, o + k * 11 + 5, none⟩ = some (.int .i64 xs[k].n) ∧ w.cell? ⟨b, o + k * 11 + 6, none⟩ = some (.int .i64 xs[k].m) ∧ w.cell? ⟨b, o + k * 11 + 7, none⟩ = some (.slice a.po xs[k].oids.length a.co) ∧ w.cell? ⟨b, o + k * 11 + 8, none⟩ = some (.slice a.pc xs[k].cols.length a.cc) ∧ w.cell? ⟨b, o + k * 11 + 9, none⟩ = some (.slice a.pr xs[k].row.length a.cr) ∧ w.cell? ⟨b, o + k * 11 + 10, none⟩ = some (.slice a.pf xs[k].fields.length a.cf) := by
  obtain ⟨b, o, cs, rfl, hS, hb, _, hc, a, rfl, hl, hq⟩ := h.elem (by omega) k xs[k] (List.getElem?_eq_getElem hk)
  have c0 := hc 0 _ rfl
  rw [Nat.add_zero] at c0
  exact ⟨b, o, a, rfl, hb, hl, hq, c0, hc 1 _ rfl, hc 2 _ rfl, hc 3 _ rfl, hc 4 _ rfl, hc 5 _ rfl, hc 6 _ rfl, hc 7 _ rfl, hc 8 _ rfl, hc 9 _ rfl, hc 10 _ rfl⟩
/-- A message that may be, and its bytes are few. -/
structure ShortB (x : BaV) : Prop where
  s : SmallB x
  l : (bodyB x).length ≤ 100000
def addB (b : List UInt8) (x : BaV) : List UInt8 := if checkB x = 0 then b ++ msgL (UInt8.ofNat x.kind.toNat) (bodyB x) else b
def bytesB (l : List BaV) : List UInt8 := l.foldl addB []
def bytP (l : List BaV) (k : Nat) : List UInt8 := (l.take k).foldl addB []
theorem bytP_succ {l : List BaV} {k : Nat} (hk : k < l.length) : bytP l (k + 1) = addB (bytP l k) l[k] := by
  unfold bytP
  rw [List.take_succ_eq_append_getElem hk, List.foldl_append]
  rfl
theorem bytP_all (l : List BaV) : bytP l l.length = bytesB l := by
  unfold bytP bytesB
  rw [List.take_length]
theorem addB_len (b : List UInt8) (x : BaV) (h : (bodyB x).length ≤ 100000) : (addB b x).length ≤ b.length + 100005 := by
  unfold addB
  split
  · have := msgL_len (UInt8.ofNat x.kind.toNat) (bodyB x)
    rw [List.length_append]
    omega
  · omega
theorem bytP_len (l : List BaV) (hm : ∀ x ∈ l, (bodyB x).length ≤ 100000) : ∀ k, k ≤ l.length → (bytP l k).length ≤ 100005 * k
  | 0, _ => by simp [bytP]
  | k + 1, hk => by
    have ih := bytP_len l hm k (by omega)
    rw [bytP_succ (by omega)]
    have := addB_len (bytP l k) l[k] (hm l[k] (List.getElem_mem _))
    rw [Nat.mul_add]
    omega
theorem bframe_any (k : Int) (h0 : 0 ≤ k) (h1 : k < 256) (l : List UInt8) (p : Option Addr) (c : Nat) (w : World) (hx : BytesIn w p l) (hl : l.length ≤ 100000) :
    Calls Tryz.prog 79 #[.agg #[.int .u8 k, .slice p l.length c]] w fun e w' => ∃ p c, e = .returned (.slice p (msgL (UInt8.ofNat k.toNat) l).length c) ∧ BytesIn w' p (msgL (UInt8.ofNat k.toNat) l) ∧ Below w.heap.size w w' := by
  have h := frBytes_any (UInt8.ofNat k.toNat) l p c w hx hl
  unfold msgArg at h
  rw [byte_back h0 h1] at h
  refine h.mono ?_
  rintro e w' ⟨v, rfl, ho, hb⟩
  obtain ⟨p', c', rfl, -, -, q, -⟩ := ho.slice
  exact ⟨p', c', rfl, q, hb⟩
theorem rbframe_any (k : Int) (h0 : 0 ≤ k) (h1 : k < 256) (l : List UInt8) (p : Option Addr) (c : Nat) (w : World) (hx : BytesIn w p l) (hl : l.length ≤ 100000) :
    Calls Tryz.prog 80 #[.agg #[.int .u8 k, .slice p l.length c]] w fun e w' => ∃ p c, e = .returned (.slice p (msgL (UInt8.ofNat k.toNat) l).length c) ∧ BytesIn w' p (msgL (UInt8.ofNat k.toNat) l) ∧ Below w.heap.size w w' := by
  have h := frBytesR_any (UInt8.ofNat k.toNat) l p c w hx hl
  unfold msgArg at h
  rw [byte_back h0 h1] at h
  refine h.mono ?_
  rintro e w' ⟨v, rfl, ho, hb⟩
  obtain ⟨p', c', rfl, -, -, q, -⟩ := ho.slice
  exact ⟨p', c', rfl, q, hb⟩

set_option maxRecDepth 100000 in
set_option maxHeartbeats 4000000 in
theorem bbytes_any (S : Nat → Prop) (p : Option Addr) (n c : Nat) (ls : List BaV) (w : World) (hx : SliceS 11 BaS S w [.slice p n c] ls) (hxl : ls.length ≤ 1000) (hm : ∀ x ∈ ls, ShortB x) :
    Calls Tryz.prog 23 #[.slice p n c] w fun e w' => ∃ v', e = .returned v' ∧ OwnBR w.heap.size w' v' (bytesB ls) ∧ Below w.heap.size w w' := by
  obtain ⟨rfl, hlc, hcm⟩ := hx.len
  unfold maxLen at hcm
  have Hx := Lib.hid hx
  have Hall := Lib.hid (bytP_all ls)
  have Hlen := Lib.hid (fun k hk => bytP_len ls (fun x h => (hm x h).l) k hk)
  have Hm := Lib.hid hm
  clear hx hm
  go_enter Tryz.func23, Tryz.ntmps23
  go_wp2_with fail
  go_loopw [3, 10] (fun v i wr => ∃ k : Nat, k ≤ ls.length ∧ i = .int .i64 k ∧ OwnBR w.heap.size wr v (bytP ls k) ∧ Below w.heap.size w wr) (fun _ i _ => ls.length - (intOf i).toNat)
  case atStart => exact ⟨0, Nat.zero_le _, rfl, OwnBR.empty _ _ _, Below.refl _ _⟩
  case round =>
    obtain ⟨k, hk, rfl, ho, hb⟩ := hrel
    have hsz := hb.size
    have Hb := Lib.hid hb
    have Ho := Lib.hid ho
    by_cases hlt : k < ls.length
    · obtain ⟨b, o, a, rfl, hbl, hl, hbb, d0, d1, d2, d3, d4, d5, d6, d7, d8, d9, d10⟩ := ba_at (Hx.out.below BaS.still hb) hlt
      have hlk := Hlen.out k hk
      have hl9 : (bytP ls k).length ≤ 200000000 := by
        have : 100005 * k ≤ 100005 * 1000 := Nat.mul_le_mul (Nat.le_refl _) (by omega)
        omega
      have HS := Lib.hid (Hm.out ls[k] (List.getElem_mem hlt))
      have Hstep := Lib.hid (bytP_succ hlt)
      have Had : Hid (∀ b0, addB b0 ls[k] = if checkB ls[k] = 0 then b0 ++ msgL (UInt8.ofNat ls[k].kind.toNat) (bodyB ls[k]) else b0) := Lib.hid (fun _ => rfl)
      have Hen : Hid (encB ls[k] = if checkB ls[k] = 0 then (ls[k].kind, bodyB ls[k], 0) else (0, [], checkB ls[k])) := Lib.hid rfl
      have Hl := Lib.hid hl
      have Hbb := Lib.hid hbb
      have hbl2 := HS.out.l
      clear ho hb hlk hl hbb
      generalize hxe : ls[k] = x at *
      clear hxe
      have Hc := Lib.hid (fun (wz : World) (hl : BaL S wz x a) => benc_any S x a wz hl Hbb.out HS.out.s)
      unfold EncB at Hc
      have Hk0 := Lib.hid (show 0 ≤ x.kind ∧ x.kind < 256 from ⟨Hbb.out.1, Hbb.out.2.1⟩)
      generalize encB x = ev at *
      generalize bodyB x = bx at *
      generalize checkB x = cx at *
      obtain ⟨xk, xs, xt, xn, xv, xa, xb, xo, xc, xr, xf⟩ := x
      obtain ⟨apo, aco, apc, acc, apr, acr, apf, acf⟩ := a
      unfold baArg baCells at Hc
      dsimp only at *
      have hlti : (k : Int) < (ls.length : Int) := by omega
      have hal : Below wr.heap.size wr (wr.alloc (.cells #[.int .u8 xk, .int .u8 xs, .string xt, .string xn, .string xv, .int .i64 xa, .int .i64 xb, .slice apo xo.length aco, .slice apc xc.length acc, .slice apr xr.length acr, .slice apf xf.length acf] 39)) := (Below.refl _ _).alloc (Nat.le_refl _) _
      have Hla := Lib.hid (Hl.out.below hal)
      have HBa := Lib.hid (Hb.out.trans (hal.mono hsz))
      have Hoa := Lib.hid (Ho.out.below hal)
      have Hka := Lib.hid (Blk.new wr 39 #[.int .u8 xk, .int .u8 xs, .string xt, .string xn, .string xv, .int .i64 xa, .int .i64 xb, .slice apo xo.length aco, .slice apc xc.length acc, .slice apr xr.length acr, .slice apf xf.length acf])
      clear hal Hl
      go_upto_region 5 with fail
      clear d0 d1 d2 d3 d4 d5 d6 d7 d8 d9 d10 hbl
      generalize wr.alloc (.cells #[.int .u8 xk, .int .u8 xs, .string xt, .string xn, .string xv, .int .i64 xa, .int .i64 xb, .slice apo xo.length aco, .slice apc xc.length acc, .slice apr xr.length acr, .slice apf xf.length acf] 39) = wa at *
      generalize hgx : wr.heap.size = gx at *
      have hcx := Hka.out.cell
      have hza : w.heap.size ≤ wa.heap.size := HBa.out.size
      go_wp2_with fail
      refine (Hc.out _ Hla.out).mono ?_
      rintro e w5 ⟨v5, rfl, ho5, hb5⟩
      have HB5 := Lib.hid (HBa.out.trans (hb5.mono hza))
      have Ho5 := Lib.hid ho5
      have Hoo := Lib.hid (Hoa.out.below hb5)
      have hz5 : w.heap.size ≤ w5.heap.size := HB5.out.size
      obtain ⟨n5, p5, c5, hv5⟩ : ∃ n p c, v5 = .slice p n c := by
        obtain ⟨p, c, h, _⟩ := ho5.slice
        exact ⟨_, p, c, h⟩
      subst hv5
      clear ho5 hb5 hcx
      by_cases hcz : cx = 0
      · have hev := Hen.out
        rw [if_pos hcz] at hev
        have hnx := Hstep.out.trans (Had.out _)
        rw [if_pos hcz] at hnx
        have Hnx := Lib.hid hnx
        subst hev
        dsimp only at Ho5 ⊢
        clear hcz hnx Hen
        have hn5 : n5 = bx.length := by
          obtain ⟨p, c, h, _⟩ := Ho5.out.slice
          cases h
          rfl
        subst hn5
        obtain ⟨p', c', hpc, -, -, q5, -⟩ := Ho5.out.slice
        simp only [Value.slice.injEq, true_and] at hpc
        obtain ⟨rfl, rfl⟩ := hpc
        have Hq5 := Lib.hid q5
        clear q5
        have Hkm := Lib.hid (Blk.new w5 42 #[.int .u8 xk, .slice p5 bx.length c5])
        have halm : Below w5.heap.size w5 (w5.alloc (.cells #[.int .u8 xk, .slice p5 bx.length c5] 42)) := (Below.refl _ _).alloc (Nat.le_refl _) _
        have HB6 := Lib.hid (HB5.out.trans (halm.mono hz5))
        have Ho6 := Lib.hid (Hoo.out.below halm)
        have Hq6 := Lib.hid (Hq5.out.below halm)
        have Hfr := Lib.hid (fun wz h => bframe_any xk Hk0.out.1 Hk0.out.2 bx p5 c5 wz h hbl2)
        clear halm
        go_upto_region 6 with fail
        generalize w5.alloc (.cells #[.int .u8 xk, .slice p5 bx.length c5] 42) = w6 at *
        generalize w5.heap.size = g5 at *
        have hcm6 := Hkm.out.cell
        have hz6 := HB6.out.size
        go_wp2_with fail
        refine (Hfr.out w6 Hq6.out).mono ?_
        rintro e w7 ⟨p7, c7, rfl, hq7, hb7⟩
        have Hml := Lib.hid (msgL_len (UInt8.ofNat xk.toNat) bx)
        have Hq7 := Lib.hid hq7
        have HB7 := Lib.hid (HB6.out.trans (hb7.mono hz6))
        have Ho7 := Lib.hid (Ho6.out.below hb7)
        have hz7 := HB7.out.size
        clear hq7 hb7 hcm6
        generalize hM : msgL (UInt8.ofNat xk.toNat) bx = M at *
        have hml := Hml.out
        clear hM
        generalize hQ : bytP ls k = Q at *
        clear hQ
        go_wp2_with (at_builtin; refine step_appendBR _ rfl (.tmp 21) (.tmp 23) rfl w.heap.size _ Q rfl Ho7.out p7 M _ c7 rfl rfl Hq7.out (by omega) hz7 ?_; intro v8 w8 ho8 hg8 hn8; have Ho8 := Lib.hid ho8; have HB8 : Hid (Below w.heap.size w w8) := Lib.hid (HB7.out.trans (Below.of_row hg8 hz7 (fun k hk => (Ho7.out.row k hk).1))); clear ho8 hg8 hn8)
        rw [← Hnx.out] at Ho8
        go_roundw
        case rel => exact ⟨k + 1, by omega, by go_num, Ho8.out, HB8.out⟩
        case measure => simp [intOf]; omega
      · have hev := Hen.out
        rw [if_neg hcz] at hev
        have hnx := Hstep.out.trans (Had.out _)
        rw [if_neg hcz] at hnx
        have Hnx := Lib.hid hnx
        have hcb : (cx == 0) = false := by simpa using hcz
        subst hev
        dsimp only at Ho5 ⊢
        clear hcz hnx Hen
        have halm : Below w5.heap.size w5 (w5.alloc (.cells #[.int .u8 0, .slice p5 n5 c5] 42)) := (Below.refl _ _).alloc (Nat.le_refl _) _
        have HB6 := Lib.hid (HB5.out.trans (halm.mono hz5))
        have Ho6 := Lib.hid (Hoo.out.below halm)
        rw [← Hnx.out] at Ho6
        clear halm
        go_wp2_with fail
        go_roundw
        case rel => exact ⟨k + 1, by omega, by go_num, Ho6.out, HB6.out⟩
        case measure => simp [intOf]; omega
    · obtain rfl : k = ls.length := by omega
      rw [Hall.out] at ho
      have Hoe := Lib.hid ho
      clear ho hb Ho
      go_wp2_with fail
      go_ret
      exact ⟨_, rfl, Hoe.out, Hb.out⟩

set_option maxRecDepth 100000 in
set_option maxHeartbeats 4000000 in
theorem rbbytes_any (S : Nat → Prop) (p : Option Addr) (n c : Nat) (ls : List BaV) (w : World) (hx : SliceS 11 BaS S w [.slice p n c] ls) (hxl : ls.length ≤ 1000) (hm : ∀ x ∈ ls, ShortB x) :
    Calls Tryz.prog 24 #[.slice p n c] w fun e w' => ∃ v', e = .returned v' ∧ OwnBR w.heap.size w' v' (bytesB ls) ∧ Below w.heap.size w w' := by
  obtain ⟨rfl, hlc, hcm⟩ := hx.len
  unfold maxLen at hcm
  have Hx := Lib.hid hx
  have Hall := Lib.hid (bytP_all ls)
  have Hlen := Lib.hid (fun k hk => bytP_len ls (fun x h => (hm x h).l) k hk)
  have Hm := Lib.hid hm
  clear hx hm
  go_enter Tryz.func24, Tryz.ntmps24
  go_wp2_with fail
  go_loopw [3, 4] (fun v i wr => ∃ k : Nat, k ≤ ls.length ∧ i = .int .i64 k ∧ OwnBR w.heap.size wr v (bytP ls k) ∧ Below w.heap.size w wr) (fun _ i _ => ls.length - (intOf i).toNat)
  case atStart => exact ⟨0, Nat.zero_le _, rfl, OwnBR.empty _ _ _, Below.refl _ _⟩
  case round =>
    obtain ⟨k, hk, rfl, ho, hb⟩ := hrel
    have hsz := hb.size
    have Hb := Lib.hid hb
    have Ho := Lib.hid ho
    by_cases hlt : k < ls.length
    · obtain ⟨b, o, a, rfl, hbl, hl, hbb, d0, d1, d2, d3, d4, d5, d6, d7, d8, d9, d10⟩ := ba_at (Hx.out.below BaS.still hb) hlt
      have hlk := Hlen.out k hk
      have hl9 : (bytP ls k).length ≤ 200000000 := by
        have : 100005 * k ≤ 100005 * 1000 := Nat.mul_le_mul (Nat.le_refl _) (by omega)
        omega
      have HS := Lib.hid (Hm.out ls[k] (List.getElem_mem hlt))
      have Hstep := Lib.hid (bytP_succ hlt)
      have Had : Hid (∀ b0, addB b0 ls[k] = if checkB ls[k] = 0 then b0 ++ msgL (UInt8.ofNat ls[k].kind.toNat) (bodyB ls[k]) else b0) := Lib.hid (fun _ => rfl)
      have Hen : Hid (encB ls[k] = if checkB ls[k] = 0 then (ls[k].kind, bodyB ls[k], 0) else (0, [], checkB ls[k])) := Lib.hid rfl
      have Hl := Lib.hid hl
      have Hbb := Lib.hid hbb
      have hbl2 := HS.out.l
      clear ho hb hlk hl hbb
      generalize hxe : ls[k] = x at *
      clear hxe
      have Hc := Lib.hid (fun (wz : World) (hl : BaL S wz x a) => rbenc_any S x a wz hl Hbb.out HS.out.s)
      unfold EncB at Hc
      have Hk0 := Lib.hid (show 0 ≤ x.kind ∧ x.kind < 256 from ⟨Hbb.out.1, Hbb.out.2.1⟩)
      generalize encB x = ev at *
      generalize bodyB x = bx at *
      generalize checkB x = cx at *
      obtain ⟨xk, xs, xt, xn, xv, xa, xb, xo, xc, xr, xf⟩ := x
      obtain ⟨apo, aco, apc, acc, apr, acr, apf, acf⟩ := a
      unfold baArg baCells at Hc
      dsimp only at *
      have hlti : (k : Int) < (ls.length : Int) := by omega
      have hal : Below wr.heap.size wr wr := Below.refl _ _
      have Hla := Lib.hid (Hl.out.below hal)
      have HBa := Lib.hid Hb.out
      have Hoa := Lib.hid Ho.out
      clear hal Hl
      have hza : w.heap.size ≤ wr.heap.size := hsz
      go_wp2_with fail
      refine (Hc.out _ Hla.out).mono ?_
      rintro e w5 ⟨v5, rfl, ho5, hb5⟩
      have HB5 := Lib.hid (HBa.out.trans (hb5.mono hza))
      have Ho5 := Lib.hid ho5
      have Hoo := Lib.hid (Hoa.out.below hb5)
      have hz5 : w.heap.size ≤ w5.heap.size := HB5.out.size
      obtain ⟨n5, p5, c5, hv5⟩ : ∃ n p c, v5 = .slice p n c := by
        obtain ⟨p, c, h, _⟩ := ho5.slice
        exact ⟨_, p, c, h⟩
      subst hv5
      clear ho5 hb5 d0 d1 d2 d3 d4 d5 d6 d7 d8 d9 d10 hbl
      by_cases hcz : cx = 0
      · have hev := Hen.out
        rw [if_pos hcz] at hev
        have hnx := Hstep.out.trans (Had.out _)
        rw [if_pos hcz] at hnx
        have Hnx := Lib.hid hnx
        subst hev
        dsimp only at Ho5 ⊢
        clear hcz hnx Hen
        have hn5 : n5 = bx.length := by
          obtain ⟨p, c, h, _⟩ := Ho5.out.slice
          cases h
          rfl
        subst hn5
        obtain ⟨p', c', hpc, -, -, q5, -⟩ := Ho5.out.slice
        simp only [Value.slice.injEq, true_and] at hpc
        obtain ⟨rfl, rfl⟩ := hpc
        have Hq5 := Lib.hid q5
        clear q5
        have Hkm := Lib.hid (Blk.new w5 42 #[.int .u8 xk, .slice p5 bx.length c5])
        have halm : Below w5.heap.size w5 (w5.alloc (.cells #[.int .u8 xk, .slice p5 bx.length c5] 42)) := (Below.refl _ _).alloc (Nat.le_refl _) _
        have HB6 := Lib.hid (HB5.out.trans (halm.mono hz5))
        have Ho6 := Lib.hid (Hoo.out.below halm)
        have Hq6 := Lib.hid (Hq5.out.below halm)
        have Hfr := Lib.hid (fun wz h => rbframe_any xk Hk0.out.1 Hk0.out.2 bx p5 c5 wz h hbl2)
        clear halm
        go_upto_region 6 with fail
        generalize w5.alloc (.cells #[.int .u8 xk, .slice p5 bx.length c5] 42) = w6 at *
        generalize w5.heap.size = g5 at *
        have hcm6 := Hkm.out.cell
        have hz6 := HB6.out.size
        go_wp2_with fail
        refine (Hfr.out w6 Hq6.out).mono ?_
        rintro e w7 ⟨p7, c7, rfl, hq7, hb7⟩
        have Hml := Lib.hid (msgL_len (UInt8.ofNat xk.toNat) bx)
        have Hq7 := Lib.hid hq7
        have HB7 := Lib.hid (HB6.out.trans (hb7.mono hz6))
        have Ho7 := Lib.hid (Ho6.out.below hb7)
        have hz7 := HB7.out.size
        clear hq7 hb7 hcm6
        generalize hM : msgL (UInt8.ofNat xk.toNat) bx = M at *
        have hml := Hml.out
        clear hM
        generalize hQ : bytP ls k = Q at *
        clear hQ
        go_wp2_with (at_builtin; refine step_appendBR _ rfl (.tmp 23) (.tmp 25) rfl w.heap.size _ Q rfl Ho7.out p7 M _ c7 rfl rfl Hq7.out (by omega) hz7 ?_; intro v8 w8 ho8 hg8 hn8; have Ho8 := Lib.hid ho8; have HB8 : Hid (Below w.heap.size w w8) := Lib.hid (HB7.out.trans (Below.of_row hg8 hz7 (fun k hk => (Ho7.out.row k hk).1))); clear ho8 hg8 hn8)
        rw [← Hnx.out] at Ho8
        go_roundw
        case rel => exact ⟨k + 1, by omega, by go_num, Ho8.out, HB8.out⟩
        case measure => simp [intOf]; omega
      · have hev := Hen.out
        rw [if_neg hcz] at hev
        have hnx := Hstep.out.trans (Had.out _)
        rw [if_neg hcz] at hnx
        have Hnx := Lib.hid hnx
        have hcb : (cx == 0) = false := by simpa using hcz
        subst hev
        dsimp only at Ho5 ⊢
        clear hcz hnx Hen
        have halm : Below w5.heap.size w5 (w5.alloc (.cells #[.int .u8 0, .slice p5 n5 c5] 42)) := (Below.refl _ _).alloc (Nat.le_refl _) _
        have HB6 := Lib.hid (HB5.out.trans (halm.mono hz5))
        have Ho6 := Lib.hid (Hoo.out.below halm)
        rw [← Hnx.out] at Ho6
        clear halm
        go_wp2_with fail
        go_roundw
        case rel => exact ⟨k + 1, by omega, by go_num, Ho6.out, HB6.out⟩
        case measure => simp [intOf]; omega
    · obtain rfl : k = ls.length := by omega
      rw [Hall.out] at ho
      have Hoe := Lib.hid ho
      clear ho hb Ho
      go_wp2_with fail
      go_ret
      exact ⟨_, rfl, Hoe.out, Hb.out⟩

end Go.Proofs.YthhebfknikfleaaGreat

/-
  slices.IndexFunc and ContainsFunc at columns, whatever the function handed in: its contract is a premise.
-/
namespace Go.Proofs.YthhebfknikfleaaGreat
open Go.RowKit
set_option linter.unusedVariables false
set_option linter.unusedSimpArgs false

set_option maxRecDepth 100000 in
set_option maxHeartbeats 4000000 in
theorem indexCo0 (K : FuncId) (P : CoV → Bool) (S : Nat → Prop) (p : Option Addr) (n c : Nat) (L : List CoV) (w : World) (h : SliceS 7 CoS S w [.slice p n c] L)
    (hE : ∀ (args : Array Value) (w0 : World), (callFunc K args).run Tryz.prog w0 = .ok (.enter K args) w0) (hK : ∀ (x : CoV) (w0 : World), Below w.heap.size w w0 → x.name.size ≤ maxLen → Calls Tryz.prog K #[.agg #[.string x.name, .int .i64 x.table, .int .i64 x.attr, .int .i64 x.oid, .int .i64 x.size, .int .i64 x.mod, .int .i64 x.format]] w0 fun e w' => e = .returned (.bool (P x)) ∧ Below w0.heap.size w0 w') :
    Calls Tryz.prog 95 #[.slice p n c, .func (.func K) #[] #[]] w fun e w' => ∃ r, e = .returned (.int .i64 r) ∧ IdxG P L r ∧ Below w.heap.size w w' := by
  have H := Lib.hid h
  have HK := Lib.hid hK
  obtain ⟨rfl, hlc, hcm⟩ := h.len
  unfold maxLen at hcm
  clear h hK
  go_enter Tryz.func95, Tryz.ntmps95
  go_wp2_with fail
  go_loopw [5, 8] (fun _ i wr => ∃ k : Nat, k ≤ L.length ∧ i = .int .i64 k ∧ k ≤ aheadG P L ∧ Below w.heap.size w wr) (fun _ i _ => L.length - (intOf i).toNat)
  case atStart => exact ⟨0, Nat.zero_le _, rfl, Nat.zero_le _, Below.refl _ _⟩
  case round =>
    obtain ⟨k, hk, rfl, hka, hb⟩ := hrel
    have hsz := hb.size
    have Hb := Lib.hid hb
    have Hka := Lib.hid hka
    clear hka
    by_cases hlt : k < L.length
    · obtain ⟨b, o, rfl, hS, hbl, c0, c1, c2, c3, c4, c5, c6, hq⟩ := co_at (H.out.below CoS.still hb) hlt
      have Hgo := Lib.hid (aheadG_go P L k hlt)
      have Hat := Lib.hid (aheadG_at P L k hlt)
      clear hb hS
      generalize L[k] = x at *
      have Hc := Lib.hid (HK.out x  wr Hb.out hq)
      have hlti : (k : Int) < (L.length : Int) := by omega
      go_wp2_with fail
      refine Hc.out.mono ?_
      rintro e w1 ⟨rfl, hb1⟩
      have Hb1 := Lib.hid (Hb.out.trans (hb1.mono hsz))
      clear hb1
      cases hP : P x with
      | false =>
        have Hn := Lib.hid (Hgo.out Hka.out hP)
        clear hP
        go_wp2_with fail
        go_roundw
        case rel => exact ⟨k + 1, by omega, by go_num, Hn.out, Hb1.out⟩
        case measure => simp [intOf]; omega
      | true =>
        have Hn := Lib.hid (Hat.out Hka.out hP)
        clear hP
        go_wp2_with fail
        go_ret
        exact ⟨_, rfl, .inl ⟨by rw [Hn.out], by rw [Hn.out]; exact hlt⟩, Hb1.out⟩
    · obtain rfl : k = L.length := by omega
      have Hn := Lib.hid (Nat.le_antisymm (aheadG_le P L) Hka.out)
      go_wp2
      go_ret
      exact ⟨_, rfl, .inr ⟨rfl, Hn.out⟩, Hb.out⟩

set_option maxRecDepth 100000 in
theorem containsCo0 (K : FuncId) (P : CoV → Bool) (S : Nat → Prop) (p : Option Addr) (n c : Nat) (L : List CoV) (w : World) (h : SliceS 7 CoS S w [.slice p n c] L)
    (hE : ∀ (args : Array Value) (w0 : World), (callFunc K args).run Tryz.prog w0 = .ok (.enter K args) w0) (hK : ∀ (x : CoV) (w0 : World), Below w.heap.size w w0 → x.name.size ≤ maxLen → Calls Tryz.prog K #[.agg #[.string x.name, .int .i64 x.table, .int .i64 x.attr, .int .i64 x.oid, .int .i64 x.size, .int .i64 x.mod, .int .i64 x.format]] w0 fun e w' => e = .returned (.bool (P x)) ∧ Below w0.heap.size w0 w') :
    Calls Tryz.prog 35 #[.slice p n c, .func (.func K) #[] #[]] w fun e w' => e = .returned (.bool (L.any P)) ∧ Below w.heap.size w w' := by
  have H := Lib.hid (indexCo0 K P S p n c L w h hE hK)
  clear h hK
  go_enter Tryz.func35, Tryz.ntmps35
  go_wp2_with fail
  refine H.out.mono ?_
  rintro e w1 ⟨r, rfl, hr, hb⟩
  have Hr := Lib.hid hr.any
  have Hb := Lib.hid hb
  clear hb hr
  go_wp2
  go_ret
  exact ⟨ret_bool Hr.out, Hb.out⟩

end Go.Proofs.YthhebfknikfleaaGreat

/-
  slices.IndexFunc and ContainsFunc at fields, whatever the function handed in: its contract is a premise.
-/
namespace Go.Proofs.YthhebfknikfleaaGreat
open Go.RowKit
set_option linter.unusedVariables false
set_option linter.unusedSimpArgs false

set_option maxRecDepth 100000 in
set_option maxHeartbeats 4000000 in
theorem indexFd0 (K : FuncId) (P : FdV → Bool) (S : Nat → Prop) (p : Option Addr) (n c : Nat) (L : List FdV) (w : World) (h : SliceS 2 FdS S w [.slice p n c] L)
    (hE : ∀ (args : Array Value) (w0 : World), (callFunc K args).run Tryz.prog w0 = .ok (.enter K args) w0) (hK : ∀ (x : FdV) (w0 : World), Below w.heap.size w w0 → x.text.size ≤ maxLen → 0 ≤ x.code → x.code < 256 → Calls Tryz.prog K #[.agg #[.int .u8 x.code, .string x.text]] w0 fun e w' => e = .returned (.bool (P x)) ∧ Below w0.heap.size w0 w') :
    Calls Tryz.prog 97 #[.slice p n c, .func (.func K) #[] #[]] w fun e w' => ∃ r, e = .returned (.int .i64 r) ∧ IdxG P L r ∧ Below w.heap.size w w' := by
  have H := Lib.hid h
  have HK := Lib.hid hK
  obtain ⟨rfl, hlc, hcm⟩ := h.len
  unfold maxLen at hcm
  clear h hK
  go_enter Tryz.func97, Tryz.ntmps97
  go_wp2_with fail
  go_loopw [5, 8] (fun _ i wr => ∃ k : Nat, k ≤ L.length ∧ i = .int .i64 k ∧ k ≤ aheadG P L ∧ Below w.heap.size w wr) (fun _ i _ => L.length - (intOf i).toNat)
  case atStart => exact ⟨0, Nat.zero_le _, rfl, Nat.zero_le _, Below.refl _ _⟩
  case round =>
    obtain ⟨k, hk, rfl, hka, hb⟩ := hrel
    have hsz := hb.size
    have Hb := Lib.hid hb
    have Hka := Lib.hid hka
    clear hka
    by_cases hlt : k < L.length
    · obtain ⟨b, o, rfl, hS, hbl, c0, c1, hq, hq0, hq1⟩ := fd_at (H.out.below FdS.still hb) hlt
      have Hgo := Lib.hid (aheadG_go P L k hlt)
      have Hat := Lib.hid (aheadG_at P L k hlt)
      clear hb hS
      generalize L[k] = x at *
      have Hc := Lib.hid (HK.out x  wr Hb.out hq hq0 hq1)
      have hlti : (k : Int) < (L.length : Int) := by omega
      go_wp2_with fail
      refine Hc.out.mono ?_
      rintro e w1 ⟨rfl, hb1⟩
      have Hb1 := Lib.hid (Hb.out.trans (hb1.mono hsz))
      clear hb1
      cases hP : P x with
      | false =>
        have Hn := Lib.hid (Hgo.out Hka.out hP)
        clear hP
        go_wp2_with fail
        go_roundw
        case rel => exact ⟨k + 1, by omega, by go_num, Hn.out, Hb1.out⟩
        case measure => simp [intOf]; omega
      | true =>
        have Hn := Lib.hid (Hat.out Hka.out hP)
        clear hP
        go_wp2_with fail
        go_ret
        exact ⟨_, rfl, .inl ⟨by rw [Hn.out], by rw [Hn.out]; exact hlt⟩, Hb1.out⟩
    · obtain rfl : k = L.length := by omega
      have Hn := Lib.hid (Nat.le_antisymm (aheadG_le P L) Hka.out)
      go_wp2
      go_ret
      exact ⟨_, rfl, .inr ⟨rfl, Hn.out⟩, Hb.out⟩

set_option maxRecDepth 100000 in
theorem containsFd0 (K : FuncId) (P : FdV → Bool) (S : Nat → Prop) (p : Option Addr) (n c : Nat) (L : List FdV) (w : World) (h : SliceS 2 FdS S w [.slice p n c] L)
    (hE : ∀ (args : Array Value) (w0 : World), (callFunc K args).run Tryz.prog w0 = .ok (.enter K args) w0) (hK : ∀ (x : FdV) (w0 : World), Below w.heap.size w w0 → x.text.size ≤ maxLen → 0 ≤ x.code → x.code < 256 → Calls Tryz.prog K #[.agg #[.int .u8 x.code, .string x.text]] w0 fun e w' => e = .returned (.bool (P x)) ∧ Below w0.heap.size w0 w') :
    Calls Tryz.prog 39 #[.slice p n c, .func (.func K) #[] #[]] w fun e w' => e = .returned (.bool (L.any P)) ∧ Below w.heap.size w w' := by
  have H := Lib.hid (indexFd0 K P S p n c L w h hE hK)
  clear h hK
  go_enter Tryz.func39, Tryz.ntmps39
  go_wp2_with fail
  refine H.out.mono ?_
  rintro e w1 ⟨r, rfl, hr, hb⟩
  have Hr := Lib.hid hr.any
  have Hb := Lib.hid hb
  clear hb hr
  go_wp2
  go_ret
  exact ⟨ret_bool Hr.out, Hb.out⟩

end Go.Proofs.YthhebfknikfleaaGreat

/-
  Messages of servers (layer 7): short ones (remudaplain.Back); their bytes are few; as arguments.
-/
namespace Go.Proofs.YthhebfknikfleaaGreat
open Go.RowKit
set_option linter.unusedVariables false
set_option linter.unusedSimpArgs false

/-- A message is short. -/
structure FewB (x : BaV) : Prop where
  t : x.tag.size ≤ 300
  n : x.name.size ≤ 300
  v : x.value.size ≤ 300
  o : x.oids.length ≤ 50
  c : x.cols.length ≤ 50
  cn : ∀ c ∈ x.cols, c.name.size ≤ 300
  r : x.row.length ≤ 50
  rb : ∀ c ∈ x.row, c.bytes.length ≤ 300
  f : x.fields.length ≤ 50
  ft : ∀ c ∈ x.fields, c.text.size ≤ 1000
theorem FewB.small {x : BaV} (h : FewB x) : SmallB x :=
  ⟨by have := h.t; omega, by have := h.n; omega, by have := h.v; omega, by have := h.o; omega, by have := h.c; omega, fun c hc => by have := h.cn c hc; omega, by have := h.r; omega, fun c hc => by have := h.rb c hc; omega, by have := h.f; omega, fun c hc => by have := h.ft c hc; omega⟩
theorem FewB.bytes {x : BaV} (h : FewB x) : (bodyB x).length ≤ 100000 := by
  obtain ⟨h1, h2, h3, h4, h5, h6, h7, h8, h9, h10⟩ := h
  unfold bodyB
  split
  · have := putV_len4 [] 0 4; simp only [List.length_nil] at this; omega
  split
  · have k1 := strB_len [] x.name; have k2 := strB_len (strB [] x.name) x.value; simp only [List.length_nil] at k1; omega
  split
  · have k1 := putV_len4 [] x.n 4; have k2 := putV_len4 (putV [] x.n 4) x.m 4; simp only [List.length_nil] at k1; omega
  split
  · simp
  split
  · have k1 := strB_len [] x.tag; simp only [List.length_nil] at k1; omega
  split
  · have k1 := rowB_lenB [] x.row 300 h8; simp only [List.length_nil] at k1; omega
  split
  · have k1 := colP_len [] x.cols 300 h6 x.cols.length (Nat.le_refl _)
    rw [colP_all] at k1
    simp only [List.length_nil] at k1
    omega
  split
  · have k1 := listB_lenB [] x.oids 4; simp only [List.length_nil] at k1; omega
  split
  · have k1 := fldP_len [] x.fields 1000 h10 x.fields.length (Nat.le_refl _)
    rw [fldP_all] at k1
    rw [List.length_append]
    simp only [List.length_nil, List.length_singleton] at *
    omega
  · simp
theorem FewB.short {x : BaV} (h : FewB x) : ShortB x := ⟨h.small, h.bytes⟩

def longCo (c : CoV) : Bool := decide (300 < c.name.size)
def longCe (c : CeV) : Bool := decide (300 < c.bytes.length)
def longFd (c : FdV) : Bool := decide (1000 < c.text.size)
theorem longCo_any (x : CoV) (w : World) : Calls Tryz.prog 36 #[.agg #[.string x.name, .int .i64 x.table, .int .i64 x.attr, .int .i64 x.oid, .int .i64 x.size, .int .i64 x.mod, .int .i64 x.format]] w fun e w' => e = .returned (.bool (longCo x)) ∧ Below w.heap.size w w' := by
  have Hb := Lib.hid ((Below.refl w.heap.size w).alloc (Nat.le_refl _) (.cells #[.string x.name, .int .i64 x.table, .int .i64 x.attr, .int .i64 x.oid, .int .i64 x.size, .int .i64 x.mod, .int .i64 x.format] 79))
  have Hv : Hid (longCo x = decide ((300 : Int) < (x.name.size : Int))) := Lib.hid (by unfold longCo; exact decide_eq_decide.2 (by omega))
  generalize longCo x = v at *
  obtain ⟨xn, x1, x2, x3, x4, x5, x6⟩ := x
  dsimp only at *
  go_enter Tryz.func36, Tryz.ntmps36
  go_wp2
  go_ret
  exact ⟨ret_bool (by rw [Hv.out]), Hb.out⟩
theorem longCe_any (x : CeV) (q : Option Addr) (d : Nat) (w : World) : Calls Tryz.prog 38 #[.agg #[.bool x.null, .slice q x.bytes.length d]] w fun e w' => e = .returned (.bool (longCe x)) ∧ Below w.heap.size w w' := by
  have Hb := Lib.hid ((Below.refl w.heap.size w).alloc (Nat.le_refl _) (.cells #[.bool x.null, .slice q x.bytes.length d] 83))
  have Hv : Hid (longCe x = decide ((300 : Int) < (x.bytes.length : Int))) := Lib.hid (by unfold longCe; exact decide_eq_decide.2 (by omega))
  generalize longCe x = v at *
  obtain ⟨xn, xb⟩ := x
  dsimp only at *
  generalize xb.length = m at *
  go_enter Tryz.func38, Tryz.ntmps38
  go_wp2
  go_ret
  exact ⟨ret_bool (by rw [Hv.out]), Hb.out⟩
theorem longFd_any (x : FdV) (w : World) : Calls Tryz.prog 40 #[.agg #[.int .u8 x.code, .string x.text]] w fun e w' => e = .returned (.bool (longFd x)) ∧ Below w.heap.size w w' := by
  have Hb := Lib.hid ((Below.refl w.heap.size w).alloc (Nat.le_refl _) (.cells #[.int .u8 x.code, .string x.text] 87))
  have Hv : Hid (longFd x = decide ((1000 : Int) < (x.text.size : Int))) := Lib.hid (by unfold longFd; exact decide_eq_decide.2 (by omega))
  generalize longFd x = v at *
  obtain ⟨xc, xt⟩ := x
  dsimp only at *
  go_enter Tryz.func40, Tryz.ntmps40
  go_wp2
  go_ret
  exact ⟨ret_bool (by rw [Hv.out]), Hb.out⟩

/-- What it answers of a message. -/
def FewBR (x : BaV) (w : World) (e : Ending) (w' : World) : Prop := ∃ b, e = .returned (.bool b) ∧ (b = true → FewB x) ∧ Below w.heap.size w w'
theorem FewBR.no {x : BaV} {w w' : World} (h : Below w.heap.size w w') : FewBR x w (.returned (.bool false)) w' := ⟨false, rfl, (fun e => by cases e), h⟩

set_option maxRecDepth 100000 in
set_option maxHeartbeats 4000000 in
theorem fewB_any (S : Nat → Prop) (x : BaV) (a : BaP) (w : World) (h : BaL S w x a) : Calls Tryz.prog 15 #[baArg x a] w (FewBR x w) := by
  have H0 := Lib.hid (Ba1.start h)
  have HC : Hid (∀ w1 : World, Ba1 w w1 w.heap.size x a → ∀ i, w1.cell? ⟨w.heap.size, i, none⟩ = (baCells x a)[i]?) := Lib.hid (fun w1 H => H.b.cell)
  have HP := Lib.hid (fun (w0 : World) (H : Ba1 w w0 w.heap.size x a) => containsCo0 36 longCo (fun _ => True) a.pc x.cols.length a.cc x.cols w0 H.l.lc (enter_of Tryz.func36 (by kernel_rfl) rfl) (fun x w0 _ _ => longCo_any x w0))
  have HQ := Lib.hid (fun (w0 : World) (H : Ba1 w w0 w.heap.size x a) => containsCe 38 longCe (fun _ => True) a.pr x.row.length a.cr x.row w0 H.l.lr (enter_of Tryz.func38 (by kernel_rfl) rfl) (fun x q d w0 _ => longCe_any x q d w0))
  have HR := Lib.hid (fun (w0 : World) (H : Ba1 w w0 w.heap.size x a) => containsFd0 40 longFd (fun _ => True) a.pf x.fields.length a.cf x.fields w0 H.l.lf (enter_of Tryz.func40 (by kernel_rfl) rfl) (fun x w0 _ _ _ _ => longFd_any x w0))
  have HN : Hid (∀ w' : World, Below w.heap.size w w' → FewBR x w (.returned (.bool false)) w') := Lib.hid (fun w' h => FewBR.no h)
  have HY : Hid (∀ w' : World, Below w.heap.size w w' → x.tag.size ≤ 300 → x.name.size ≤ 300 → x.value.size ≤ 300 → x.oids.length ≤ 50 → x.cols.length ≤ 50 → x.row.length ≤ 50 → x.fields.length ≤ 50 → x.cols.any longCo = false → x.row.any longCe = false → x.fields.any longFd = false → FewBR x w (.returned (.bool true)) w') := Lib.hid (fun w' h h1 h2 h3 h4 h5 h6 h7 h8 h9 h10 => ⟨true, rfl, fun _ => ⟨h1, h2, h3, h4, h5, fun c hc => by
      have := List.any_eq_false.1 h8 c hc
      unfold longCo at this
      simp at this
      exact this, h6, fun c hc => by
      have := List.any_eq_false.1 h9 c hc
      unfold longCe at this
      simp at this
      exact this, h7, fun c hc => by
      have := List.any_eq_false.1 h10 c hc
      unfold longFd at this
      simp at this
      exact this⟩, h⟩)
  generalize x.cols.any longCo = lv at *
  generalize x.row.any longCe = lw at *
  generalize x.fields.any longFd = lx at *
  obtain ⟨xk, xs, xt, xn, xv, xa, xb, xo, xc, xr, xf⟩ := x
  obtain ⟨apo, aco, apc, acc, apr, acr, apf, acf⟩ := a
  clear h
  unfold baArg at *
  unfold baCells at HC H0 ⊢
  dsimp only at *
  go_enter Tryz.func15, Tryz.ntmps15
  go_upto_region 1 with (fail)
  generalize w.alloc (.cells #[.int .u8 xk, .int .u8 xs, .string xt, .string xn, .string xv, .int .i64 xa, .int .i64 xb, .slice apo xo.length aco, .slice apc xc.length acc, .slice apr xr.length acr, .slice apf xf.length acf] 39) = w1 at *
  have hc1 := HC.out w1 H0.out
  by_cases ho : (50 : Int) < (xo.length : Int)
  · go_wp2_with fail
    go_ret
    exact HN.out _ H0.out.bel
  by_cases hf : (50 : Int) < (xc.length : Int)
  · go_wp2_with fail
    go_ret
    exact HN.out _ H0.out.bel
  by_cases hr : (50 : Int) < (xr.length : Int)
  · go_wp2_with fail
    go_ret
    exact HN.out _ H0.out.bel
  by_cases hc : (50 : Int) < (xf.length : Int)
  · go_wp2_with fail
    go_ret
    exact HN.out _ H0.out.bel
  have HP1 := Lib.hid (HP.out w1 H0.out)
  go_wp2_with fail
  refine HP1.out.mono ?_
  rintro e w2 ⟨rfl, hb⟩
  have H2 := Lib.hid (H0.out.step hb)
  have hc2 := HC.out w2 H2.out
  clear hb hc1 HP1 HP
  cases lv with
  | true =>
    go_wp2_with fail
    go_ret
    exact HN.out _ H2.out.bel
  | false =>
  have HQ2 := Lib.hid (HQ.out w2 H2.out)
  go_wp2_with fail
  refine HQ2.out.mono ?_
  rintro e w3 ⟨rfl, hb⟩
  have H3 := Lib.hid (H2.out.step hb)
  have hc3 := HC.out w3 H3.out
  clear hb hc2 HQ2 HQ
  cases lw with
  | true =>
    go_wp2_with fail
    go_ret
    exact HN.out _ H3.out.bel
  | false =>
  have HR3 := Lib.hid (HR.out w3 H3.out)
  go_wp2_with fail
  refine HR3.out.mono ?_
  rintro e w4 ⟨rfl, hb⟩
  have H4 := Lib.hid (H3.out.step hb)
  have hc4 := HC.out w4 H4.out
  clear hb hc3 HR3 HR
  cases lx with
  | true =>
    go_wp2_with fail
    go_ret
    exact HN.out _ H4.out.bel
  | false =>
    by_cases ht : (xt.size : Int) ≤ 300
    · by_cases hn : (xn.size : Int) ≤ 300
      · by_cases hv : (xv.size : Int) ≤ 300
        · have Hx := Lib.hid (HY.out _ H4.out.bel (by omega) (by omega) (by omega) (by omega) (by omega) (by omega) (by omega) (by first | rfl | trivial) (by first | rfl | trivial) (by first | rfl | trivial))
          go_wp2_with fail
          go_ret
          exact Hx.out
        · go_wp2_with fail
          go_ret
          have e : decide ((xv.size : Int) ≤ 300) = false := decide_eq_false (by omega)
          rw [e]
          exact HN.out _ H4.out.bel
      · go_wp2_with fail
        go_ret
        exact HN.out _ H4.out.bel
    · go_wp2_with fail
      go_ret
      exact HN.out _ H4.out.bel

theorem opensS_intU : OpensS Tryz.prog 3 IntU := by
  intro H enc w base spare held fuel cs x h
  obtain ⟨n, e, _⟩ := opens_int Tryz.underlying3 H enc w base spare held fuel cs x h
  exact ⟨n, e⟩
theorem opensS_ce : OpensS Tryz.prog 83 CeS := by
  intro H enc w base spare held fuel cs x h
  have S : StructOf Tryz.prog 83 _ := ⟨Tryz.underlying83, by kernel_rfl, by kernel_rfl⟩
  have hl := S.len h
  match cs, hl with
  | [c0, c1], _ =>
    obtain ⟨y0, e0⟩ := S.field h 0 _ rfl c0 rfl (opens_bool Tryz.underlying4)
    obtain ⟨y1, h1⟩ := S.field h 1 _ rfl c1 rfl (opensS_bytes Tryz.underlying25 Tryz.underlying5 (by kernel_rfl))
    obtain ⟨p, c, rfl⟩ := BytesS.shape h1
    unfold BoolR at e0
    simp only [List.cons.injEq, and_true] at e0
    subst e0
    exact ⟨⟨y0, y1⟩, p, c, rfl, h1⟩
theorem opensS_fdU : OpensS Tryz.prog 87 FdS := by
  intro H enc w base spare held fuel cs x h
  have S : StructOf Tryz.prog 87 _ := ⟨Tryz.underlying87, by kernel_rfl, by kernel_rfl⟩
  have hl := S.len h
  match cs, hl with
  | [c0, c1], _ =>
    obtain ⟨y0, e0, hw0⟩ := S.field h 0 _ rfl c0 rfl (opens_int Tryz.underlying5)
    obtain ⟨y1, e1, hw1⟩ := S.field h 1 _ rfl c1 rfl (opens_str Tryz.underlying9)
    simp only [List.cons.injEq, and_true] at e0 e1
    subst e0 e1
    have hb := byte_of_wf hw0
    exact ⟨⟨y0, y1⟩, rfl, hw1, hb.1, hb.2⟩
theorem opensS_co : OpensS Tryz.prog 79 CoS := by
  intro H enc w base spare held fuel cs x h
  have S : StructOf Tryz.prog 79 _ := ⟨Tryz.underlying79, by kernel_rfl, by kernel_rfl⟩
  have hl := S.len h
  match cs, hl with
  | [c0, c1, c2, c3, c4, c5, c6], _ =>
    obtain ⟨y0, e0, hw0⟩ := S.field h 0 _ rfl c0 rfl (opens_str Tryz.underlying9)
    obtain ⟨y1, e1, _⟩ := S.field h 1 _ rfl c1 rfl (opens_int Tryz.underlying3)
    obtain ⟨y2, e2, _⟩ := S.field h 2 _ rfl c2 rfl (opens_int Tryz.underlying3)
    obtain ⟨y3, e3, _⟩ := S.field h 3 _ rfl c3 rfl (opens_int Tryz.underlying3)
    obtain ⟨y4, e4, _⟩ := S.field h 4 _ rfl c4 rfl (opens_int Tryz.underlying3)
    obtain ⟨y5, e5, _⟩ := S.field h 5 _ rfl c5 rfl (opens_int Tryz.underlying3)
    obtain ⟨y6, e6, _⟩ := S.field h 6 _ rfl c6 rfl (opens_int Tryz.underlying3)
    simp only [List.cons.injEq, and_true] at e0 e1 e2 e3 e4 e5 e6
    subst e0 e1 e2 e3 e4 e5 e6
    exact ⟨⟨y0, y1, y2, y3, y4, y5, y6⟩, rfl, hw0⟩
theorem opensS_ba : OpensS Tryz.prog 39 BaS := by
  intro H enc w base spare held fuel cs x h
  have S : StructOf Tryz.prog 39 _ := ⟨Tryz.underlying39, by kernel_rfl, by kernel_rfl⟩
  have hl := S.len h
  match cs, hl with
  | [c0, c1, c2, c3, c4, c5, c6, c7, c8, c9, c10], _ =>
    obtain ⟨y0, e0, hw0⟩ := S.field h 0 _ rfl c0 rfl (opens_int Tryz.underlying5)
    obtain ⟨y1, e1, hw1⟩ := S.field h 1 _ rfl c1 rfl (opens_int Tryz.underlying5)
    obtain ⟨y2, e2, _⟩ := S.field h 2 _ rfl c2 rfl (opens_str Tryz.underlying9)
    obtain ⟨y3, e3, _⟩ := S.field h 3 _ rfl c3 rfl (opens_str Tryz.underlying9)
    obtain ⟨y4, e4, _⟩ := S.field h 4 _ rfl c4 rfl (opens_str Tryz.underlying9)
    obtain ⟨y5, e5, _⟩ := S.field h 5 _ rfl c5 rfl (opens_int Tryz.underlying3)
    obtain ⟨y6, e6, _⟩ := S.field h 6 _ rfl c6 rfl (opens_int Tryz.underlying3)
    obtain ⟨y7, h7⟩ := S.field h 7 _ rfl c7 rfl (opensS_slice (n := 1) Tryz.underlying32 (by kernel_rfl) (by omega) opensS_intU)
    obtain ⟨y8, h8⟩ := S.field h 8 _ rfl c8 rfl (opensS_slice (n := 7) Tryz.underlying35 (by kernel_rfl) (by omega) opensS_co)
    obtain ⟨y9, h9⟩ := S.field h 9 _ rfl c9 rfl (opensS_slice (n := 2) Tryz.underlying36 (by kernel_rfl) (by omega) opensS_ce)
    obtain ⟨y10, h10⟩ := S.field h 10 _ rfl c10 rfl (opensS_slice (n := 2) Tryz.underlying37 (by kernel_rfl) (by omega) opensS_fdU)
    obtain ⟨p7, k7, rfl⟩ := SliceS.shape h7
    obtain ⟨p8, k8, rfl⟩ := SliceS.shape h8
    obtain ⟨p9, k9, rfl⟩ := SliceS.shape h9
    obtain ⟨p10, k10, rfl⟩ := SliceS.shape h10
    have hb0 := byte_of_wf hw0
    have hb1 := byte_of_wf hw1
    simp only [List.cons.injEq, and_true] at e0 e1 e2 e3 e4 e5 e6
    subst e0 e1 e2 e3 e4 e5 e6
    exact ⟨⟨y0, y1, y2, y3, y4, y5, y6, y7, y8, y9, y10⟩, ⟨p7, k7, p8, k8, p9, k9, p10, k10⟩, rfl, ⟨h7, h8, h9, h10⟩, ⟨hb0.1, hb0.2, hb1.1, hb1.2⟩⟩

end Go.Proofs.YthhebfknikfleaaGreat

