/-
  A message's bytes: the contracts of frame.Bytes and of the document's (layer 4).
-/
import Derived.Test.YthhebfknikfleaaGreatPackA
import Derived.Test.YthhebfknikfleaaGreatPackB
import Derived.BigQuiet
import Derived.Deep.QuietTactic
import Derived.Deep.RegionLaw
import Derived.Deep.RegionHeld3
namespace Go.Proofs.YthhebfknikfleaaGreat
open Go.RowKit

/-- A message's bytes. -/
def msgL (ty : UInt8) (l : List UInt8) : List UInt8 := putV (if ty = 0 then [] else [ty]) ((l.length : Int) + 4) 4 ++ l

theorem msgL_len (ty : UInt8) (l : List UInt8) : (msgL ty l).length ≤ l.length + 5 := by
  have h := putV_len4 (if ty = 0 then [] else [ty]) ((l.length : Int) + 4) 4
  unfold msgL
  rw [List.length_append]
  have : (if ty = 0 then ([] : List UInt8) else [ty]).length ≤ 1 := by split <;> simp
  omega

def msgArg (ty : UInt8) (p : Option Addr) (n c : Nat) : Value := .agg #[.int .u8 (ty.toNat : Int), .slice p n c]

/-- A message in a block, and its bytes. -/
structure MsW (w0 w : World) (g : Nat) (ty : UInt8) (l : List UInt8) (p : Option Addr) (c : Nat) : Prop where
  blk : Blk w g 42 #[.int .u8 (ty.toNat : Int), .slice p l.length c]
  inn : BytesIn w p l
  bel : Below w0.heap.size w0 w
section
variable {w0 w w' : World} {g : Nat} {ty : UInt8} {l : List UInt8} {p : Option Addr} {c : Nat}
theorem MsW.step (h : MsW w0 w g ty l p c) (hb : Below w.heap.size w w') : MsW w0 w' g ty l p c := ⟨h.blk.below hb h.blk.lt, h.inn.below hb, h.bel.trans (hb.mono h.bel.size)⟩
theorem MsW.drew (h : MsW w0 w g ty l p c) : MsW w0 w.drew g ty l p c := h.step (((Touch.refl (fun _ => False) w).drew).below (Nat.le_refl _) (fun _ e => e.elim))
theorem MsW.box (h : BytesIn w p l) : MsW w (w.alloc (.cells #[.int .u8 (ty.toNat : Int), .slice p l.length c] 42)) w.heap.size ty l p c := ⟨Blk.new _ _ _, h.alloc _, (Below.refl _ _).alloc (Nat.le_refl _) _⟩
end

theorem cell_grown {w w' : World} {row : Option Nat} {g i : Nat} (h : w.grownBy w' row) (hg : g < w.heap.size) (hr : some g ≠ row) : w'.cell? ⟨g, i, none⟩ = w.cell? ⟨g, i, none⟩ := World.cell?_of_block (a := ⟨g, i, none⟩) (h.block g hg hr)

set_option maxRecDepth 100000 in
set_option maxHeartbeats 4000000 in
theorem frBytes_any (ty : UInt8) (l : List UInt8) (p : Option Addr) (c : Nat) (w : World) (hx : BytesIn w p l) (hl : l.length ≤ 100000) :
    Calls Tryz.prog 79 #[msgArg ty p l.length c] w fun e w' => ∃ v, e = .returned v ∧ OwnBR w.heap.size w' v (msgL ty l) ∧ Below w.heap.size w w' := by
  have H0 := Lib.hid (MsW.box (ty := ty) (c := c) hx)
  have Hm : Hid (∀ pre, pre = (if ty = 0 then ([] : List UInt8) else [ty]) → msgL ty l = putV pre ((l.length : Int) + 4) 4 ++ l) := Lib.hid (fun pre e => by rw [e]; rfl)
  have Hpl := Lib.hid (fun pre : List UInt8 => putV_len4 pre ((l.length : Int) + 4) 4)
  have hx0 := u8_bd ty
  have hws : IntKind.i64.wrap (4 + (l.length : Int)) = 4 + (l.length : Int) := by rw [IntKind.wrap_i64]; omega
  have hws2 : IntKind.i64.wrap ((l.length : Int) + 4) = (l.length : Int) + 4 := by rw [IntKind.wrap_i64]; omega
  have Hsum := Lib.hid (show (4 : Int) + (l.length : Int) = (l.length : Int) + 4 by omega)
  have hcase : ty = 0 ∨ ¬ ty = 0 := Decidable.em _
  clear hx
  unfold msgArg
  rcases hcase with h0 | h0
  · have Hm2 := Lib.hid (Hm.out [] (by rw [if_pos h0]))
    have hz : (ty.toNat : Int) = 0 := by rw [h0]; rfl
    rw [hz]
    have H1 : Hid (MsW w (w.alloc (.cells #[.int .u8 0, .slice p l.length c] 42)) w.heap.size ty l p c) := Lib.hid (by have := H0.out; rw [hz] at this; exact this)
    have hc1 : ∀ i, (w.alloc (.cells #[.int .u8 0, .slice p l.length c] 42)).cell? ⟨w.heap.size, i, none⟩ = (#[.int .u8 0, .slice p l.length c] : Array Value)[i]? := by have := H1.out.blk.cell; rw [hz] at this; exact this
    have hX : (ty.toNat : Int) = 0 := hz
    have HX := Lib.hid hX
    clear Hm h0 hx0 hX hz H0
    go_enter Tryz.func79, Tryz.ntmps79
    go_wp2_with fail
    generalize hw1 : w.alloc (.cells #[.int .u8 0, .slice p l.length c] 42) = w1 at *
    clear hw1
    have hlt1 := H1.out.blk.lt
    have H2 := H1
    have Hi2 := Lib.hid (BytesIn.nil w1 none)
    go_wp2_with fail
    generalize hw2 : w1 = w2 at *
    clear hw2
    have hc2 : ∀ i, w2.cell? ⟨w.heap.size, i, none⟩ = (#[.int .u8 0, .slice p l.length c] : Array Value)[i]? := (by have := H2.out.blk.cell; rw [HX.out] at this; exact this)
    have hlt2 := H2.out.blk.lt
    go_region_held3 (fun w' => ∀ i, w'.cell? ⟨w.heap.size, i, none⟩ = (#[.int .u8 0, .slice p l.length c] : Array Value)[i]?)
      (first | exact hc2 | exact hc3 | exact hc4 | go_keep)
      (first
        | (go_at_call 98; (try rw [Hsum.out]); refine (put_any none [] 0 ((l.length : Int) + 4) 4 _ (by simp) (Hi2.out.drewN 1)).mono ?_; rintro e w3 ⟨v3, rfl, ho3, hb3⟩; have H3 : Hid (MsW w w3 _ _ _ _ _) := Lib.hid (H2.out.drew.step hb3); have hc3 : ∀ i, w3.cell? ⟨w.heap.size, i, none⟩ = (#[.int .u8 0, .slice p l.length c] : Array Value)[i]? := (by have := H3.out.blk.cell; rw [HX.out] at this; exact this); have hpl3 := Hpl.out []; have Ho3 : Hid (OwnBR w2.heap.size w3 v3 (putV [] ((l.length : Int) + 4) 4)) := Lib.hid (OwnBR.of ho3); have hs3 : w2.heap.size ≤ w3.heap.size := hb3.size; (try simp only [List.length_cons] at hpl3); simp only [List.length_nil] at hpl3; clear hb3 ho3)
        | (refine rgn_appendBR rfl (.tmp 15) (.tmp 17) rfl w2.heap.size _ _ rfl Ho3.out _ l _ _ rfl rfl H3.out.inn (by omega) hs3 ?_; intro v4 w4 ho4 hg4 _; have hc4 : ∀ i, w4.cell? ⟨w.heap.size, i, none⟩ = (#[.int .u8 0, .slice p l.length c] : Array Value)[i]? := (fun i => (cell_grown hg4 (by omega) (fun e => by have := (Ho3.out.row _ e.symm).1; omega)).trans (hc3 i))))
    have hw : Below w.heap.size w w4 := H3.out.bel.trans (Below.of_row hg4 H3.out.bel.size (fun k hk => by have := (Ho3.out.row k hk).1; omega))
    have Hw := Lib.hid hw
    have Ho4 := Lib.hid ho4
    clear hw ho4 hg4 hc2 hc3 hc4
    go_wp2
    go_ret
    refine ⟨_, rfl, ?_, Hw.out⟩
    rw [Hm2.out]
    exact OwnR.base Ho4.out (by omega)
  · have Hm2 := Lib.hid (Hm.out [ty] (by rw [if_neg h0]))
    have hne0 : ¬ ((ty.toNat : Int) = 0) := fun e => h0 (UInt8.toNat_inj.1 (by have : (0 : UInt8).toNat = 0 := rfl; omega))
    obtain ⟨x, hX⟩ : ∃ x : Nat, (ty.toNat : Int) = (x : Int) := ⟨_, rfl⟩
    rw [hX]
    rw [hX] at hne0 hx0
    have H1 : Hid (MsW w (w.alloc (.cells #[.int .u8 (x : Int), .slice p l.length c] 42)) w.heap.size ty l p c) := Lib.hid (by have := H0.out; rw [hX] at this; exact this)
    have hc1 : ∀ i, (w.alloc (.cells #[.int .u8 (x : Int), .slice p l.length c] 42)).cell? ⟨w.heap.size, i, none⟩ = (#[.int .u8 (x : Int), .slice p l.length c] : Array Value)[i]? := by have := H1.out.blk.cell; rw [hX] at this; exact this
    have HX := Lib.hid hX
    have hne : ¬ ((x : Int) = 0) := hne0
    clear Hm h0 hX H0 hne0
    have hz1 : (w.alloc (.cells #[.int .u8 (x : Int), .slice p l.length c] 42)).heap.size = w.heap.size + 1 := by simp
    have H2a := Lib.hid (H1.out.step ((Below.refl _ _).alloc (Nat.le_refl _) (.cells #[.int .u8 (x : Int)] 5)))
    have hi2a := BytesIn.new1 (w.alloc (.cells #[.int .u8 (x : Int), .slice p l.length c] 42)) ty (x : Int) 5 HX.out
    rw [hz1] at hi2a
    have Hi2a := Lib.hid hi2a
    have hz2a : ((w.alloc (.cells #[.int .u8 (x : Int), .slice p l.length c] 42)).alloc (.cells #[.int .u8 (x : Int)] 5)).heap.size = w.heap.size + 2 := by simp
    clear hz1 hi2a hc1
    go_enter Tryz.func79, Tryz.ntmps79
    go_wp2_with fail
    generalize (w.alloc (.cells #[.int .u8 (x : Int), .slice p l.length c] 42)).alloc (.cells #[.int .u8 (x : Int)] 5) = w2 at *
    have H2 := H2a
    have Hi2 := Hi2a
    have hc2 : ∀ i, w2.cell? ⟨w.heap.size, i, none⟩ = (#[.int .u8 (x : Int), .slice p l.length c] : Array Value)[i]? := (by have := H2.out.blk.cell; rw [HX.out] at this; exact this)
    have hlt2 := H2.out.blk.lt
    go_region_held3 (fun w' => ∀ i, w'.cell? ⟨w.heap.size, i, none⟩ = (#[.int .u8 (x : Int), .slice p l.length c] : Array Value)[i]?)
      (first | exact hc2 | exact hc3 | exact hc4 | go_keep)
      (first
        | (go_at_call 98; (try rw [Hsum.out]); refine (put_any (some ⟨w.heap.size + 1, 0, none⟩) [ty] 1 ((l.length : Int) + 4) 4 _ (by simp) (Hi2.out.drewN 1)).mono ?_; rintro e w3 ⟨v3, rfl, ho3, hb3⟩; have H3 : Hid (MsW w w3 _ _ _ _ _) := Lib.hid (H2.out.drew.step hb3); have hc3 : ∀ i, w3.cell? ⟨w.heap.size, i, none⟩ = (#[.int .u8 (x : Int), .slice p l.length c] : Array Value)[i]? := (by have := H3.out.blk.cell; rw [HX.out] at this; exact this); have hpl3 := Hpl.out [ty]; have Ho3 : Hid (OwnBR w2.heap.size w3 v3 (putV [ty] ((l.length : Int) + 4) 4)) := Lib.hid (OwnBR.of ho3); have hs3 : w2.heap.size ≤ w3.heap.size := hb3.size; (try simp only [List.length_cons] at hpl3); simp only [List.length_nil] at hpl3; clear hb3 ho3)
        | (refine rgn_appendBR rfl (.tmp 15) (.tmp 17) rfl w2.heap.size _ _ rfl Ho3.out _ l _ _ rfl rfl H3.out.inn (by omega) hs3 ?_; intro v4 w4 ho4 hg4 _; have hc4 : ∀ i, w4.cell? ⟨w.heap.size, i, none⟩ = (#[.int .u8 (x : Int), .slice p l.length c] : Array Value)[i]? := (fun i => (cell_grown hg4 (by omega) (fun e => by have := (Ho3.out.row _ e.symm).1; omega)).trans (hc3 i))))
    have hw : Below w.heap.size w w4 := H3.out.bel.trans (Below.of_row hg4 H3.out.bel.size (fun k hk => by have := (Ho3.out.row k hk).1; omega))
    have Hw := Lib.hid hw
    have Ho4 := Lib.hid ho4
    clear hw ho4 hg4 hc2 hc3 hc4
    go_wp2
    go_ret
    refine ⟨_, rfl, ?_, Hw.out⟩
    rw [Hm2.out]
    exact OwnR.base Ho4.out (by omega)

set_option maxRecDepth 100000 in
set_option maxHeartbeats 4000000 in
theorem frBytesR_any (ty : UInt8) (l : List UInt8) (p : Option Addr) (c : Nat) (w : World) (hx : BytesIn w p l) (hl : l.length ≤ 100000) :
    Calls Tryz.prog 80 #[msgArg ty p l.length c] w fun e w' => ∃ v, e = .returned v ∧ OwnBR w.heap.size w' v (msgL ty l) ∧ Below w.heap.size w w' := by
  have H0 := Lib.hid (MsW.box (ty := ty) (c := c) hx)
  have Hm : Hid (∀ pre, pre = (if ty = 0 then ([] : List UInt8) else [ty]) → msgL ty l = putV pre ((l.length : Int) + 4) 4 ++ l) := Lib.hid (fun pre e => by rw [e]; rfl)
  have Hpl := Lib.hid (fun pre : List UInt8 => putV_len4 pre ((l.length : Int) + 4) 4)
  have hx0 := u8_bd ty
  have hws : IntKind.i64.wrap (4 + (l.length : Int)) = 4 + (l.length : Int) := by rw [IntKind.wrap_i64]; omega
  have hws2 : IntKind.i64.wrap ((l.length : Int) + 4) = (l.length : Int) + 4 := by rw [IntKind.wrap_i64]; omega
  have Hsum := Lib.hid (show (4 : Int) + (l.length : Int) = (l.length : Int) + 4 by omega)
  have hcase : ty = 0 ∨ ¬ ty = 0 := Decidable.em _
  clear hx
  unfold msgArg
  rcases hcase with h0 | h0
  · have Hm2 := Lib.hid (Hm.out [] (by rw [if_pos h0]))
    have hz : (ty.toNat : Int) = 0 := by rw [h0]; rfl
    rw [hz]
    have H1 : Hid (MsW w (w.alloc (.cells #[.int .u8 0, .slice p l.length c] 42)) w.heap.size ty l p c) := Lib.hid (by have := H0.out; rw [hz] at this; exact this)
    have hc1 : ∀ i, (w.alloc (.cells #[.int .u8 0, .slice p l.length c] 42)).cell? ⟨w.heap.size, i, none⟩ = (#[.int .u8 0, .slice p l.length c] : Array Value)[i]? := by have := H1.out.blk.cell; rw [hz] at this; exact this
    have hX : (ty.toNat : Int) = 0 := hz
    have HX := Lib.hid hX
    clear Hm h0 hx0 hX hz H0
    go_enter Tryz.func80, Tryz.ntmps80
    go_wp2_with fail
    generalize hw1 : w.alloc (.cells #[.int .u8 0, .slice p l.length c] 42) = w1 at *
    clear hw1
    have hlt1 := H1.out.blk.lt
    have H2 := H1
    have Hi2 := Lib.hid (BytesIn.nil w1 none)
    go_wp2_with fail
    generalize hw2 : w1 = w2 at *
    clear hw2
    have hc2 : ∀ i, w2.cell? ⟨w.heap.size, i, none⟩ = (#[.int .u8 0, .slice p l.length c] : Array Value)[i]? := (by have := H2.out.blk.cell; rw [HX.out] at this; exact this)
    have hlt2 := H2.out.blk.lt
    go_region_held3 (fun w' => ∀ i, w'.cell? ⟨w.heap.size, i, none⟩ = (#[.int .u8 0, .slice p l.length c] : Array Value)[i]?)
      (first | exact hc2 | exact hc3 | exact hc4 | go_keep)
      (first
        | (go_at_call 46; (try rw [Hsum.out]); refine (putR_any none [] 0 ((l.length : Int) + 4) 4 _ (by simp) (Hi2.out.drewN 1)).mono ?_; rintro e w3 ⟨v3, rfl, ho3, hb3⟩; have H3 : Hid (MsW w w3 _ _ _ _ _) := Lib.hid (H2.out.drew.step hb3); have hc3 : ∀ i, w3.cell? ⟨w.heap.size, i, none⟩ = (#[.int .u8 0, .slice p l.length c] : Array Value)[i]? := (by have := H3.out.blk.cell; rw [HX.out] at this; exact this); have hpl3 := Hpl.out []; have Ho3 : Hid (OwnBR w2.heap.size w3 v3 (putV [] ((l.length : Int) + 4) 4)) := Lib.hid (OwnBR.of ho3); have hs3 : w2.heap.size ≤ w3.heap.size := hb3.size; (try simp only [List.length_cons] at hpl3); simp only [List.length_nil] at hpl3; clear hb3 ho3)
        | (refine rgn_appendBR rfl (.tmp 17) (.tmp 19) rfl w2.heap.size _ _ rfl Ho3.out _ l _ _ rfl rfl H3.out.inn (by omega) hs3 ?_; intro v4 w4 ho4 hg4 _; have hc4 : ∀ i, w4.cell? ⟨w.heap.size, i, none⟩ = (#[.int .u8 0, .slice p l.length c] : Array Value)[i]? := (fun i => (cell_grown hg4 (by omega) (fun e => by have := (Ho3.out.row _ e.symm).1; omega)).trans (hc3 i))))
    have hw : Below w.heap.size w w4 := H3.out.bel.trans (Below.of_row hg4 H3.out.bel.size (fun k hk => by have := (Ho3.out.row k hk).1; omega))
    have Hw := Lib.hid hw
    have Ho4 := Lib.hid ho4
    clear hw ho4 hg4 hc2 hc3 hc4
    go_wp2
    go_ret
    refine ⟨_, rfl, ?_, Hw.out⟩
    rw [Hm2.out]
    exact OwnR.base Ho4.out (by omega)
  · have Hm2 := Lib.hid (Hm.out [ty] (by rw [if_neg h0]))
    have hne0 : ¬ ((ty.toNat : Int) = 0) := fun e => h0 (UInt8.toNat_inj.1 (by have : (0 : UInt8).toNat = 0 := rfl; omega))
    obtain ⟨x, hX⟩ : ∃ x : Nat, (ty.toNat : Int) = (x : Int) := ⟨_, rfl⟩
    rw [hX]
    rw [hX] at hne0 hx0
    have H1 : Hid (MsW w (w.alloc (.cells #[.int .u8 (x : Int), .slice p l.length c] 42)) w.heap.size ty l p c) := Lib.hid (by have := H0.out; rw [hX] at this; exact this)
    have hc1 : ∀ i, (w.alloc (.cells #[.int .u8 (x : Int), .slice p l.length c] 42)).cell? ⟨w.heap.size, i, none⟩ = (#[.int .u8 (x : Int), .slice p l.length c] : Array Value)[i]? := by have := H1.out.blk.cell; rw [hX] at this; exact this
    have HX := Lib.hid hX
    have hne : ¬ ((x : Int) = 0) := hne0
    clear Hm h0 hX H0 hne0
    have hz1 : (w.alloc (.cells #[.int .u8 (x : Int), .slice p l.length c] 42)).heap.size = w.heap.size + 1 := by simp
    have H2a := Lib.hid (H1.out.step ((Below.refl _ _).alloc (Nat.le_refl _) (.cells #[.int .u8 (x : Int)] 5)))
    have hi2a := BytesIn.new1 (w.alloc (.cells #[.int .u8 (x : Int), .slice p l.length c] 42)) ty (x : Int) 5 HX.out
    rw [hz1] at hi2a
    have Hi2a := Lib.hid hi2a
    have hz2a : ((w.alloc (.cells #[.int .u8 (x : Int), .slice p l.length c] 42)).alloc (.cells #[.int .u8 (x : Int)] 5)).heap.size = w.heap.size + 2 := by simp
    clear hz1 hi2a hc1
    go_enter Tryz.func80, Tryz.ntmps80
    go_wp2_with (at_builtin; refine step_appendBR _ rfl (.tmp 7) (.tmp 10) rfl (w.heap.size + 1) (.slice none 0 0) [] rfl (OwnBR.empty _ _ _) (some ⟨w.heap.size + 1, 0, none⟩) [ty] 1 1 rfl rfl Hi2a.out (by simp) (by omega) ?_; intro v2 w2 ho2 hg2 _; have Ho2 : Hid (OwnBR (w.heap.size + 1) w2 v2 [ty]) := Lib.hid ho2; have H2 := Lib.hid (H2a.out.step (Below.of_row hg2 (Nat.le_refl _) (fun k hk => by simp [rowOf] at hk))); clear ho2 hg2; obtain ⟨q2, d2, rfl, _, _, hi2, _⟩ := Ho2.out.slice; have Hi2 := Lib.hid hi2; clear hi2)
    have hc2 : ∀ i, w2.cell? ⟨w.heap.size, i, none⟩ = (#[.int .u8 (x : Int), .slice p l.length c] : Array Value)[i]? := (by have := H2.out.blk.cell; rw [HX.out] at this; exact this)
    have hlt2 := H2.out.blk.lt
    go_region_held3 (fun w' => ∀ i, w'.cell? ⟨w.heap.size, i, none⟩ = (#[.int .u8 (x : Int), .slice p l.length c] : Array Value)[i]?)
      (first | exact hc2 | exact hc3 | exact hc4 | go_keep)
      (first
        | (go_at_call 46; (try rw [Hsum.out]); refine (putR_any q2 [ty] d2 ((l.length : Int) + 4) 4 _ (by simp) (Hi2.out.drewN 1)).mono ?_; rintro e w3 ⟨v3, rfl, ho3, hb3⟩; have H3 : Hid (MsW w w3 _ _ _ _ _) := Lib.hid (H2.out.drew.step hb3); have hc3 : ∀ i, w3.cell? ⟨w.heap.size, i, none⟩ = (#[.int .u8 (x : Int), .slice p l.length c] : Array Value)[i]? := (by have := H3.out.blk.cell; rw [HX.out] at this; exact this); have hpl3 := Hpl.out [ty]; have Ho3 : Hid (OwnBR w2.heap.size w3 v3 (putV [ty] ((l.length : Int) + 4) 4)) := Lib.hid (OwnBR.of ho3); have hs3 : w2.heap.size ≤ w3.heap.size := hb3.size; (try simp only [List.length_cons] at hpl3); simp only [List.length_nil] at hpl3; clear hb3 ho3)
        | (refine rgn_appendBR rfl (.tmp 17) (.tmp 19) rfl w2.heap.size _ _ rfl Ho3.out _ l _ _ rfl rfl H3.out.inn (by omega) hs3 ?_; intro v4 w4 ho4 hg4 _; have hc4 : ∀ i, w4.cell? ⟨w.heap.size, i, none⟩ = (#[.int .u8 (x : Int), .slice p l.length c] : Array Value)[i]? := (fun i => (cell_grown hg4 (by omega) (fun e => by have := (Ho3.out.row _ e.symm).1; omega)).trans (hc3 i))))
    have hw : Below w.heap.size w w4 := H3.out.bel.trans (Below.of_row hg4 H3.out.bel.size (fun k hk => by have := (Ho3.out.row k hk).1; omega))
    have Hw := Lib.hid hw
    have Ho4 := Lib.hid ho4
    clear hw ho4 hg4 hc2 hc3 hc4
    go_wp2
    go_ret
    refine ⟨_, rfl, ?_, Hw.out⟩
    rw [Hm2.out]
    exact OwnR.base Ho4.out (by omega)

end Go.Proofs.YthhebfknikfleaaGreat
