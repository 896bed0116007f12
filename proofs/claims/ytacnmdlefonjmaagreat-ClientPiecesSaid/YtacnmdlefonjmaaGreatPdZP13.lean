/-
  Ground: FpE, RcI, FrBy, RcJ, HeA, HeB.
-/
import Derived.Test.YtacnmdlefonjmaaGreatPdZP10
import Derived.Test.YtacnmdlefonjmaaGreatPdZP12
import Derived.Test.YtacnmdlefonjmaaGreatPdZP1
import Derived.Test.YtacnmdlefonjmaaGreatPdZP11
import Derived.Test.YtacnmdlefonjmaaGreatPdZP2
import Derived.BigQuiet
import Derived.Deep.QuietTactic
import Derived.Deep.RegionLaw
import Derived.Deep.RegionHeld3
import Derived.Test.YtacnmdlefonjmaaGreatPdZP3
import Derived.WalkMore
/-
  Messages of clients (layer 6): short ones (remudaplain.Front); awake.
-/
namespace Go.Proofs.YtacnmdlefonjmaaGreat
open Go.RowKit
set_option linter.unusedVariables false
set_option linter.unusedSimpArgs false

def longC (c : CeV) : Bool := decide (300 < c.bytes.length)
theorem longC_any (x : CeV) (q : Option Addr) (d : Nat) (w : World) : Calls Tryz.prog 65 #[.agg #[.bool x.null, .slice q x.bytes.length d]] w fun e w' => e = .returned (.bool (longC x)) ∧ Below w.heap.size w w' := by
  have Hb := Lib.hid ((Below.refl w.heap.size w).alloc (Nat.le_refl _) (.cells #[.bool x.null, .slice q x.bytes.length d] 115))
  have Hv : Hid (longC x = decide ((300 : Int) < (x.bytes.length : Int))) := Lib.hid (by unfold longC; exact decide_eq_decide.2 (by omega))
  generalize longC x = v at *
  obtain ⟨xn, xb⟩ := x
  dsimp only at *
  generalize xb.length = m at *
  go_enter Tryz.func65, Tryz.ntmps65
  go_wp2
  go_ret
  exact ⟨ret_bool (by rw [Hv.out]), Hb.out⟩

/-- What it answers of a message. -/
def FewFR (x : FoV) (w : World) (e : Ending) (w' : World) : Prop := ∃ b, e = .returned (.bool b) ∧ (b = true → FewF x) ∧ Below w.heap.size w w'

set_option maxRecDepth 100000 in
set_option maxHeartbeats 4000000 in
theorem fewF_any (S : Nat → Prop) (x : FoV) (a : FoP) (w : World) (h : FoL S w x a) : Calls Tryz.prog 40 #[foArg x a] w (FewFR x w) := by
  have H0 := Lib.hid (Fo1.start h)
  have HC : Hid (∀ w1 : World, Fo1 w w1 w.heap.size x a → ∀ i, w1.cell? ⟨w.heap.size, i, none⟩ = (foCells x a)[i]?) := Lib.hid (fun w1 H => H.b.cell)
  have HP := Lib.hid (fun (w0 : World) (H : Fo1 w w0 w.heap.size x a) => containsCe 65 longC (fun _ => True) a.pp x.params.length a.cp x.params w0 H.l.lp (enter_of Tryz.func65 (by kernel_rfl) rfl) (fun x q d w0 _ => longC_any x q d w0))
  have HN : Hid (∀ w' : World, Below w.heap.size w w' → FewFR x w (.returned (.bool false)) w') := Lib.hid (fun w' h => ⟨false, rfl, (fun e => by cases e), h⟩)
  have HY : Hid (∀ w' : World, Below w.heap.size w w' → x.name.size ≤ 300 → x.portal.size ≤ 300 → x.text.size ≤ 1000 → x.oids.length ≤ 50 → x.formats.length ≤ 50 → x.results.length ≤ 50 → x.params.length ≤ 50 → x.params.any longC = false → FewFR x w (.returned (.bool true)) w') := Lib.hid (fun w' h h1 h2 h3 h4 h5 h6 h7 h8 => ⟨true, rfl, fun _ => ⟨h1, h2, h3, h4, h5, h6, h7, fun c hc => by
    have := List.any_eq_false.1 h8 c hc
    unfold longC at this
    simp at this
    exact this⟩, h⟩)
  generalize x.params.any longC = lv at *
  obtain ⟨xk, xw, xn, xp, xt, xo, xf, xr, xc, xm⟩ := x
  obtain ⟨apo, aco, apf, acf, apr, acr, app, acp⟩ := a
  clear h
  unfold foArg at *
  unfold foCells at HC H0 ⊢
  dsimp only at *
  go_enter Tryz.func40, Tryz.ntmps40
  go_upto_region 1 with (fail)
  generalize w.alloc (.cells #[.int .u8 xk, .int .u8 xw, .string xn, .string xp, .string xt, .slice apo xo.length aco, .slice apf xf.length acf, .slice apr xr.length acr, .slice app xc.length acp, .int .i64 xm] 46) = w1 at *
  have hc1 := HC.out w1 H0.out
  by_cases ho : (50 : Int) < (xo.length : Int)
  · go_wp2_with fail
    go_ret
    exact HN.out _ H0.out.bel
  by_cases hf : (50 : Int) < (xf.length : Int)
  · go_wp2_with fail
    go_ret
    exact HN.out _ H0.out.bel
  by_cases hr : (50 : Int) < (xr.length : Int)
  · go_wp2_with fail
    go_ret
    exact HN.out _ H0.out.bel
  by_cases hc : (50 : Int) < (xc.length : Int)
  · go_wp2_with fail
    go_ret
    exact HN.out _ H0.out.bel
  have HP1 := Lib.hid (HP.out w1 H0.out)
  go_wp2_with fail
  refine HP1.out.mono ?_
  rintro e w2 ⟨rfl, hb⟩
  have H2 := Lib.hid (H0.out.step hb)
  have hc2 := HC.out w2 H2.out
  clear hb hc1 HP1 HP
  cases lv with
  | true =>
    go_wp2_with fail
    go_ret
    exact HN.out _ H2.out.bel
  | false =>
    by_cases hn : (xn.size : Int) ≤ 300
    · by_cases hp : (xp.size : Int) ≤ 300
      · by_cases ht : (xt.size : Int) ≤ 1000
        · have Hx := Lib.hid (HY.out _ H2.out.bel (by omega) (by omega) (by omega) (by omega) (by omega) (by omega) (by omega) rfl)
          go_wp2_with fail
          go_ret
          exact Hx.out
        · go_wp2_with fail
          go_ret
          have e : decide ((xt.size : Int) ≤ 1000) = false := decide_eq_false (by omega)
          rw [e]
          exact HN.out _ H2.out.bel
      · go_wp2_with fail
        go_ret
        exact HN.out _ H2.out.bel
    · go_wp2_with fail
      go_ret
      exact HN.out _ H2.out.bel

def foA : FoV := ⟨80, 0, ⟨#[97]⟩, ⟨#[]⟩, ⟨#[98, 101, 103, 105, 110]⟩, [23], [], [], [], 0⟩
theorem foA_ok : checkF foA = 0 := by decide +kernel
theorem foA_len : (bodyF foA).length = 14 := by decide +kernel
theorem foA_fo : FoB foA := ⟨by decide, by decide, by decide, by decide⟩
theorem foA_small : SmallF foA := ⟨by decide +kernel, by decide +kernel, by decide +kernel, by decide +kernel, by decide +kernel, by decide +kernel, by decide +kernel, fun c hc => by cases hc⟩

end Go.Proofs.YtacnmdlefonjmaaGreat

/-
  Lists of messages as arguments; which are few and short (remudaplain.Fronts).
-/
namespace Go.Proofs.YtacnmdlefonjmaaGreat
open Go.RowKit
set_option linter.unusedVariables false
set_option linter.unusedSimpArgs false

theorem FoS.still : Still FoS := by
  rintro S S' w w' cs x ⟨hb, a, rfl, h⟩ hk
  exact ⟨hb, a, rfl, h.keep hk⟩
theorem opensS_fos : OpensS Tryz.prog 56 (SliceS 10 FoS) := opensS_slice Tryz.underlying56 (by kernel_rfl) (by omega) opensS_fo
theorem fo_at {S : Nat → Prop} {w : World} {p : Option Addr} {n c k : Nat} {xs : List FoV} (h : SliceS 10 FoS S w [.slice p n c] xs) (hk : k < xs.length) :
    ∃ b o a, p = some ⟨b, o, none⟩ ∧ S b ∧ b < w.heap.size ∧ FoB xs[k] ∧ FoL S w xs[k] a ∧
      (w.cell? ⟨b, o + k * 10, none⟩ = some (.int .u8 xs[k].kind) ∧ w.cell? ⟨b, o + k * 10 + 1, none⟩ = some (.int .u8 xs[k].what) ∧ w.cell? ⟨b, o + k * 10 + 2, none⟩ = some (.string xs[k].name) ∧ w.cell? ⟨b, o + k * 10 + 3, none⟩ = some (.string xs[k].portal) ∧ w.cell? ⟨b, o + k * 10 + 4, none⟩ = some (.string xs[k].text)) ∧
      (w.cell? ⟨b, o + k * 10 + 5, none⟩ = some (.slice a.po xs[k].oids.length a.co) ∧ w.cell? ⟨b, o + k * 10 + 6, none⟩ = some (.slice a.pf xs[k].formats.length a.cf) ∧ w.cell? ⟨b, o + k * 10 + 7, none⟩ = some (.slice a.pr xs[k].results.length a.cr) ∧ w.cell? ⟨b, o + k * 10 + 8, none⟩ = some (.slice a.pp xs[k].params.length a.cp) ∧ w.cell? ⟨b, o + k * 10 + 9, none⟩ = some (.int .i64 xs[k].max)) := by
  obtain ⟨b, o, cs, rfl, hS, hb, _, hc, hfb, a, rfl, hl⟩ := h.elem (by omega) k xs[k] (List.getElem?_eq_getElem hk)
  have c0 := hc 0 _ rfl
  rw [Nat.add_zero] at c0
  exact ⟨b, o, a, rfl, hS, hb, hfb, hl, ⟨c0, hc 1 _ rfl, hc 2 _ rfl, hc 3 _ rfl, hc 4 _ rfl⟩, hc 5 _ rfl, hc 6 _ rfl, hc 7 _ rfl, hc 8 _ rfl, hc 9 _ rfl⟩

set_option maxRecDepth 100000 in
theorem longFo_any (S : Nat → Prop) (x : FoV) (a : FoP) (w : World) (h : FoL S w x a) : Calls Tryz.prog 39 #[foArg x a] w fun e w' => ∃ b, e = .returned (.bool b) ∧ (b = false → FewF x) ∧ Below w.heap.size w w' := by
  have Hb := Lib.hid ((Below.refl w.heap.size w).alloc (Nat.le_refl _) (.cells (foCells x a) 46))
  have HC := (Blk.new w 46 (foCells x a)).cell
  have HF := Lib.hid (fewF_any S x a _ (h.below Hb.out))
  clear h
  obtain ⟨X, hX⟩ : ∃ X : Prop, X = FewF x := ⟨_, rfl⟩
  rw [← hX]
  have HX := Lib.hid hX
  clear hX
  unfold foArg foCells at *
  go_enter Tryz.func39, Tryz.ntmps39
  go_wp2_with fail
  refine HF.out.mono ?_
  rintro e w1 ⟨b, rfl, hf, hb1⟩
  have Hb1 := Lib.hid (Hb.out.trans (hb1.mono Hb.out.size))
  have Hf : Hid ((!b) = false → X) := Lib.hid (fun e => by rw [HX.out]; exact hf (by simpa using e))
  clear hf hb1
  go_wp2_with fail
  go_ret
  exact ⟨_, rfl, Hf.out, Hb1.out⟩

set_option maxRecDepth 100000 in
set_option maxHeartbeats 4000000 in
theorem indexLong (S : Nat → Prop) (p : Option Addr) (n c : Nat) (L : List FoV) (w : World) (h : SliceS 10 FoS S w [.slice p n c] L) :
    Calls Tryz.prog 63 #[.slice p n c, .func (.func 39) #[] #[]] w fun e w' => ∃ r, e = .returned (.int .i64 r) ∧ (0 ≤ r ∨ (r = -1 ∧ ∀ x ∈ L, FewF x)) ∧ Below w.heap.size w w' := by
  have H := Lib.hid h
  obtain ⟨rfl, hlc, hcm⟩ := h.len
  unfold maxLen at hcm
  clear h
  go_enter Tryz.func63, Tryz.ntmps63
  go_wp2_with fail
  go_loopw [5, 8] (fun _ i wr => ∃ k : Nat, k ≤ L.length ∧ i = .int .i64 k ∧ (∀ x ∈ L.take k, FewF x) ∧ Below w.heap.size w wr) (fun _ i _ => L.length - (intOf i).toNat)
  case atStart => exact ⟨0, Nat.zero_le _, rfl, fun x hx => by simp at hx, Below.refl _ _⟩
  case round =>
    obtain ⟨k, hk, rfl, hka, hb⟩ := hrel
    have hsz := hb.size
    have Hb := Lib.hid hb
    have Hka := Lib.hid hka
    clear hka
    by_cases hlt : k < L.length
    · obtain ⟨b, o, a, rfl, hS, hbl, hfb, hL, ⟨c0, c1, c2, c3, c4⟩, c5, c6, c7, c8, c9⟩ := fo_at (H.out.below FoS.still hb) hlt
      have Htk := Lib.hid (show L.take (k + 1) = L.take k ++ [L[k]] by rw [List.take_succ_eq_append_getElem hlt])
      have Hc := Lib.hid (longFo_any _ _ a _ hL)
      clear hL hb hS hfb
      generalize L[k] = x at *
      unfold foArg foCells at Hc
      have hlti : (k : Int) < (L.length : Int) := by omega
      go_wp2_with fail
      refine Hc.out.mono ?_
      rintro e w1 ⟨bb, rfl, hf, hb1⟩
      have Hb1 := Lib.hid (Hb.out.trans (hb1.mono hsz))
      have Hf := Lib.hid hf
      clear hb1 hf
      cases bb with
      | false =>
        have Hn : Hid (∀ x ∈ L.take (k + 1), FewF x) := Lib.hid (by
          rw [Htk.out]
          intro y hy
          rcases List.mem_append.1 hy with hy | hy
          · exact Hka.out y hy
          · rw [List.mem_singleton.1 hy]
            exact Hf.out rfl)
        go_wp2_with fail
        go_roundw
        case rel => exact ⟨k + 1, by omega, by go_num, Hn.out, Hb1.out⟩
        case measure => simp [intOf]; omega
      | true =>
        go_wp2_with fail
        go_ret
        exact ⟨_, rfl, .inl (by omega), Hb1.out⟩
    · obtain rfl : k = L.length := by omega
      rw [List.take_length] at Hka
      go_wp2
      go_ret
      exact ⟨_, rfl, .inr ⟨rfl, Hka.out⟩, Hb.out⟩

set_option maxRecDepth 100000 in
theorem containsLongFo (S : Nat → Prop) (p : Option Addr) (n c : Nat) (L : List FoV) (w : World) (h : SliceS 10 FoS S w [.slice p n c] L) :
    Calls Tryz.prog 38 #[.slice p n c, .func (.func 39) #[] #[]] w fun e w' => ∃ b, e = .returned (.bool b) ∧ (b = false → ∀ x ∈ L, FewF x) ∧ Below w.heap.size w w' := by
  have H := Lib.hid (indexLong S p n c L w h)
  clear h
  go_enter Tryz.func38, Tryz.ntmps38
  go_wp2_with fail
  refine H.out.mono ?_
  rintro e w1 ⟨r, rfl, hr, hb⟩
  have Hb := Lib.hid hb
  clear hb
  rcases hr with h0 | ⟨rfl, he⟩
  · go_wp2
    go_ret
    exact ⟨_, rfl, fun e => absurd e (by simp [h0]), Hb.out⟩
  · have He := Lib.hid he
    clear he
    go_wp2
    go_ret
    exact ⟨_, rfl, fun _ x hx => He.out x hx, Hb.out⟩

/-- What Fronts answers. -/
def FewFs (L : List FoV) (many : Nat) (b : Bool) : Prop := b = true → L.length ≤ many ∧ ∀ x ∈ L, FewF x
set_option maxRecDepth 100000 in
theorem fronts_any (S : Nat → Prop) (p : Option Addr) (n c : Nat) (L : List FoV) (many : Nat) (w : World) (h : SliceS 10 FoS S w [.slice p n c] L) :
    Calls Tryz.prog 18 #[.slice p n c, .int .i64 (many : Int)] w fun e w' => ∃ b, e = .returned (.bool b) ∧ FewFs L many b ∧ Below w.heap.size w w' := by
  obtain ⟨rfl, hlc, hcm⟩ := h.len
  have H := Lib.hid (containsLongFo S p _ c L w h)
  clear h
  by_cases hl : (many : Int) < (L.length : Int)
  · go_enter Tryz.func18, Tryz.ntmps18
    go_wp2_with fail
    go_ret
    exact ⟨false, rfl, (fun e => by simp at e), Below.refl _ _⟩
  · have Hl : Hid (L.length ≤ many) := Lib.hid (by omega)
    go_enter Tryz.func18, Tryz.ntmps18
    go_wp2_with fail
    refine H.out.mono ?_
    rintro e w1 ⟨b, rfl, hb, hw⟩
    have Hw := Lib.hid hw
    have Hf : Hid (FewFs L many (!b)) := Lib.hid (fun e => ⟨Hl.out, hb (by simpa using e)⟩)
    clear hb hw
    go_wp2_with fail
    go_ret
    exact ⟨_, rfl, Hf.out, Hw.out⟩

end Go.Proofs.YtacnmdlefonjmaaGreat

/-
  A message's bytes: the contracts of frame.Bytes and of the document's (layer 4).
-/
namespace Go.Proofs.YtacnmdlefonjmaaGreat
open Go.RowKit

/-- A message's bytes. -/
def msgL (ty : UInt8) (l : List UInt8) : List UInt8 := putV (if ty = 0 then [] else [ty]) ((l.length : Int) + 4) 4 ++ l

theorem msgL_len (ty : UInt8) (l : List UInt8) : (msgL ty l).length ≤ l.length + 5 := by
  have h := putV_len4 (if ty = 0 then [] else [ty]) ((l.length : Int) + 4) 4
  unfold msgL
  rw [List.length_append]
  have : (if ty = 0 then ([] : List UInt8) else [ty]).length ≤ 1 := by split <;> simp
  omega

def msgArg (ty : UInt8) (p : Option Addr) (n c : Nat) : Value := .agg #[.int .u8 (ty.toNat : Int), .slice p n c]

/-- A message in a block, and its bytes. -/
structure MsW (w0 w : World) (g : Nat) (ty : UInt8) (l : List UInt8) (p : Option Addr) (c : Nat) : Prop where
  blk : Blk w g 73 #[.int .u8 (ty.toNat : Int), .slice p l.length c]
  inn : BytesIn w p l
  bel : Below w0.heap.size w0 w
section
variable {w0 w w' : World} {g : Nat} {ty : UInt8} {l : List UInt8} {p : Option Addr} {c : Nat}
theorem MsW.step (h : MsW w0 w g ty l p c) (hb : Below w.heap.size w w') : MsW w0 w' g ty l p c := ⟨h.blk.below hb h.blk.lt, h.inn.below hb, h.bel.trans (hb.mono h.bel.size)⟩
theorem MsW.drew (h : MsW w0 w g ty l p c) : MsW w0 w.drew g ty l p c := h.step (((Touch.refl (fun _ => False) w).drew).below (Nat.le_refl _) (fun _ e => e.elim))
theorem MsW.box (h : BytesIn w p l) : MsW w (w.alloc (.cells #[.int .u8 (ty.toNat : Int), .slice p l.length c] 73)) w.heap.size ty l p c := ⟨Blk.new _ _ _, h.alloc _, (Below.refl _ _).alloc (Nat.le_refl _) _⟩
end

theorem cell_grown {w w' : World} {row : Option Nat} {g i : Nat} (h : w.grownBy w' row) (hg : g < w.heap.size) (hr : some g ≠ row) : w'.cell? ⟨g, i, none⟩ = w.cell? ⟨g, i, none⟩ := World.cell?_of_block (a := ⟨g, i, none⟩) (h.block g hg hr)

set_option maxRecDepth 100000 in
set_option maxHeartbeats 4000000 in
theorem frBytesR_any (ty : UInt8) (l : List UInt8) (p : Option Addr) (c : Nat) (w : World) (hx : BytesIn w p l) (hl : l.length ≤ 100000) :
    Calls Tryz.prog 42 #[msgArg ty p l.length c] w fun e w' => ∃ v, e = .returned v ∧ OwnBR w.heap.size w' v (msgL ty l) ∧ Below w.heap.size w w' := by
  have H0 := Lib.hid (MsW.box (ty := ty) (c := c) hx)
  have Hm : Hid (∀ pre, pre = (if ty = 0 then ([] : List UInt8) else [ty]) → msgL ty l = putV pre ((l.length : Int) + 4) 4 ++ l) := Lib.hid (fun pre e => by rw [e]; rfl)
  have Hpl := Lib.hid (fun pre : List UInt8 => putV_len4 pre ((l.length : Int) + 4) 4)
  have hx0 := u8_bd ty
  have hws : IntKind.i64.wrap (4 + (l.length : Int)) = 4 + (l.length : Int) := by rw [IntKind.wrap_i64]; omega
  have hws2 : IntKind.i64.wrap ((l.length : Int) + 4) = (l.length : Int) + 4 := by rw [IntKind.wrap_i64]; omega
  have Hsum := Lib.hid (show (4 : Int) + (l.length : Int) = (l.length : Int) + 4 by omega)
  have hcase : ty = 0 ∨ ¬ ty = 0 := Decidable.em _
  clear hx
  unfold msgArg
  rcases hcase with h0 | h0
  · have Hm2 := Lib.hid (Hm.out [] (by rw [if_pos h0]))
    have hz : (ty.toNat : Int) = 0 := by rw [h0]; rfl
    rw [hz]
    have H1 : Hid (MsW w (w.alloc (.cells #[.int .u8 0, .slice p l.length c] 73)) w.heap.size ty l p c) := Lib.hid (by have := H0.out; rw [hz] at this; exact this)
    have hc1 : ∀ i, (w.alloc (.cells #[.int .u8 0, .slice p l.length c] 73)).cell? ⟨w.heap.size, i, none⟩ = (#[.int .u8 0, .slice p l.length c] : Array Value)[i]? := by have := H1.out.blk.cell; rw [hz] at this; exact this
    have hX : (ty.toNat : Int) = 0 := hz
    have HX := Lib.hid hX
    clear Hm h0 hx0 hX hz H0
    go_enter Tryz.func42, Tryz.ntmps42
    go_wp2_with fail
    generalize hw1 : w.alloc (.cells #[.int .u8 0, .slice p l.length c] 73) = w1 at *
    clear hw1
    have hlt1 := H1.out.blk.lt
    have H2 := H1
    have Hi2 := Lib.hid (BytesIn.nil w1 none)
    go_wp2_with fail
    generalize hw2 : w1 = w2 at *
    clear hw2
    have hc2 : ∀ i, w2.cell? ⟨w.heap.size, i, none⟩ = (#[.int .u8 0, .slice p l.length c] : Array Value)[i]? := (by have := H2.out.blk.cell; rw [HX.out] at this; exact this)
    have hlt2 := H2.out.blk.lt
    go_region_held3 (fun w' => ∀ i, w'.cell? ⟨w.heap.size, i, none⟩ = (#[.int .u8 0, .slice p l.length c] : Array Value)[i]?)
      (first | exact hc2 | exact hc3 | exact hc4 | go_keep)
      (first
        | (go_at_call 69; (try rw [Hsum.out]); refine (putR_any none [] 0 ((l.length : Int) + 4) 4 _ (by simp) (Hi2.out.drewN 1)).mono ?_; rintro e w3 ⟨v3, rfl, ho3, hb3⟩; have H3 : Hid (MsW w w3 _ _ _ _ _) := Lib.hid (H2.out.drew.step hb3); have hc3 : ∀ i, w3.cell? ⟨w.heap.size, i, none⟩ = (#[.int .u8 0, .slice p l.length c] : Array Value)[i]? := (by have := H3.out.blk.cell; rw [HX.out] at this; exact this); have hpl3 := Hpl.out []; have Ho3 : Hid (OwnBR w2.heap.size w3 v3 (putV [] ((l.length : Int) + 4) 4)) := Lib.hid (OwnBR.of ho3); have hs3 : w2.heap.size ≤ w3.heap.size := hb3.size; (try simp only [List.length_cons] at hpl3); simp only [List.length_nil] at hpl3; clear hb3 ho3)
        | (refine rgn_appendBR rfl (.tmp 17) (.tmp 19) rfl w2.heap.size _ _ rfl Ho3.out _ l _ _ rfl rfl H3.out.inn (by omega) hs3 ?_; intro v4 w4 ho4 hg4 _; have hc4 : ∀ i, w4.cell? ⟨w.heap.size, i, none⟩ = (#[.int .u8 0, .slice p l.length c] : Array Value)[i]? := (fun i => (cell_grown hg4 (by omega) (fun e => by have := (Ho3.out.row _ e.symm).1; omega)).trans (hc3 i))))
    have hw : Below w.heap.size w w4 := H3.out.bel.trans (Below.of_row hg4 H3.out.bel.size (fun k hk => by have := (Ho3.out.row k hk).1; omega))
    have Hw := Lib.hid hw
    have Ho4 := Lib.hid ho4
    clear hw ho4 hg4 hc2 hc3 hc4
    go_wp2
    go_ret
    refine ⟨_, rfl, ?_, Hw.out⟩
    rw [Hm2.out]
    exact OwnR.base Ho4.out (by omega)
  · have Hm2 := Lib.hid (Hm.out [ty] (by rw [if_neg h0]))
    have hne0 : ¬ ((ty.toNat : Int) = 0) := fun e => h0 (UInt8.toNat_inj.1 (by have : (0 : UInt8).toNat = 0 := rfl; omega))
    obtain ⟨x, hX⟩ : ∃ x : Nat, (ty.toNat : Int) = (x : Int) := ⟨_, rfl⟩
    rw [hX]
    rw [hX] at hne0 hx0
    have H1 : Hid (MsW w (w.alloc (.cells #[.int .u8 (x : Int), .slice p l.length c] 73)) w.heap.size ty l p c) := Lib.hid (by have := H0.out; rw [hX] at this; exact this)
    have hc1 : ∀ i, (w.alloc (.cells #[.int .u8 (x : Int), .slice p l.length c] 73)).cell? ⟨w.heap.size, i, none⟩ = (#[.int .u8 (x : Int), .slice p l.length c] : Array Value)[i]? := by have := H1.out.blk.cell; rw [hX] at this; exact this
    have HX := Lib.hid hX
    have hne : ¬ ((x : Int) = 0) := hne0
    clear Hm h0 hX H0 hne0
    have hz1 : (w.alloc (.cells #[.int .u8 (x : Int), .slice p l.length c] 73)).heap.size = w.heap.size + 1 := by simp
    have H2a := Lib.hid (H1.out.step ((Below.refl _ _).alloc (Nat.le_refl _) (.cells #[.int .u8 (x : Int)] 5)))
    have hi2a := BytesIn.new1 (w.alloc (.cells #[.int .u8 (x : Int), .slice p l.length c] 73)) ty (x : Int) 5 HX.out
    rw [hz1] at hi2a
    have Hi2a := Lib.hid hi2a
    have hz2a : ((w.alloc (.cells #[.int .u8 (x : Int), .slice p l.length c] 73)).alloc (.cells #[.int .u8 (x : Int)] 5)).heap.size = w.heap.size + 2 := by simp
    clear hz1 hi2a hc1
    go_enter Tryz.func42, Tryz.ntmps42
    go_wp2_with (at_builtin; refine step_appendBR _ rfl (.tmp 7) (.tmp 10) rfl (w.heap.size + 1) (.slice none 0 0) [] rfl (OwnBR.empty _ _ _) (some ⟨w.heap.size + 1, 0, none⟩) [ty] 1 1 rfl rfl Hi2a.out (by simp) (by omega) ?_; intro v2 w2 ho2 hg2 _; have Ho2 : Hid (OwnBR (w.heap.size + 1) w2 v2 [ty]) := Lib.hid ho2; have H2 := Lib.hid (H2a.out.step (Below.of_row hg2 (Nat.le_refl _) (fun k hk => by simp [rowOf] at hk))); clear ho2 hg2; obtain ⟨q2, d2, rfl, _, _, hi2, _⟩ := Ho2.out.slice; have Hi2 := Lib.hid hi2; clear hi2)
    have hc2 : ∀ i, w2.cell? ⟨w.heap.size, i, none⟩ = (#[.int .u8 (x : Int), .slice p l.length c] : Array Value)[i]? := (by have := H2.out.blk.cell; rw [HX.out] at this; exact this)
    have hlt2 := H2.out.blk.lt
    go_region_held3 (fun w' => ∀ i, w'.cell? ⟨w.heap.size, i, none⟩ = (#[.int .u8 (x : Int), .slice p l.length c] : Array Value)[i]?)
      (first | exact hc2 | exact hc3 | exact hc4 | go_keep)
      (first
        | (go_at_call 69; (try rw [Hsum.out]); refine (putR_any q2 [ty] d2 ((l.length : Int) + 4) 4 _ (by simp) (Hi2.out.drewN 1)).mono ?_; rintro e w3 ⟨v3, rfl, ho3, hb3⟩; have H3 : Hid (MsW w w3 _ _ _ _ _) := Lib.hid (H2.out.drew.step hb3); have hc3 : ∀ i, w3.cell? ⟨w.heap.size, i, none⟩ = (#[.int .u8 (x : Int), .slice p l.length c] : Array Value)[i]? := (by have := H3.out.blk.cell; rw [HX.out] at this; exact this); have hpl3 := Hpl.out [ty]; have Ho3 : Hid (OwnBR w2.heap.size w3 v3 (putV [ty] ((l.length : Int) + 4) 4)) := Lib.hid (OwnBR.of ho3); have hs3 : w2.heap.size ≤ w3.heap.size := hb3.size; (try simp only [List.length_cons] at hpl3); simp only [List.length_nil] at hpl3; clear hb3 ho3)
        | (refine rgn_appendBR rfl (.tmp 17) (.tmp 19) rfl w2.heap.size _ _ rfl Ho3.out _ l _ _ rfl rfl H3.out.inn (by omega) hs3 ?_; intro v4 w4 ho4 hg4 _; have hc4 : ∀ i, w4.cell? ⟨w.heap.size, i, none⟩ = (#[.int .u8 (x : Int), .slice p l.length c] : Array Value)[i]? := (fun i => (cell_grown hg4 (by omega) (fun e => by have := (Ho3.out.row _ e.symm).1; omega)).trans (hc3 i))))
    have hw : Below w.heap.size w w4 := H3.out.bel.trans (Below.of_row hg4 H3.out.bel.size (fun k hk => by have := (Ho3.out.row k hk).1; omega))
    have Hw := Lib.hid hw
    have Ho4 := Lib.hid ho4
    clear hw ho4 hg4 hc2 hc3 hc4
    go_wp2
    go_ret
    refine ⟨_, rfl, ?_, Hw.out⟩
    rw [Hm2.out]
    exact OwnR.base Ho4.out (by omega)

end Go.Proofs.YtacnmdlefonjmaaGreat

/-
  Messages' bytes (remudaplain.Bytes).
-/
namespace Go.Proofs.YtacnmdlefonjmaaGreat
open Go.RowKit
set_option linter.unusedVariables false
set_option linter.unusedSimpArgs false

/-- A message's bytes; one that may not be has none. -/
def frameB (f : FoV) : List UInt8 := if checkF f = 0 then msgL (UInt8.ofNat f.kind.toNat) (bodyF f) else []
def framesB (L : List FoV) : List UInt8 := (L.map frameB).flatten
theorem framesB_snoc (L : List FoV) (x : FoV) : framesB (L ++ [x]) = framesB L ++ frameB x := by simp [framesB]
theorem frameB_len {x : FoV} (h : FewF x) (hb : FoB x) : (frameB x).length ≤ 100005 := by
  unfold frameB
  split
  · rename_i hc
    have := msgL_len (UInt8.ofNat x.kind.toNat) (bodyF x)
    have := body_few h hb hc
    omega
  · simp
theorem kind_u8 {f : FoV} (hb : FoB f) : ((UInt8.ofNat f.kind.toNat).toNat : Int) = f.kind := by
  obtain ⟨h0, h1, _⟩ := hb
  rw [UInt8.toNat_ofNat']
  omega

set_option maxRecDepth 100000 in
set_option maxHeartbeats 8000000 in
theorem bytesFo_any (S : Nat → Prop) (p : Option Addr) (n c : Nat) (L : List FoV) (w : World) (h : SliceS 10 FoS S w [.slice p n c] L) (hfew : ∀ x ∈ L, FewF x) (hmany : L.length ≤ 1000) :
    Calls Tryz.prog 19 #[.slice p n c] w fun e w' => ∃ v, e = .returned v ∧ OwnBR w.heap.size w' v (framesB L) ∧ (framesB L).length ≤ 100005 * L.length ∧ Below w.heap.size w w' := by
  have H := Lib.hid h
  obtain ⟨rfl, hlc, hcm⟩ := h.len
  unfold maxLen at hcm
  have Hfew := Lib.hid hfew
  clear h hfew
  go_enter Tryz.func19, Tryz.ntmps19
  go_wp2_with fail
  go_loopw [3, 10] (fun vo i wr => ∃ k : Nat, k ≤ L.length ∧ i = .int .i64 k ∧ OwnBR w.heap.size wr vo (framesB (L.take k)) ∧ (framesB (L.take k)).length ≤ 100005 * k ∧ Below w.heap.size w wr) (fun _ i _ => L.length - (intOf i).toNat)
  case atStart => exact ⟨0, Nat.zero_le _, rfl, OwnBR.empty _ _ _, Nat.zero_le _, Below.refl _ _⟩
  case round =>
    obtain ⟨k, hk, rfl, ho, hlen, hb⟩ := hrel
    have hsz := hb.size
    have Hb := Lib.hid hb
    have Ho := Lib.hid ho
    clear ho
    by_cases hlt : k < L.length
    · obtain ⟨b, o, a, rfl, hS, hbl, hfb, hL, ⟨c0, c1, c2, c3, c4⟩, c5, c6, c7, c8, c9⟩ := fo_at (H.out.below FoS.still hb) hlt
      have Htk := Lib.hid (show L.take (k + 1) = L.take k ++ [L[k]] by rw [List.take_succ_eq_append_getElem hlt])
      have hx := Hfew.out _ (List.getElem_mem hlt)
      have Hlf := Lib.hid (frameB_len hx hfb)
      have hal := (Below.refl wr.heap.size wr).alloc (Nat.le_refl _) (.cells (foCells L[k] a) 46)
      have hm := (Blk.new wr 46 (foCells L[k] a)).cell
      have HE := Lib.hid (renc_any _ L[k] a _ (hL.below hal) hfb hx.small)
      have Hb2 := Lib.hid (Hb.out.trans (hal.mono hsz))
      have Ho2 := Lib.hid (Ho.out.below hal)
      have Hfb := Lib.hid hfb
      have Hx := Lib.hid hx
      have hwk : IntKind.i64.wrap ((k : Int) + 1) = (k : Int) + 1 := by rw [IntKind.wrap_i64]; omega
      clear hL hb hS hfb hx hal Ho
      obtain ⟨out, hout⟩ : ∃ out, out = framesB (L.take k) := ⟨_, rfl⟩
      rw [← hout] at Ho2 hlen
      have Hout := Lib.hid hout
      clear hout
      generalize L[k] = x at *
      have hlti : (k : Int) < (L.length : Int) := by omega
      have Hnx : Hid (framesB (L.take (k + 1)) = out ++ frameB x) := Lib.hid (by rw [Htk.out, framesB_snoc, Hout.out])
      clear Htk Hout
      by_cases hck : checkF x = 0
      · have Hfr : Hid (frameB x = msgL (UInt8.ofNat x.kind.toNat) (bodyF x)) := Lib.hid (if_pos hck)
        have Hen : encF x = (x.kind, bodyF x, 0) := if_pos hck
        have Hbl := Lib.hid (body_few Hx.out Hfb.out hck)
        unfold EncR at HE
        rw [Hen] at HE
        dsimp only at HE
        have HK := Lib.hid (kind_u8 Hfb.out)
        clear Hen hck
        generalize bodyF x = B at *
        generalize UInt8.ofNat x.kind.toNat = ty at *
        unfold foArg foCells at *
        go_wp2_with fail
        generalize wr.alloc (.cells #[.int .u8 x.kind, .int .u8 x.what, .string x.name, .string x.portal, .string x.text, .slice a.po x.oids.length a.co, .slice a.pf x.formats.length a.cf, .slice a.pr x.results.length a.cr, .slice a.pp x.params.length a.cp, .int .i64 x.max] 46) = w1 at *
        generalize wr.heap.size = g1 at *
        refine HE.out.mono ?_
        rintro e w2 ⟨v2, rfl, ho2, hb2⟩
        obtain ⟨p2, c2', rfl, _, _, hin2, _⟩ := ho2.slice
        have hz2 := hb2.size
        have hal3 := (Below.refl w2.heap.size w2).alloc (Nat.le_refl _) (.cells #[.int .u8 x.kind, .slice p2 B.length c2'] 73)
        have hz12 := Hb2.out.size
        have Hb3 := Lib.hid ((Hb2.out.trans (hb2.mono hz12)).trans (hal3.mono (Nat.le_trans hz12 hz2)))
        have Ho3 := Lib.hid ((Ho2.out.below hb2).below hal3)
        have hm3 := (Blk.new w2 73 #[.int .u8 x.kind, .slice p2 B.length c2']).cell
        have HF := frBytesR_any ty B p2 c2' _ (hin2.below hal3) Hbl.out
        unfold msgArg at HF
        rw [HK.out] at HF
        have HF := Lib.hid HF
        clear ho2 hb2 hin2 hal3 HE hm
        go_upto_region 7 with (fail)
        generalize w2.alloc (.cells #[.int .u8 x.kind, .slice p2 B.length c2'] 73) = w3 at *
        generalize w2.heap.size = g2 at *
        go_wp2_with fail
        refine HF.out.mono ?_
        rintro e w4 ⟨v4, rfl, ho4, hb4⟩
        obtain ⟨p4, c4', rfl, _, _, hin4, _⟩ := ho4.slice
        have hz3 := Hb3.out.size
        have Hb4 := Lib.hid (Hb3.out.trans (hb4.mono hz3))
        have Ho4 := Lib.hid (Ho3.out.below hb4)
        have Hin4 := Lib.hid hin4
        have hlf := Hlf.out
        rw [Hfr.out] at hlf
        rw [Hfr.out] at Hnx
        have hroom : out.length + (msgL ty B).length ≤ 140737488355328 := by omega
        have hz4 := Hb4.out.size
        clear ho4 hb4 hin4 HF hm3
        generalize msgL ty B = M at *
        go_wp2_with (at_builtin; refine step_appendBR _ rfl (.tmp 21) (.tmp 23) rfl w.heap.size _ out rfl Ho4.out p4 M M.length c4' rfl rfl Hin4.out hroom hz4 ?_; intro v5 w5 ho5 hg5 hn5; have Ho5 := Lib.hid ho5; have Hb5 : Hid (Below w.heap.size w w5) := Lib.hid (Hb4.out.trans (Below.of_row hg5 hz4 (fun k hk => (Ho4.out.row k hk).1))); clear ho5 hg5 hn5)
        go_roundw
        case rel => exact ⟨k + 1, by omega, by go_num, by rw [Hnx.out]; exact Ho5.out, by rw [Hnx.out, List.length_append]; omega, Hb5.out⟩
        case measure => simp [intOf]; omega
      · have Hfr : Hid (frameB x = []) := Lib.hid (if_neg hck)
        have Hen : encF x = (0, [], checkF x) := if_neg hck
        unfold EncR at HE
        rw [Hen] at HE
        dsimp only at HE
        have hcb : (checkF x == 0) = false := by simpa using hck
        clear Hen
        generalize checkF x = er at *
        unfold foArg foCells at *
        go_wp2_with fail
        generalize wr.alloc (.cells #[.int .u8 x.kind, .int .u8 x.what, .string x.name, .string x.portal, .string x.text, .slice a.po x.oids.length a.co, .slice a.pf x.formats.length a.cf, .slice a.pr x.results.length a.cr, .slice a.pp x.params.length a.cp, .int .i64 x.max] 46) = w1 at *
        generalize wr.heap.size = g1 at *
        refine HE.out.mono ?_
        rintro e w2 ⟨v2, rfl, ho2, hb2⟩
        obtain ⟨p2, c2', rfl, _, _, hin2, _⟩ := ho2.slice
        have hz12 := Hb2.out.size
        have hz2 := hb2.size
        have hal3 := (Below.refl w2.heap.size w2).alloc (Nat.le_refl _) (.cells #[.int .u8 0, .slice p2 ([] : List UInt8).length c2'] 73)
        have Hb3 := Lib.hid ((Hb2.out.trans (hb2.mono hz12)).trans (hal3.mono (Nat.le_trans hz12 hz2)))
        have Ho3 := Lib.hid ((Ho2.out.below hb2).below hal3)
        have Hnx2 : Hid (framesB (L.take (k + 1)) = out) := Lib.hid (by rw [Hnx.out, Hfr.out, List.append_nil])
        clear ho2 hb2 hin2 hal3 HE hm
        go_wp2_with fail
        go_roundw
        case rel => exact ⟨k + 1, by omega, by go_num, by rw [Hnx2.out]; exact Ho3.out, by rw [Hnx2.out]; omega, Hb3.out⟩
        case measure => simp [intOf]; omega
    · obtain rfl : k = L.length := by omega
      rw [List.take_length] at Ho hlen
      go_wp2
      go_ret
      exact ⟨_, rfl, Ho.out, hlen, Hb.out⟩

end Go.Proofs.YtacnmdlefonjmaaGreat

/-
  First messages (layer 5): pairs, as values and in memory; the pairs of a scan, of the program.
-/
namespace Go.Proofs.YtacnmdlefonjmaaGreat
open Go.RowKit
set_option linter.unusedVariables false
set_option linter.unusedSimpArgs false

structure PrV where
  name : ByteArray
  value : ByteArray
def PrS : Rd PrV := fun _ _ cs x => cs = [.string x.name, .string x.value]
theorem PrS.still : Still PrS := fun _ _ _ _ _ _ h _ => h
theorem PrS.one (S : Nat → Prop) (w : World) (cs : List Value) (x : PrV) (h : PrS S w cs x) : ∀ u ∈ cs, u.oneCell' = true := by
  unfold PrS at h
  subst h
  intro u hu
  simp only [List.mem_cons, List.not_mem_nil, or_false] at hu
  rcases hu with rfl | rfl <;> rfl
abbrev OwnPr (B : Nat) (w : World) (v : Value) (xs : List PrV) : Prop := OwnS B 93 2 PrS (fun k => B ≤ k) w v xs
theorem Tryz.info93 : (Tryz.prog.info? 93).map (fun i => (i.zero, i.size, i.bytes)) = some (some (.agg #[.string ⟨#[]⟩, .string ⟨#[]⟩]), 2, 32) := by kernel_rfl
theorem info_pr : ∃ i z, Tryz.prog.info? 93 = some i ∧ i.zero = some z ∧ i.size = 2 ∧ i.bytes = 32 ∧ z.cells.size = 2 := by
  obtain ⟨i0, hi, hz0, hz1, hz2⟩ := info_parts Tryz.info93
  exact ⟨i0, _, hi, hz0, hz1, hz2, rfl⟩

theorem ownPr_below {B : Nat} {w w' : World} {v : Value} {xs : List PrV} (h : OwnPr B w v xs) (hb : Below w.heap.size w w') : OwnPr B w' v xs :=
  OwnS.touch PrS.still h (Touch.of_below (p := fun _ => False) hb) (fun _ _ e => e) (fun _ _ hk _ => ⟨hk, fun e => e⟩)

/-- A pair behind pairs. -/
theorem step_appendPr {ops : Array Oper} {rest : List Oper} {o : Oper} {a : Act} {Q : Exit → Act → World → Prop} (w : World) (hgd : o.guard = none) (s y : Operand)
    (ho : o.op = .call { callee := .builtin .append, args := #[s, y], argTypes := #[40, 40] })
    (B : Nat) (v : Value) (xs : List PrV) (hsv : a.eval s = v) (hown : OwnPr B w v xs) (p : Option Addr) (n c : Nat) (ys : List PrV) (hx : a.eval y = .slice p n c) (hs : SliceS 2 PrS (fun k => B ≤ k ∧ rowOf v ≠ some k) w [.slice p n c] ys)
    (hroom : xs.length + ys.length ≤ 1000000) (hbase : B ≤ w.heap.size)
    (h : ∀ v' w', OwnPr B w' v' (xs ++ ys) → w.grownBy w' (rowOf v) → (∀ k, rowOf v' = some k → rowOf v = some k ∨ w.heap.size ≤ k) → wpList Tryz.prog ops Q rest (a.put o.dst v') w') : wpList Tryz.prog ops Q (o :: rest) a w :=
  wpList_append_S w hgd s y 40 40 ho B 93 93 2 32 Tryz.underlying40 Tryz.underlying40 info_pr PrS PrS.still PrS.one (fun k => B ≤ k) v xs hsv hown p n c ys hx hs
    (by omega) (by simp only [maxLen]; omega) hbase h

/-- The pairs of a scan, up to an empty name; what is left, and whether it is bad. -/
def pairsR : Nat → List UInt8 → Bool → List PrV × List UInt8 × Bool
  | 0, _, _ => ([], [], true)
  | n + 1, L, bad =>
    if textV L bad = ⟨#[]⟩ then ([], nx (textOk L bad) (L.drop ((Lib.indexByte L 0).toNat + 1)) [], !textOk L bad)
    else
      let R := nx (textOk L bad) (L.drop ((Lib.indexByte L 0).toNat + 1)) []
      let q := pairsR n (nx (textOk R (!textOk L bad)) (R.drop ((Lib.indexByte R 0).toNat + 1)) []) (!textOk R (!textOk L bad))
      (⟨textV L bad, textV R (!textOk L bad)⟩ :: q.1, q.2)

def lenP : Value → Nat
  | .slice _ n _ => n
  | _ => 0

theorem nx_len {ok : Bool} {L : List UInt8} (k : Nat) : (nx ok (L.drop (k + 1)) []).length ≤ L.length - 1 := by
  unfold nx
  split
  · rw [List.length_drop]; omega
  · simp

theorem str_empty {s : ByteArray} : s.toList.isEmpty = true ↔ s = ⟨#[]⟩ := by
  have h : s = strOf s.data.toList := by simp [strOf]
  constructor
  · intro e
    rw [h, strOf_toList] at e
    have e' : s.data.toList = [] := by simpa using e
    rw [h, e']
    rfl
  · rintro rfl
    show (strOf []).toList.isEmpty = true
    rw [strOf_toList]
    rfl
theorem textV_some {L : List UInt8} {bad : Bool} (h : textV L bad ≠ ⟨#[]⟩) : L ≠ [] := by
  intro e
  subst e
  apply h
  unfold textV textOk
  simp [Lib.indexByte]

theorem pairsR_len : ∀ (n : Nat) (L : List UInt8) (bad : Bool), (pairsR n L bad).1.length ≤ n
  | 0, _, _ => by simp [pairsR]
  | n + 1, L, bad => by
    unfold pairsR
    split
    · simp
    · have := pairsR_len n (nx (textOk (nx (textOk L bad) (L.drop ((Lib.indexByte L 0).toNat + 1)) []) (!textOk L bad)) ((nx (textOk L bad) (L.drop ((Lib.indexByte L 0).toNat + 1)) []).drop ((Lib.indexByte (nx (textOk L bad) (L.drop ((Lib.indexByte L 0).toNat + 1)) []) 0).toNat + 1)) []) (!textOk (nx (textOk L bad) (L.drop ((Lib.indexByte L 0).toNat + 1)) []) (!textOk L bad))
      simp only [List.length_cons]
      omega

set_option maxRecDepth 100000 in
set_option maxHeartbeats 4000000 in
theorem pairs_any (sb g : Nat) (L : List UInt8) (bad : Bool) (w : World) (h : ScanO w sb g L bad) (hL : L.length ≤ 100000) :
    Calls Tryz.prog 93 #[.pointer (some ⟨sb, 0, none⟩)] w fun e w' => ∃ vo, e = .returned vo ∧ OwnPr w.heap.size w' vo (pairsR (L.length + 1) L bad).1 ∧ ScanO w' sb g (pairsR (L.length + 1) L bad).2.1 (pairsR (L.length + 1) L bad).2.2 ∧ Touch (fun i => i = sb) w w' := by
  have hsb := h.lt
  have hg : L ≠ [] → g < w.heap.size := fun e => h.ltg e
  have Hg := Lib.hid hg
  have H0 := Lib.hid h
  obtain ⟨P, hP⟩ : ∃ P, pairsR (L.length + 1) L bad = P := ⟨_, rfl⟩
  have hPl : P.1.length ≤ L.length + 1 := by rw [← hP]; exact pairsR_len _ _ _
  rw [hP]
  have HP := Lib.hid hP
  clear h hg hP
  go_enter Tryz.func93, Tryz.ntmps93
  go_wp2_with fail
  go_step3
  go_wp2_with fail
  go_step3
  go_wp2_with fail
  go_loopw [3] (fun u wr => ∃ (m : Nat) (T : List UInt8) (b : Bool) (xs : List PrV), T.length < m ∧ (T ≠ [] → L ≠ []) ∧ xs ++ (pairsR m T b).1 = P.1 ∧ (pairsR m T b).2 = P.2 ∧ OwnPr w.heap.size wr u xs ∧ ScanO wr sb g T b ∧ Touch (fun i => i = sb) w wr) (fun u _ => P.1.length + 1 - lenP u)
  case atStart => exact ⟨L.length + 1, L, bad, [], by omega, fun e => e, by rw [HP.out]; rfl, by rw [HP.out], OwnS.empty _, H0.out, Touch.refl _ _⟩
  case round =>
    obtain ⟨m, T, b, xs, hm, hTL, hx, hr, ho, hs, hT⟩ := hrel
    obtain ⟨m, rfl⟩ : ∃ m', m = m' + 1 := ⟨m - 1, by omega⟩
    have hz := hT.size
    have Hx := Lib.hid (And.intro hx (And.intro hr hTL))
    have Ho := Lib.hid ho
    have HT := Lib.hid hT
    have hlx := congrArg List.length hx
    rw [List.length_append] at hlx
    have Hrow := Lib.hid ho.row
    have hlen : lenP u3 = xs.length := by
      obtain ⟨p, c, e, _⟩ := ho.slice PrS.still (S' := fun _ => True) (fun _ _ _ => trivial) (fun _ _ => trivial)
      rw [e]; rfl
    have Hlen := Lib.hid hlen
    have Ht1 := Lib.hid (scanText_any sb g T b wr hs)
    clear hx hr hTL ho hs hT hlen
    go_wp2_with fail
    refine Ht1.out.mono ?_
    rintro e w1 ⟨rfl, hs1, hT1⟩
    have hz1 := hT1.size
    by_cases hn : textV T b = ⟨#[]⟩
    · have hend : (pairsR (m + 1) T b) = ([], nx (textOk T b) (T.drop ((Lib.indexByte T 0).toNat + 1)) [], !textOk T b) := by
        unfold pairsR; rw [if_pos hn]
      have hx := Hx.out
      rw [hend] at hx
      have Hend := Lib.hid (And.intro hx (And.intro hs1 hT1))
      rw [hn]
      clear hx hend hs1 hT1 hn Hx Ht1
      go_wp2_with fail
      obtain ⟨p3, c3, e3, _⟩ := Ho.out.slice PrS.still (S' := fun _ => True) (fun _ _ _ => trivial) (fun _ _ => trivial)
      have Ho1 := Lib.hid (Ho.out.touch (S' := fun k => w.heap.size ≤ k) PrS.still Hend.out.2.2 (fun k hk => by have := (Hrow.out k hk).1; omega) (fun k _ hk _ => ⟨hk, fun e => by omega⟩))
      rw [Exit.noGoto_ret]
      go_ret
      have hE := Hend.out
      obtain ⟨⟨h1, h2, _⟩, h3, h4⟩ := hE
      simp only [List.append_nil] at h1
      rw [← h1, ← h2]
      exact ⟨_, rfl, Ho1.out, h3, HT.out.trans h4⟩
    · have hs2 := scanText_any sb g _ _ w1 hs1
      obtain ⟨R, hR⟩ : ∃ R, nx (textOk T b) (T.drop ((Lib.indexByte T 0).toNat + 1)) [] = R := ⟨_, rfl⟩
      obtain ⟨ok, hok⟩ : ∃ ok, textOk T b = ok := ⟨_, rfl⟩
      have hRl : R.length ≤ T.length - 1 := by rw [← hR]; exact nx_len _
      have hT0 : 0 < T.length := List.length_pos_iff.2 (textV_some hn)
      have hstep : pairsR (m + 1) T b = (⟨textV T b, textV R (!ok)⟩ :: (pairsR m (nx (textOk R (!ok)) (R.drop ((Lib.indexByte R 0).toNat + 1)) []) (!textOk R (!ok))).1, (pairsR m (nx (textOk R (!ok)) (R.drop ((Lib.indexByte R 0).toNat + 1)) []) (!textOk R (!ok))).2) := by
        rw [pairsR, if_neg hn, ← hR, ← hok]
      rw [hR, hok] at hs2
      have hR2 : (nx (textOk R (!ok)) (R.drop ((Lib.indexByte R 0).toNat + 1)) []).length ≤ R.length - 1 := nx_len _
      have hRT : nx (textOk R (!ok)) (R.drop ((Lib.indexByte R 0).toNat + 1)) [] ≠ [] → L ≠ [] := fun _ => Hx.out.2.2 (textV_some hn)
      obtain ⟨nm, hnm⟩ : ∃ nm, textV T b = nm := ⟨_, rfl⟩
      obtain ⟨vl, hvl⟩ : ∃ vl, textV R (!ok) = vl := ⟨_, rfl⟩
      rw [hnm, hvl] at hstep
      rw [hvl] at hs2
      rw [hnm] at hn ⊢
      have hx := Hx.out
      rw [hstep] at hx
      obtain ⟨hx1, hx2, hx3⟩ := hx
      dsimp only at hx1 hx2
      have hx1' : (xs ++ [⟨nm, vl⟩]) ++ (pairsR m (nx (textOk R (!ok)) (R.drop ((Lib.indexByte R 0).toNat + 1)) []) (!textOk R (!ok))).1 = P.1 := by rw [List.append_assoc]; exact hx1
      have Hx2 := Lib.hid (And.intro hx1' hx2)
      have Hs2 := Lib.hid hs2
      have Hmt := Lib.hid (show (nx (textOk R (!ok)) (R.drop ((Lib.indexByte R 0).toNat + 1)) []).length < m by omega)
      have HRT := Lib.hid hRT
      have HT1 := Lib.hid hT1
      have hlx2 := congrArg List.length hx1'
      simp only [List.length_append, List.length_cons, List.length_nil] at hlx2
      have hnb : nm.toList.isEmpty = false := by
        cases e : nm.toList.isEmpty with
        | false => rfl
        | true => exact absurd (str_empty.1 e) hn
      clear hs2 hR hok hRl hT0 hstep hR2 hRT hx1 hx2 hx1' hs1 hT1 Hx Ht1 hm hx3
      go_wp2_with fail
      refine Hs2.out.mono ?_
      rintro e w2 ⟨rfl, hs3, hT2⟩
      have hz2 := hT2.size
      have HS3 := Lib.hid (And.intro hs3 ((HT.out.trans HT1.out).trans hT2))
      have ho2 := ((Ho.out.touch (S' := fun k => w.heap.size ≤ k) PrS.still HT1.out (fun k hk => by have := (Hrow.out k hk).1; omega) (fun k _ hk _ => ⟨hk, fun e => by omega⟩))).touch (S' := fun k => w.heap.size ≤ k) PrS.still hT2 (fun k hk => by have := (Hrow.out k hk).1; omega) (fun k _ hk _ => ⟨hk, fun e => by omega⟩)
      have hal : Below w2.heap.size w2 (w2.alloc (.cells #[.string nm, .string vl] 93)) := (Below.refl _ _).alloc (Nat.le_refl _) _
      have Ho2 := Lib.hid (ownPr_below ho2 hal)
      have Hnw : Hid (SliceS 2 PrS (fun k => w.heap.size ≤ k ∧ rowOf u3 ≠ some k) (w2.alloc (.cells #[.string nm, .string vl] 93)) [.slice (some ⟨w2.heap.size, 0, none⟩) 1 1] [⟨nm, vl⟩]) := Lib.hid
        (SliceS.new1 (S := fun k => w.heap.size ≤ k ∧ rowOf u3 ≠ some k) PrS.still w2 93 #[.string nm, .string vl] ⟨nm, vl⟩ rfl rfl (fun k _ h => h) ⟨by omega, fun e => by have := (Hrow.out _ e).2; omega⟩)
      have HA := Lib.hid hal
      have hwz : w.heap.size ≤ (w2.alloc (.cells #[.string nm, .string vl] 93)).heap.size := by simp; omega
      have hxr : xs.length + 1 ≤ 1000000 := by omega
      clear hs3 hT2 ho2 hal
      go_wp2_with (at_builtin; refine step_appendPr _ rfl (.tmp 9) (.tmp 14) rfl w.heap.size u3 xs rfl Ho2.out (some ⟨w2.heap.size, 0, none⟩) 1 1 [⟨nm, vl⟩] rfl Hnw.out (by simpa using hxr) hwz ?_; intro v5 w5 ho5 hg5 hn5; have Ho5 := Lib.hid ho5; have HT5 := Lib.hid ((HS3.out.2.trans (Touch.of_below HA.out)).then (Touch.of_row hg5) (fun i hi e => by have := (Hrow.out i e.symm).1; omega)); have HS5 := Lib.hid ((HS3.out.1.touch (Touch.of_below (p := fun _ => False) HA.out) (fun e => e) (fun _ e => e)).touch (Touch.of_row hg5) (fun e => by have := (Hrow.out _ e.symm).1; omega) (fun hne e => by have := (Hrow.out _ e.symm).1; have := Hg.out (HRT.out hne); omega)); clear ho5 hg5 hn5)
      go_roundw
      case rel => exact ⟨m, _, _, xs ++ [⟨nm, vl⟩], Hmt.out, HRT.out, Hx2.out.1, Hx2.out.2, Ho5.out, HS5.out, HT5.out⟩
      case measure =>
        obtain ⟨p5, c5, e5, _⟩ := Ho5.out.slice PrS.still (S' := fun _ => True) (fun _ _ _ => trivial) (fun _ _ => trivial)
        rw [e5, Hlen.out]
        simp [lenP]
        omega

end Go.Proofs.YtacnmdlefonjmaaGreat

/-
  First messages (layer 5): the pairs of a scan, of the document.
-/
namespace Go.Proofs.YtacnmdlefonjmaaGreat
open Go.RowKit
set_option linter.unusedVariables false
set_option linter.unusedSimpArgs false

theorem textOk_bad (T : List UInt8) : textOk T true = false := by simp [textOk]
theorem textV_no {T : List UInt8} {b : Bool} (h : textOk T b = false) : textV T b = ⟨#[]⟩ := by unfold textV; rw [h]; rfl

/-- The pairs of what the document keeps: the rest stays where a text can't be had. -/
def pairsX : Nat → List UInt8 → Bool → List PrV × List UInt8 × Bool
  | 0, _, _ => ([], [], true)
  | n + 1, L, bad =>
    if textV L bad = ⟨#[]⟩ then ([], L.drop ((Lib.indexByte L 0).toNat + 1), !textOk L bad)
    else
      let R := L.drop ((Lib.indexByte L 0).toNat + 1)
      let q := pairsX n (nx (textOk R false) (R.drop ((Lib.indexByte R 0).toNat + 1)) R) (!textOk R false)
      (⟨textV L bad, textV R false⟩ :: q.1, q.2)

theorem textOk_of {L : List UInt8} {bad : Bool} (h : textV L bad ≠ ⟨#[]⟩) : textOk L bad = true := by
  cases e : textOk L bad with
  | true => rfl
  | false => exact absurd (textV_no e) h

/-- Both say the same, but where it is bad. -/
theorem pairsX_eq : ∀ (n : Nat) (L M : List UInt8) (bad : Bool), (bad = false → L = M) → (pairsX n L bad).1 = (pairsR n M bad).1 ∧ (pairsX n L bad).2.2 = (pairsR n M bad).2.2 ∧ ((pairsR n M bad).2.2 = false → (pairsX n L bad).2.1 = (pairsR n M bad).2.1)
  | 0, _, _, _, _ => by simp [pairsX, pairsR]
  | n + 1, L, M, true, _ => by
    have h1 : textV L true = ⟨#[]⟩ := textV_no (textOk_bad L)
    have h2 : textV M true = ⟨#[]⟩ := textV_no (textOk_bad M)
    rw [pairsX, pairsR, if_pos h1, if_pos h2, textOk_bad, textOk_bad]
    simp
  | n + 1, L, M, false, h => by
    obtain rfl := h rfl
    by_cases hn : textV L false = ⟨#[]⟩
    · rw [pairsX, pairsR, if_pos hn, if_pos hn]
      refine ⟨rfl, rfl, fun he => ?_⟩
      have : textOk L false = true := by simpa using he
      dsimp only
      rw [this]
      rfl
    · have hok := textOk_of hn
      rw [pairsX, pairsR, if_neg hn, if_neg hn, hok]
      have hnx : ∀ A B : List UInt8, nx true A B = A := fun _ _ => rfl
      simp only [hnx, Bool.not_true]
      have ih := pairsX_eq n (nx (textOk (L.drop ((Lib.indexByte L 0).toNat + 1)) false) ((L.drop ((Lib.indexByte L 0).toNat + 1)).drop ((Lib.indexByte (L.drop ((Lib.indexByte L 0).toNat + 1)) 0).toNat + 1)) (L.drop ((Lib.indexByte L 0).toNat + 1))) (nx (textOk (L.drop ((Lib.indexByte L 0).toNat + 1)) false) ((L.drop ((Lib.indexByte L 0).toNat + 1)).drop ((Lib.indexByte (L.drop ((Lib.indexByte L 0).toNat + 1)) 0).toNat + 1)) []) (!textOk (L.drop ((Lib.indexByte L 0).toNat + 1)) false) (fun e => by
        have : textOk (L.drop ((Lib.indexByte L 0).toNat + 1)) false = true := by simpa using e
        rw [this]; rfl)
      exact ⟨by rw [ih.1], ih.2.1, ih.2.2⟩

/-- What 'params' answers. -/
def ParR (P : List PrV × List UInt8 × Bool) (B : Nat) (e : Ending) (w' : World) : Prop :=
  (P.2.2 = true ∧ e = .returned (.tuple #[.slice none 0 0, .bool false])) ∨ (P.2.2 = false ∧ ∃ vo, e = .returned (.tuple #[vo, .bool P.2.1.isEmpty]) ∧ OwnPr B w' vo P.1)

theorem RefS.cells {w : World} {xb g : Nat} {L : List UInt8} {no : Bool} (h : RefS w xb g L no) : ∃ p c, ∀ i, w.cell? ⟨xb, i, none⟩ = (#[.slice p L.length c, .bool no] : Array Value)[i]? := by
  obtain ⟨p, c, hb, _⟩ := h
  exact ⟨p, c, hb.cell⟩
theorem RefS.ltg {w : World} {xb g : Nat} {L : List UInt8} {no : Bool} (h : RefS w xb g L no) (hL : L ≠ []) : g < w.heap.size := by
  obtain ⟨p, c, hb, h1, h2, h3, h4, _⟩ := h
  obtain ⟨b, o, e, hc⟩ := h3 0 (List.length_pos_iff.2 hL)
  have := h4 _ e
  rw [← this]
  exact World.block_lt_of_cell? w _ hc

set_option maxRecDepth 100000 in
set_option maxHeartbeats 4000000 in
theorem params_any (xb g : Nat) (L : List UInt8) (w : World) (h : RefS w xb g L false) (hL : L.length ≤ 100000) :
    Calls Tryz.prog 57 #[.pointer (some ⟨xb, 0, none⟩)] w fun e w' => ParR (pairsX (L.length + 1) L false) w.heap.size e w' ∧ Touch (fun i => i = xb) w w' := by
  have hsb := h.lt
  have Hg := Lib.hid (fun e : L ≠ [] => h.ltg e)
  have H0 := Lib.hid h
  obtain ⟨P, hP⟩ : ∃ P, pairsX (L.length + 1) L false = P := ⟨_, rfl⟩
  rw [hP]
  have HP := Lib.hid hP
  clear h hP
  go_enter Tryz.func57, Tryz.ntmps57
  go_wp2_with fail
  go_loopw [4] (fun u wr => ∃ (m : Nat) (T : List UInt8) (b : Bool) (xs : List PrV), T.length < m ∧ T.length + 2 * xs.length ≤ L.length + (if b then 1 else 0) ∧ (T ≠ [] → L ≠ []) ∧ xs ++ (pairsX m T b).1 = P.1 ∧ (pairsX m T b).2 = P.2 ∧ OwnPr w.heap.size wr u xs ∧ RefS wr xb g T b ∧ Touch (fun i => i = xb) w wr) (fun u _ => L.length + 1 - lenP u)
  case atStart => exact ⟨L.length + 1, L, false, [], by omega, by simp, fun e => e, by rw [HP.out]; rfl, by rw [HP.out], OwnS.empty _, H0.out, Touch.refl _ _⟩
  case round =>
    obtain ⟨m, T, b, xs, hm, hml, hTL, hx, hr, ho, hs, hT⟩ := hrel
    obtain ⟨m, rfl⟩ : ∃ m', m = m' + 1 := ⟨m - 1, by omega⟩
    have hz := hT.size
    obtain ⟨pc, cc, hc⟩ := hs.cells
    have hTT : T.length ≤ 1000000000 := by split at hml <;> omega
    have Ht1 := Lib.hid (refSText_full xb g T b wr hs hTT)
    have Hx := Lib.hid (And.intro hx (And.intro hr hTL))
    have Ho := Lib.hid ho
    have HT := Lib.hid hT
    have Hrow := Lib.hid ho.row
    have Hml := Lib.hid hml
    have hlen : lenP u4 = xs.length := by
      obtain ⟨p, c, e, _⟩ := ho.slice PrS.still (S' := fun _ => True) (fun _ _ _ => trivial) (fun _ _ => trivial)
      rw [e]; rfl
    have Hlen := Lib.hid hlen
    clear hx hr hTL ho hs hT hlen hml
    cases b with
    | true =>
      have hb : P.2.2 = true := by
        have h1 : textV T true = ⟨#[]⟩ := textV_no (textOk_bad T)
        have h2 : pairsX (m + 1) T true = ([], T.drop ((Lib.indexByte T 0).toNat + 1), true) := by rw [pairsX, if_pos h1, textOk_bad]; rfl
        rw [← Hx.out.2.1, h2]
      have Hb := Lib.hid hb
      clear hb
      go_wp2_with fail
      go_ret2
      exact ⟨.inl ⟨Hb.out, rfl⟩, HT.out⟩
    | false =>
      go_wp2_with fail
      refine Ht1.out.mono ?_
      rintro e w1 ⟨rfl, hs1, hT1⟩
      have hz1 := hT1.size
      have HT1 := Lib.hid hT1
      obtain ⟨R, hR⟩ : ∃ R, T.drop ((Lib.indexByte T 0).toNat + 1) = R := ⟨_, rfl⟩
      rw [hR] at hs1
      have hRl : R.length ≤ T.length - 1 := by rw [← hR, List.length_drop]; omega
      have Ho1 := Lib.hid (Ho.out.touch (S' := fun k => w.heap.size ≤ k) PrS.still hT1 (fun k hk => by have := (Hrow.out k hk).1; omega) (fun k _ hk _ => ⟨hk, fun e => by omega⟩))
      cases hok : textOk T false with
      | false =>
        have hb : P.2.2 = true := by
          have h2 : pairsX (m + 1) T false = ([], T.drop ((Lib.indexByte T 0).toNat + 1), true) := by rw [pairsX, if_pos (textV_no hok), hok]; rfl
          rw [← Hx.out.2.1, h2]
        have Hb := Lib.hid hb
        rw [hok] at hs1
        obtain ⟨p1, q1, hc1⟩ := hs1.cells
        rw [textV_no hok]
        clear hb hs1 hT1 hc
        simp only [Bool.not_false] at hc1
        go_wp2_with fail
        go_ret2
        exact ⟨.inl ⟨Hb.out, rfl⟩, HT.out.trans HT1.out⟩
      | true =>
        rw [hok] at hs1
        have hs1' : RefS w1 xb g R false := hs1
        obtain ⟨p1, q1, hc1⟩ := hs1'.cells
        have HS1 := Lib.hid hs1'
        clear hs1 hs1' hT1 hc
        by_cases hn : textV T false = ⟨#[]⟩
        · have h2 : pairsX (m + 1) T false = ([], R, false) := by rw [pairsX, if_pos hn, hok, hR]; rfl
          have hx := Hx.out
          rw [h2] at hx
          have HX := Lib.hid hx
          have HD := Lib.hid (refSDone_any xb g R false w1 HS1.out)
          rw [hn]
          clear hx h2 hn Hx
          go_wp2_with (go_at_call 58; refine HD.out.mono ?_; rintro e w2 ⟨rfl, rfl⟩)
          obtain ⟨p3, c3, e3, _⟩ := Ho1.out.slice PrS.still (S' := fun _ => True) (fun _ _ _ => trivial) (fun _ _ => trivial)
          go_ret2
          have hx := HX.out
          obtain ⟨h1, h3, _⟩ := hx
          simp only [List.append_nil] at h1
          refine ⟨.inr ⟨by rw [← h3], _, ?_, by rw [← h1]; exact Ho1.out⟩, HT.out.trans HT1.out⟩
          rw [← h3]
          simp
        · obtain ⟨nm, hnm⟩ : ∃ nm, textV T false = nm := ⟨_, rfl⟩
          obtain ⟨vl, hvl⟩ : ∃ vl, textV R false = vl := ⟨_, rfl⟩
          obtain ⟨ok2, hok2⟩ : ∃ ok, textOk R false = ok := ⟨_, rfl⟩
          obtain ⟨T2, hT2⟩ : ∃ T2, nx ok2 (R.drop ((Lib.indexByte R 0).toNat + 1)) R = T2 := ⟨_, rfl⟩
          have hT0 : 0 < T.length := List.length_pos_iff.2 (textV_some hn)
          have hml := Hml.out
          simp only [Bool.false_eq_true, if_false, Nat.add_zero] at hml
          have hl2 : T2.length ≤ T.length - 1 ∧ T2.length + 2 * (xs.length + 1) ≤ L.length + (if (!ok2) = true then 1 else 0) := by
            cases ok2 with
            | false =>
              have e : T2 = R := hT2.symm
              rw [e]
              simp
              omega
            | true =>
              have e : T2 = R.drop ((Lib.indexByte R 0).toNat + 1) := hT2.symm
              have hR0 : R ≠ [] := by
                intro e
                rw [e] at hok2
                simp [textOk, Lib.indexByte] at hok2
              have hR1 : 0 < R.length := List.length_pos_iff.2 hR0
              rw [e, List.length_drop]
              simp
              omega
          have hstep : pairsX (m + 1) T false = (⟨nm, vl⟩ :: (pairsX m T2 (!ok2)).1, (pairsX m T2 (!ok2)).2) := by
            rw [pairsX, if_neg hn, ← hT2, ← hok2, ← hvl, ← hnm, ← hR]
          have Hs2 := Lib.hid (refSText_full xb g R false w1 HS1.out (by omega))
          rw [hvl, hok2, hT2] at Hs2
          rw [hnm] at hn ⊢
          have hx := Hx.out
          rw [hstep] at hx
          obtain ⟨hx1, hx2, hx3⟩ := hx
          dsimp only at hx1 hx2
          have hx1' : (xs ++ [⟨nm, vl⟩]) ++ (pairsX m T2 (!ok2)).1 = P.1 := by rw [List.append_assoc]; exact hx1
          have Hx2 := Lib.hid (And.intro hx1' hx2)
          have HRT := Lib.hid (show T2 ≠ [] → L ≠ [] from fun _ => hx3 (List.length_pos_iff.1 hT0))
          have Hmt := Lib.hid (show T2.length < m by omega)
          have Hl2 := Lib.hid hl2.2
          have hxs : 2 * xs.length + 1 ≤ L.length := by omega
          have hnb : nm.toList.isEmpty = false := by
            cases e : nm.toList.isEmpty with
            | false => rfl
            | true => exact absurd (str_empty.1 e) hn
          clear hnm hvl hok2 hT2 hml hl2 hstep hx1 hx2 hx1' hx3 hR hRl hok Hx Ht1 hm
          go_wp2_with fail
          refine Hs2.out.mono ?_
          rintro e w2 ⟨rfl, hs3, hT2⟩
          have hz2 := hT2.size
          have HS3 := Lib.hid (And.intro hs3 ((HT.out.trans HT1.out).trans hT2))
          have ho2 := Ho1.out.touch (S' := fun k => w.heap.size ≤ k) PrS.still hT2 (fun k hk => by have := (Hrow.out k hk).1; omega) (fun k _ hk _ => ⟨hk, fun e => by omega⟩)
          have hal : Below w2.heap.size w2 (w2.alloc (.cells #[.string nm, .string vl] 93)) := (Below.refl _ _).alloc (Nat.le_refl _) _
          have Ho2 := Lib.hid (ownPr_below ho2 hal)
          have Hnw : Hid (SliceS 2 PrS (fun k => w.heap.size ≤ k ∧ rowOf u4 ≠ some k) (w2.alloc (.cells #[.string nm, .string vl] 93)) [.slice (some ⟨w2.heap.size, 0, none⟩) 1 1] [⟨nm, vl⟩]) := Lib.hid
            (SliceS.new1 (S := fun k => w.heap.size ≤ k ∧ rowOf u4 ≠ some k) PrS.still w2 93 #[.string nm, .string vl] ⟨nm, vl⟩ rfl rfl (fun k _ h => h) ⟨by omega, fun e => by have := (Hrow.out _ e).2; omega⟩)
          have HA := Lib.hid hal
          have hwz : w.heap.size ≤ (w2.alloc (.cells #[.string nm, .string vl] 93)).heap.size := by simp; omega
          have hxr : xs.length + 1 ≤ 1000000 := by omega
          clear hs3 hT2 ho2 hal hc1 Ho1
          go_wp2_with (at_builtin; refine step_appendPr _ rfl (.tmp 22) (.tmp 27) rfl w.heap.size u4 xs rfl Ho2.out (some ⟨w2.heap.size, 0, none⟩) 1 1 [⟨nm, vl⟩] rfl Hnw.out (by simpa using hxr) hwz ?_; intro v5 w5 ho5 hg5 hn5; have Ho5 := Lib.hid ho5; have HT5 := Lib.hid ((HS3.out.2.trans (Touch.of_below HA.out)).then (Touch.of_row hg5) (fun i hi e => by have := (Hrow.out i e.symm).1; omega)); have HS5 := Lib.hid ((HS3.out.1.touch (Touch.of_below (p := fun _ => False) HA.out) (fun e => e) (fun _ e => e)).touch (Touch.of_row hg5) (fun e => by have := (Hrow.out _ e.symm).1; omega) (fun hne e => by have := (Hrow.out _ e.symm).1; have := Hg.out (HRT.out hne); omega)); clear ho5 hg5 hn5)
          go_roundw
          case rel => exact ⟨m, _, _, xs ++ [⟨nm, vl⟩], Hmt.out, by rw [List.length_append]; exact Hl2.out, HRT.out, Hx2.out.1, Hx2.out.2, Ho5.out, HS5.out, HT5.out⟩
          case measure =>
            obtain ⟨p5, c5, e5, _⟩ := Ho5.out.slice PrS.still (S' := fun _ => True) (fun _ _ _ => trivial) (fun _ _ => trivial)
            rw [e5, Hlen.out]
            simp [lenP]
            omega

end Go.Proofs.YtacnmdlefonjmaaGreat

