/-
  The contracts of event.Code and of the document's (layer 42).
-/
import Derived.Test.YtpdkoijgemgaiaaEvA
namespace Go.Proofs.Ytpdkoijgemgaiaa
open Go.RowKit

def u8 (k : Int) : UInt8 := UInt8.ofNat k.toNat
theorem u8_val {k : Int} (h : 0 ≤ k ∧ k < 256) : ((u8 k).toNat : Int) = k := byte_ofNat h

def headL (k o n m : Int) : List UInt8 := putV (putV [u8 k, u8 o] n 4) m 2
/-- An event's bytes. -/
def codeL (x : EvV) : List UInt8 := if evOk x.kind x.who x.n x.bytes.length then headL x.kind x.who x.n x.bytes.length ++ x.bytes else []

theorem putV_len (l : List UInt8) (n size : Int) : (putV l n size).length ≤ l.length + 4 := by
  unfold putV
  split
  · rename_i h
    have hs : sizedB size = true := by unfold rightB at h; simp at h; exact h.1
    rw [List.length_append, putB_length]
    rcases sizedB_cases hs with rfl | rfl | rfl <;> simp
  · simp

/-- An event in a block, and its bytes. -/
structure EvW (w0 w : World) (g : Nat) (x : EvV) (p : Option Addr) (c : Nat) : Prop where
  blk : Blk w g 85 #[.int .i64 x.kind, .int .i64 x.who, .int .i64 x.n, .slice p x.bytes.length c]
  inn : BytesIn w p x.bytes
  bel : Below w0.heap.size w0 w

theorem EvW.step {w0 w w' : World} {g : Nat} {x : EvV} {p : Option Addr} {c : Nat} (h : EvW w0 w g x p c) (hb : Below w.heap.size w w') : EvW w0 w' g x p c :=
  ⟨h.blk.below hb h.blk.lt, h.inn.below hb, h.bel.trans (hb.mono h.bel.size)⟩
theorem EvW.alloc {w0 w : World} {g : Nat} {x : EvV} {p : Option Addr} {c : Nat} (h : EvW w0 w g x p c) (o : Obj) : EvW w0 (w.alloc o) g x p c := h.step ((Below.refl _ _).alloc (Nat.le_refl _) _)
theorem below_drewOn {B : Nat} {w0 w : World} (h : Below B w0 w) (hB : B ≤ w.heap.size) : Below B w0 w.drew := h.trans (((Touch.refl (fun _ => False) w).drew).below hB (fun _ e => e.elim))
theorem below_ofDrew {w w' : World} (h : Below w.drew.heap.size w.drew w') : Below w.heap.size w w' := (below_drewOn (B := w.heap.size) (Below.refl _ w) (Nat.le_refl _)).trans h
theorem EvW.drew {w0 w : World} {g : Nat} {x : EvV} {p : Option Addr} {c : Nat} (h : EvW w0 w g x p c) : EvW w0 w.drew g x p c := ⟨h.blk.drew, h.inn.drewN 1, below_drewOn h.bel h.bel.size⟩
theorem EvW.box {w : World} {x : EvV} {p : Option Addr} {c : Nat} (h : BytesIn w p x.bytes) : EvW w (w.alloc (.cells #[.int .i64 x.kind, .int .i64 x.who, .int .i64 x.n, .slice p x.bytes.length c] 85)) w.heap.size x p c :=
  ⟨Blk.new _ _ _, h.alloc _, (Below.refl _ _).alloc (Nat.le_refl _) _⟩

theorem BytesIn.new2 (w : World) (c d : UInt8) (X Y : Int) (e : TypeId) (h : (c.toNat : Int) = X) (h' : (d.toNat : Int) = Y) : BytesIn (w.alloc (.cells #[.int .u8 X, .int .u8 Y] e)) (some ⟨w.heap.size, 0, none⟩) [c, d] := by
  subst h h'
  exact BytesIn.newB w [c, d] _ e rfl

theorem SliceS.new2B {w : World} {e : TypeId} {S S' : Nat → Prop} {p q : Option Addr} {n m c d : Nat} {k l : List UInt8} (h1 : BytesS S w [.slice p n c] k) (h2 : BytesS S w [.slice q m d] l) (hS : ∀ k, k < w.heap.size → S k → S' k) (hn : S' w.heap.size) :
    SliceS 1 BytesS S' (w.alloc (.cells #[.slice p n c, .slice q m d] e)) [.slice (some ⟨w.heap.size, 0, none⟩) 2 2] [k, l] := by
  have hk : Kept S S' w (w.alloc (.cells #[.slice p n c, .slice q m d] e)) := fun k hk hs => ⟨hS k hk hs, Below.heap_alloc w _ k hk⟩
  refine ⟨_, _, [[.slice p n c], [.slice q m d]], rfl, Nat.le_refl _, by simp [maxLen], fun j u hu => ⟨_, _, rfl, hn, ?_⟩, ⟨⟨rfl, BytesS.still _ _ _ _ _ _ h1 hk⟩, ⟨rfl, BytesS.still _ _ _ _ _ _ h2 hk⟩, trivial⟩⟩
  rw [Nat.zero_add, World.cell?_alloc_new]
  simpa using hu

set_option maxHeartbeats 1000000 in
theorem evCode_any (x : EvV) (p : Option Addr) (c : Nat) (w : World) (hx : BytesIn w p x.bytes) (hl : x.bytes.length ≤ c) (hc : c ≤ maxLen) :
    Calls Try.prog 59 #[evArg x p c] w fun e w' => ∃ v, e = .returned v ∧ OwnBR w.heap.size w' v (codeL x) ∧ Below w.heap.size w w' := by
  have hbox := EvW.box (c := c) hx
  obtain ⟨k, o, n, l⟩ := x
  unfold evArg
  dsimp only at *
  have Hbox := Lib.hid hbox
  clear hbox
  by_cases hok : evOk k o n l.length = true
  · obtain ⟨h1, h2, h3, h4, h5, h6, h7⟩ := evOk_true hok
    have Hok := Lib.hid hok
    have Hcode : Hid (headL k o n l.length ++ l = codeL ⟨k, o, n, l⟩) := Lib.hid (by unfold codeL; rw [if_pos hok])
    have hk8 := u8_val (k := k) (by omega)
    have ho8 := u8_val (k := o) (by omega)
    have Hk8 := Lib.hid hk8
    have Ho8 := Lib.hid ho8
    clear hok hk8 ho8
    go_enter Try.func59, Try.ntmps59
    go_wp2_with fail
    generalize w.alloc (.cells #[.int .i64 k, .int .i64 o, .int .i64 n, .slice p l.length c] 85) = w1 at *
    refine (evCheck_any _ _ _ _ _ _ _).mono ?_
    rintro e w2 ⟨rfl, hb2⟩
    rw [Hok.out]
    have H2 := Lib.hid (Hbox.out.step hb2)
    have hlt2 := H2.out.blk.lt
    have hc2 := H2.out.blk.cell
    dsimp only at hc2
    clear hb2
    go_wp2_with fail
    have H3 := Lib.hid (H2.out.alloc (.cells #[.int .u8 k, .int .u8 o] 5))
    have Hin3 := Lib.hid (BytesIn.new2 w2 _ _ _ _ 5 Hk8.out Ho8.out)
    generalize w2.alloc (.cells #[.int .u8 k, .int .u8 o] 5) = w3 at *
    refine (put_any (some ⟨w2.heap.size, 0, none⟩) [u8 k, u8 o] 2 n 4 w3 (by simp) Hin3.out).mono ?_
    rintro e w4 ⟨v4, rfl, ho4, hb4⟩
    have H4 := Lib.hid (H3.out.step hb4)
    have hlt4 := H4.out.blk.lt
    have hc4 := H4.out.blk.cell
    dsimp only at hc4
    have hpl := putV_len [u8 k, u8 o] n 4
    simp only [List.length_cons, List.length_nil] at hpl
    obtain ⟨p4, c4, rfl, _, _, hin4⟩ := ho4.slice
    have Hin4 := Lib.hid hin4
    generalize hl4 : putV [u8 k, u8 o] n 4 = l4 at *
    have Hl4 := Lib.hid hl4
    clear hb4 ho4 hin4 hl4 hc2
    go_wp2_with fail
    refine (put_any p4 l4 c4 l.length 2 w4 (by omega) Hin4.out).mono ?_
    rintro e w5 ⟨v5, rfl, ho5, hb5⟩
    have H5 := Lib.hid (H4.out.step hb5)
    have hlt5 := H5.out.blk.lt
    have hc5 := H5.out.blk.cell
    dsimp only at hc5
    have hpl5 := putV_len l4 l.length 2
    obtain ⟨p5, c5, rfl, h51, h52, hin5⟩ := ho5.slice
    have Hin5 := Lib.hid (BytesS.of (S := fun _ => True) h51 h52 hin5 (fun _ _ _ => trivial))
    have Hh : Hid (headL k o n l.length = putV l4 l.length 2) := Lib.hid (by unfold headL; rw [Hl4.out])
    generalize putV l4 l.length 2 = l5 at *
    clear hb5 ho5 hin5 hc4
    go_wp2_with fail
    have Hsl := Lib.hid (SliceS.new2B (e := 24) (S' := fun _ => True) Hin5.out (BytesS.of (S := fun _ => True) hl hc H5.out.inn (fun _ _ _ => trivial)) (fun _ _ _ => trivial) trivial)
    have H6 := Lib.hid (H5.out.alloc (.cells #[.slice p5 l5.length c5, .slice p l.length c] 24))
    generalize w5.alloc (.cells #[.slice p5 l5.length c5, .slice p l.length c] 24) = w6 at *
    refine (concat_any _ _ _ _ _ _ Hsl.out (by simp; omega)).mono ?_
    rintro e w7 ⟨v7, rfl, ho7, hb7⟩
    have H7 := Lib.hid (H6.out.step hb7)
    obtain ⟨p7, c7, rfl, _⟩ := ho7.slice
    have Ho7 := Lib.hid ho7
    clear ho7 hb7
    go_wp2
    go_ret
    refine ⟨_, rfl, ?_, H7.out.bel⟩
    rw [← Hcode.out, Hh.out]
    have h8 := H6.out.bel.size
    have := OwnR.base Ho7.out h8
    simpa [OwnBR] using this
  · have hok' : evOk k o n l.length = false := by simpa using hok
    have Hok := Lib.hid hok'
    have Hcode : Hid (codeL ⟨k, o, n, l⟩ = []) := Lib.hid (by unfold codeL; rw [if_neg hok])
    clear hok hok'
    go_enter Try.func59, Try.ntmps59
    go_wp2_with fail
    generalize w.alloc (.cells #[.int .i64 k, .int .i64 o, .int .i64 n, .slice p l.length c] 85) = w1 at *
    refine (evCheck_any _ _ _ _ _ _ _).mono ?_
    rintro e w2 ⟨rfl, hb2⟩
    rw [Hok.out]
    have H2 := Lib.hid (Hbox.out.step hb2)
    clear hb2
    go_wp2
    go_ret
    exact ⟨_, rfl, by rw [Hcode.out]; exact OwnBR.empty _ _ _, H2.out.bel⟩

set_option maxRecDepth 100000 in
set_option maxHeartbeats 1000000 in
theorem evCodeR_any (x : EvV) (p : Option Addr) (c : Nat) (w : World) (hx : BytesIn w p x.bytes) :
    Calls Try.prog 60 #[evArg x p c] w fun e w' => ∃ v, e = .returned v ∧ OwnBR w.heap.size w' v (codeL x) ∧ Below w.heap.size w w' := by
  have hbox := EvW.box (c := c) hx
  obtain ⟨k, o, n, l⟩ := x
  unfold evArg
  dsimp only at *
  have Hbox := Lib.hid hbox
  clear hbox
  by_cases hok : evOk k o n l.length = true
  · obtain ⟨h1, h2, h3, h4, h5, h6, h7⟩ := evOk_true hok
    have Hok := Lib.hid hok
    have Hcode : Hid (headL k o n l.length ++ l = codeL ⟨k, o, n, l⟩) := Lib.hid (by unfold codeL; rw [if_pos hok])
    have hk8 := u8_val (k := k) (by omega)
    have ho8 := u8_val (k := o) (by omega)
    have Hk8 := Lib.hid hk8
    have Ho8 := Lib.hid ho8
    clear hok hk8 ho8
    go_enter Try.func60, Try.ntmps60
    go_wp2_with fail
    generalize w.alloc (.cells #[.int .i64 k, .int .i64 o, .int .i64 n, .slice p l.length c] 85) = w1 at *
    refine (evCheckR_any _ _ _ _ _ _ _).mono ?_
    rintro e w2 ⟨rfl, hb2⟩
    rw [Hok.out]
    have H2 := Lib.hid (Hbox.out.step hb2)
    have hlt2 := H2.out.blk.lt
    have hc2 := H2.out.blk.cell
    dsimp only at hc2
    clear hb2
    go_wp2_with fail
    have H3 := Lib.hid (H2.out.alloc (.cells #[.int .u8 k, .int .u8 o] 5))
    have Hin3 := Lib.hid (BytesIn.new2 w2 _ _ _ _ 5 Hk8.out Ho8.out)
    generalize w2.alloc (.cells #[.int .u8 k, .int .u8 o] 5) = w3 at *
    refine (putR_any (some ⟨w2.heap.size, 0, none⟩) [u8 k, u8 o] 2 n 4 w3 (by simp) Hin3.out).mono ?_
    rintro e w4 ⟨v4, rfl, ho4, hb4⟩
    have H4 := Lib.hid (H3.out.step hb4)
    have hlt4 := H4.out.blk.lt
    have hc4 := H4.out.blk.cell
    dsimp only at hc4
    have hpl := putV_len [u8 k, u8 o] n 4
    simp only [List.length_cons, List.length_nil] at hpl
    obtain ⟨p4, c4, rfl, _, _, hin4⟩ := ho4.slice
    have Hin4 := Lib.hid hin4
    generalize hl4 : putV [u8 k, u8 o] n 4 = l4 at *
    have Hl4 := Lib.hid hl4
    have hs4 := H4.out.bel.size
    clear hb4 ho4 hin4 hl4 hc2
    go_wp2_with fail
    go_region_held3 (fun w' => ∀ i, w'.cell? ⟨w.heap.size, i, none⟩ = (#[.int .i64 k, .int .i64 o, .int .i64 n, .slice p l.length c] : Array Value)[i]?)
      (first | exact hc4 | exact hc5 | exact hc6 | go_keep)
      (first
        | (go_at_call 85; refine (putR_any p4 l4 c4 l.length 2 _ (by omega) (Hin4.out.drewN 1)).mono ?_; rintro e w5 ⟨v5, rfl, ho5, hb5⟩; have H5 : Hid (EvW w w5 _ _ _ _) := Lib.hid (H4.out.drew.step hb5); have hc5 : ∀ i, w5.cell? ⟨w.heap.size, i, none⟩ = (#[.int .i64 k, .int .i64 o, .int .i64 n, .slice p l.length c] : Array Value)[i]? := H5.out.blk.cell; have hpl5 := putV_len l4 l.length 2; have Ho5 : Hid (OwnBR w4.heap.size w5 v5 (putV l4 l.length 2)) := Lib.hid (OwnBR.of ho5); have hs5 : w4.heap.size ≤ w5.heap.size := hb5.size; clear hb5 ho5)
        | (refine rgn_appendBR rfl (.tmp 21) (.tmp 23) rfl w4.heap.size _ _ rfl Ho5.out _ l _ _ rfl rfl H5.out.inn (by omega) hs5 ?_; intro v6 w6 ho6 hg6 _; have hc6 : ∀ i, w6.cell? ⟨w.heap.size, i, none⟩ = (#[.int .i64 k, .int .i64 o, .int .i64 n, .slice p l.length c] : Array Value)[i]? := (H5.out.blk.grown hg6 (fun e => by have := (Ho5.out.row _ e.symm).1; omega)).cell))
    go_wp2
    go_ret
    have hw : Below w.heap.size w w6 := H5.out.bel.trans (Below.of_row hg6 H5.out.bel.size (fun k hk => by have := (Ho5.out.row k hk).1; omega))
    refine ⟨_, rfl, ?_, hw⟩
    have hh : headL k o n l.length = putV l4 l.length 2 := by unfold headL; rw [Hl4.out]
    rw [← Hcode.out, hh]
    exact OwnR.base ho6 hs4
  · have hok' : evOk k o n l.length = false := by simpa using hok
    have Hok := Lib.hid hok'
    have Hcode : Hid (codeL ⟨k, o, n, l⟩ = []) := Lib.hid (by unfold codeL; rw [if_neg hok])
    clear hok hok'
    go_enter Try.func60, Try.ntmps60
    go_wp2_with fail
    generalize w.alloc (.cells #[.int .i64 k, .int .i64 o, .int .i64 n, .slice p l.length c] 85) = w1 at *
    refine (evCheckR_any _ _ _ _ _ _ _).mono ?_
    rintro e w2 ⟨rfl, hb2⟩
    rw [Hok.out]
    have H2 := Lib.hid (Hbox.out.step hb2)
    clear hb2
    go_wp2
    go_ret
    exact ⟨_, rfl, by rw [Hcode.out]; exact OwnBR.empty _ _ _, H2.out.bel⟩

end Go.Proofs.Ytpdkoijgemgaiaa
