/-
  Ground (layer 38): what all say alike is made; Of.
-/
import Derived.Test.YthhebfknikfleaaGreatLzC
import Derived.Test.YthhebfknikfleaaGreatConcat
import Derived.Deep.RegionHeld3
namespace Go.Proofs.YthhebfknikfleaaGreat
open Go.RowKit
set_option linter.unusedVariables false
set_option linter.unusedSimpArgs false

/-- What all say alike. -/
def alikeL (l : List PaV) : List UInt8 := bytesB (baZero 82 :: l.map setV)
/-- What make leaves. -/
def MkR (w : World) (g : Nat) (l : List PaV) (pp : Option Addr) (cp : Nat) (w' : World) : Prop :=
  ∃ pa ca, Blk w' g 73 #[.slice pp l.length cp, .int .u32 0, .int .i32 1, .int .u32 0, (.slice pa (alikeL l).length ca), .int .i32 1, .bool true] ∧ BytesS (fun k => w.heap.size ≤ k) w' [.slice pa (alikeL l).length ca] (alikeL l) ∧ Touch (fun k => k = g) w w'

set_option maxRecDepth 100000 in
set_option maxHeartbeats 2000000 in
theorem lzMake (g : Nat) (l : List PaV) (pp : Option Addr) (cp : Nat) (w : World) (hb : Blk w g 73 #[.slice pp l.length cp, .int .u32 0, .int .i32 1, .int .u32 0, (.slice none 0 0), .int .i32 0, .bool true]) (hp : SliceS 2 PaS (fun k => k ≠ g) w [.slice pp l.length cp] l) (hs : NearP l) :
    Calls Tryz.prog 30 #[.pointer (some ⟨g, 0, none⟩)] w fun e w' => e = .returned (.tuple #[]) ∧ MkR w g l pp cp w' := by
  have hl40 := hs.1
  have Hsh := Lib.hid (greet_short 0 hs)
  have HB := Lib.hid (backs_any _ pp _ cp l 0 w hp (by omega))
  have HBl := Lib.hid hb
  have hlt := hb.lt
  have hc := hb.cell
  have HG : Hid ((greetV l 0).take (l.length + 1) = baZero 82 :: l.map setV) := Lib.hid (by
    unfold greetV
    rw [List.take_append_of_le_length (by simp)]
    exact List.take_of_length_le (by simp))
  have HY := Lib.hid (fun (w1 : World) p2 c2 (h : SliceS 11 BaS (fun k => w.heap.size ≤ k) w1 [.slice p2 (l.length + 3) c2] (greetV l 0)) => by
    have h1 := h.take' (l.length + 1) c2 (by rw [greet_len]; omega) (by have := h.len.2.1; rw [greet_len] at this; omega) h.len.2.2
    rw [HG.out] at h1
    exact bbytes_any _ p2 _ c2 _ w1 h1 (by simp; omega) (fun x hx => Hsh.out x (List.mem_of_mem_take (by rw [HG.out]; exact hx))))
  have e1 : IntKind.i64.wrap (((l.length + 3 : Nat) : Int) - 2) = ((l.length + 1 : Nat) : Int) := by rw [IntKind.wrap_i64]; omega
  unfold MkR alikeL
  generalize bytesB (baZero 82 :: l.map setV) = L at *
  generalize hN : l.length + 3 = N at *
  generalize hM : l.length + 1 = M at *
  generalize hK : l.length = K at *
  have f0 : (0 : Int) ≤ (M : Int) := by omega
  have e2 : (N : Int) - 2 = (M : Int) := by omega
  clear hb hp hs HG
  go_enter Tryz.func30, Tryz.ntmps30
  go_wp2_with fail
  refine HB.out.mono ?_
  rintro e w1 ⟨p2, c2, rfl, hs2, hb1⟩
  have Hs2 := Lib.hid hs2
  have hlc := hs2.len.2.1
  have hcm := hs2.len.2.2
  unfold maxLen at hcm
  have hnc : N ≤ c2 := by have := hs2.len.1; omega
  have hMc : (M : Int) ≤ (c2 : Int) := by omega
  have Hy := Lib.hid (HY.out w1 p2 c2 hs2)
  have HB1 := Lib.hid (HBl.out.below hb1 hlt)
  have HT1 : Hid (Touch (fun k => k = g) w w1) := Lib.hid (Touch.of_below hb1)
  have hz1 := hb1.size
  clear hs2 hb1 hc HB HBl HY Hs2
  go_wp2_with (first | (go_at_call 23; refine Hy.out.mono ?_; rintro e w2 ⟨v2, rfl, ho, hb2⟩; obtain ⟨pa, ca, hv2, k1, k2, k3, k4⟩ := ho.slice; subst hv2; have hz2 := hb2.size; have HB2 := Lib.hid (HB1.out.below hb2 HB1.out.lt); have HT2 := Lib.hid (HT1.out.trans (Touch.of_below hb2)); have Hq2 := Lib.hid (And.intro k1 (And.intro k2 (And.intro k3 k4))); have hc2 := HB2.out.cell; have hf2 := HB2.out.frozen; clear ho hb2 k1 k2 k3 k4 HB1 HT1))
  have HB3 := HB2.out.set_ 4 (.slice pa L.length ca)
  refine (lzAdd ⟨g, 5, none⟩ _ (HB3.cell 5) (HB3.frozen 5)).mono ?_
  rintro e w3 ⟨rfl, rfl⟩
  go_wp2
  go_end0
  have hT3 : Touch (fun k => k = g) w2 ((w2.setCell ⟨g, 4, none⟩ (.slice pa L.length ca)).setCell ⟨g, 5, none⟩ (.int .i32 1)) := ((Touch.refl (fun k => k = g) w2).setCell (x := ⟨g, 4, none⟩) (fun _ => rfl) _).setCell (x := ⟨g, 5, none⟩) (fun _ => rfl) _
  refine ⟨rfl, pa, ca, ?_, ⟨pa, ca, rfl, Hq2.out.1, Hq2.out.2.1, hT3.bytesIn Hq2.out.2.2.1 (fun hne x hx e => ?_), fun hne x hx => ?_⟩, HT2.out.trans hT3⟩
  · have := (HB2.out.set_ 4 (.slice pa L.length ca)).set_ 5 (.int .i32 1)
    simpa using this
  · have := (Hq2.out.2.2.2 hne x hx).2; omega
  · have := (Hq2.out.2.2.2 hne x hx).2; omega

/-- A Greets whose alike part is made. -/
structure LzM (w0 w : World) (g : Nat) (l : List PaV) (pp : Option Addr) (cp : Nat) (pa : Option Addr) (ca : Nat) : Prop where
  hg : w0.heap.size ≤ g
  b : Blk w g 73 #[.slice pp l.length cp, .int .u32 1, .int .i32 0, .int .u32 0, (.slice pa (alikeL l).length ca), .int .i32 1, .bool true]
  y : BytesS (fun k => k ≠ g) w [.slice pa (alikeL l).length ca] (alikeL l)
  p : SliceS 2 PaS (fun k => k ≠ g) w [.slice pp l.length cp] l
  bel : Below w0.heap.size w0 w
theorem LzM.step {w0 w w' : World} {g : Nat} {l : List PaV} {pp : Option Addr} {cp : Nat} {pa : Option Addr} {ca : Nat} (h : LzM w0 w g l pp cp pa ca) (hb : Below w.heap.size w w') : LzM w0 w' g l pp cp pa ca :=
  ⟨h.hg, h.b.below hb h.b.lt, BytesS.still _ _ _ _ _ _ h.y (Kept.all hb), h.p.below PaS.still hb, h.bel.trans (hb.mono h.bel.size)⟩

/-- Two pieces of bytes in a new block. -/
theorem slice2By (w : World) (e : TypeId) (pa pk : Option Addr) (ca dk : Nat) (A K : List UInt8) (hA : BytesIn w pa A) (h1 : A.length ≤ ca) (h2 : ca ≤ maxLen) (hK : BytesIn w pk K) (h3 : K.length ≤ dk) (h4 : dk ≤ maxLen) :
    SliceS 1 BytesS (fun _ => True) (w.alloc (.cells #[.slice pa A.length ca, .slice pk K.length dk] e)) [.slice (some ⟨w.heap.size, 0, none⟩) 2 2] [A, K] := by
  refine ⟨_, _, [[.slice pa A.length ca], [.slice pk K.length dk]], rfl, Nat.le_refl _, by simp [maxLen], fun j u hu => ⟨_, _, rfl, trivial, ?_⟩, ⟨rfl, ⟨pa, ca, rfl, h1, h2, hA.alloc _, fun _ _ _ => trivial⟩⟩, ⟨rfl, ⟨pk, dk, rfl, h3, h4, hK.alloc _, fun _ _ _ => trivial⟩⟩, trivial⟩
  rw [Nat.zero_add, World.cell?_alloc_new]
  simpa using hu

theorem lzYin {S : Nat → Prop} {w : World} {p : Option Addr} {c : Nat} {l : List UInt8} (h : BytesS S w [.slice p l.length c] l) : BytesIn w p l ∧ l.length ≤ c ∧ c ≤ maxLen := by
  obtain ⟨p', c', e, h1, h2, h3, _⟩ := h
  simp only [List.cons.injEq, Value.slice.injEq, and_true] at e
  obtain ⟨rfl, -, rfl⟩ := e
  exact ⟨h3, h1, h2⟩
/-- What Of answers, made. -/
def OfR (w0 : World) (g : Nat) (l : List PaV) (pp : Option Addr) (cp : Nat) (id : Int) (e : Ending) (w' : World) : Prop :=
  ∃ p d pa ca, e = .returned (.slice p (alikeL l ++ bytesB [keyB id, idleB]).length d) ∧ BytesIn w' p (alikeL l ++ bytesB [keyB id, idleB]) ∧ LzM w0 w' g l pp cp pa ca

/-- Do leaves it made. -/
theorem lzDo_any (w0 w : World) (g : Nat) (l : List PaV) (pp : Option Addr) (cp : Nat) (h : LzO w0 w g l pp cp 0 (.slice none 0 0)) (hs : NearP l) :
    Calls Tryz.prog 29 #[.pointer (some ⟨g, 1, none⟩), .func (.func 30) #[.pointer (some ⟨g, 0, none⟩)] #[]] w fun e w' => e = .returned (.tuple #[]) ∧ ∃ pa ca, LzM w0 w' g l pp cp pa ca := by
  have hb1 : Blk (w.setCell ⟨g, 2, none⟩ (.int .i32 1)) g 73 #[.slice pp l.length cp, .int .u32 0, .int .i32 1, .int .u32 0, (.slice none 0 0), .int .i32 0, .bool true] := by
    have := h.b.set_ 2 (.int .i32 1)
    simpa using this
  have hT1 : Touch (fun k => k = g) w (w.setCell ⟨g, 2, none⟩ (.int .i32 1)) := (Touch.refl (fun k => k = g) w).setCell (x := ⟨g, 2, none⟩) (fun _ => rfl) _
  have hp1 : SliceS 2 PaS (fun k => k ≠ g) (w.setCell ⟨g, 2, none⟩ (.int .i32 1)) [.slice pp l.length cp] l := (SliceS.still PaS.still) _ _ _ _ _ _ h.p (Kept.touch hT1 (fun k hk hs => ⟨hs, hs⟩))
  refine (lzDo_first g (MkR (w.setCell ⟨g, 2, none⟩ (.int .i32 1)) g l pp cp) w (h.b.cell 1) (h.b.cell 2) (h.b.frozen 2) ((lzMake g l pp cp _ hb1 hp1 hs).mono ?_)).mono ?_
  · rintro e w' ⟨rfl, pa, ca, hb, hy, hT⟩
    exact ⟨rfl, ⟨pa, ca, hb, hy, hT⟩, hb.cell 1, hb.cell 2, hb.frozen 1, hb.frozen 2⟩
  · rintro e w' ⟨rfl, w2, ⟨pa, ca, hb, hy, hT⟩, rfl⟩
    have hlt := h.b.lt
    have hg := h.hg
    have hz : (w.setCell ⟨g, 2, none⟩ (.int .i32 1)).heap.size = w.heap.size := by simp
    have hT3 : Touch (fun k => k = g) w2 ((w2.drew.setCell ⟨g, 1, none⟩ (.int .u32 1)).setCell ⟨g, 2, none⟩ (.int .i32 0)) := (((Touch.refl (fun k => k = g) w2).drew).setCell (x := ⟨g, 1, none⟩) (fun _ => rfl) _).setCell (x := ⟨g, 2, none⟩) (fun _ => rfl) _
    have hb3 : Blk ((w2.drew.setCell ⟨g, 1, none⟩ (.int .u32 1)).setCell ⟨g, 2, none⟩ (.int .i32 0)) g 73 #[.slice pp l.length cp, .int .u32 1, .int .i32 0, .int .u32 0, (.slice pa (alikeL l).length ca), .int .i32 1, .bool true] := by
      have := ((hb.drew).set_ 1 (.int .u32 1)).set_ 2 (.int .i32 0)
      simpa using this
    have hTT := (hT1.trans hT).trans hT3
    refine ⟨rfl, pa, ca, hg, hb3, BytesS.still _ _ _ _ _ _ hy (Kept.touch hT3 (fun k hk hs => ?_)), (SliceS.still PaS.still) _ _ _ _ _ _ h.p (Kept.touch hTT (fun k hk hs => ⟨hs, hs⟩)), h.bel.trans (hTT.below h.bel.size (fun k e => by omega))⟩
    have hs' : (w.setCell ⟨g, 2, none⟩ (.int .i32 1)).heap.size ≤ k := hs
    exact ⟨by omega, by omega⟩

set_option maxRecDepth 100000 in
set_option maxHeartbeats 2000000 in
theorem lzOf_any (w0 w : World) (g : Nat) (l : List PaV) (pp : Option Addr) (cp : Nat) (id : Int) (hs : NearP l) (hsl : (alikeL l).length ≤ 100000000) (hsk : (bytesB [keyB id, idleB]).length ≤ 100000000)
    (h : LzO w0 w g l pp cp 0 (.slice none 0 0) ∨ ∃ pa ca, LzM w0 w g l pp cp pa ca) :
    Calls Tryz.prog 11 #[.pointer (some ⟨g, 0, none⟩), .int .i64 id] w (OfR w0 g l pp cp id) := by
  have hc6 : w.cell? ⟨g, 6, none⟩ = some (.bool true) := by
    rcases h with h | ⟨pa, ca, h⟩
    · exact h.b.cell 6
    · exact h.b.cell 6
  have HDo : Hid (Calls Tryz.prog 29 #[.pointer (some ⟨g, 1, none⟩), .func (.func 30) #[.pointer (some ⟨g, 0, none⟩)] #[]] w fun e w' => e = .returned (.tuple #[]) ∧ ∃ pa ca, LzM w0 w' g l pp cp pa ca) := Lib.hid (by
    rcases h with h | ⟨pa, ca, h⟩
    · exact lzDo_any w0 w g l pp cp h hs
    · refine (lzDo_done g _ w (h.b.cell 1)).mono ?_
      rintro e w' ⟨rfl, rfl⟩
      exact ⟨rfl, pa, ca, h⟩)
  have HKy := Lib.hid (fun w1 => lzKeys_any id w1)
  have Hsl := Lib.hid hsl
  have Hsk := Lib.hid hsk
  unfold OfR
  generalize bytesB [keyB id, idleB] = K at *
  clear h hs hsl hsk
  go_enter Tryz.func11, Tryz.ntmps11
  go_upto_region 4 with (go_at_call 29; refine HDo.out.mono ?_; rintro e w1 ⟨rfl, pa, ca, hm⟩; have H1 := Lib.hid hm; clear hm HDo)
  have hc1 : ∀ i, w1.cell? ⟨g, i, none⟩ = (#[.slice pp l.length cp, .int .u32 1, .int .i32 0, .int .u32 0, (.slice pa (alikeL l).length ca), .int .i32 1, .bool true] : Array Value)[i]? := H1.out.b.cell
  have H1d : Hid (LzM w0 (w1.drewN 1) g l pp cp pa ca) := Lib.hid (H1.out.step (((Touch.refl (fun _ => False) w1).drewN 1).below (Nat.le_refl _) (fun _ e => e.elim)))
  clear hc6
  go_region_held3 (fun w' => ∀ i, w'.cell? ⟨g, i, none⟩ = (#[.slice pp l.length cp, .int .u32 1, .int .i32 0, .int .u32 0, (.slice pa (alikeL l).length ca), .int .i32 1, .bool true] : Array Value)[i]?)
    (first | exact hc1 | exact H2.out.b.cell | exact (H2.out.step ((Below.refl _ _).alloc (Nat.le_refl _) _)).b.cell | exact H4.out.b.cell | go_keep)
    (first
      | (go_at_call 32; refine (HKy.out _).mono ?_; rintro e w2 ⟨pk, dk, rfl, ⟨hk1, hk2, hk3⟩, hb⟩; have H2 := Lib.hid (H1d.out.step hb); have HK2 := Lib.hid (And.intro hk1 (And.intro hk2 hk3)); clear hb hk1 hk2 hk3)
      | (go_at_call 31; refine (concat_any _ _ _ [alikeL l, K] (fun _ => True) _ (slice2By w2 25 pa pk ca dk (alikeL l) K (lzYin H2.out.y).1 (lzYin H2.out.y).2.1 (lzYin H2.out.y).2.2 HK2.out.1 HK2.out.2.1 HK2.out.2.2) (by have := Hsl.out; have := Hsk.out; simp; omega)).mono ?_; rintro e w4 ⟨v4, rfl, ho, hb⟩; have H4 := Lib.hid ((H2.out.step ((Below.refl _ _).alloc (Nat.le_refl _) _)).step hb); obtain ⟨p4, d4, hv4, -, -, q4, -⟩ := ho.slice; subst hv4; have Hq4 := Lib.hid q4; clear ho hb q4))
  rw [show ([alikeL l, K] : List (List UInt8)).flatten = alikeL l ++ K by simp] at *
  go_wp2
  go_ret
  exact ⟨p4, d4, pa, ca, by rw [List.length_append]; rfl, Hq4.out, H4.out⟩

end Go.Proofs.YthhebfknikfleaaGreat
