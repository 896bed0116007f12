/-
  First messages (layer 5): the walks of HelloParses, HelloBuilds, HelloBack.
-/
import Derived.Test.YtjfhpafaopeogaaHeN
import Derived.Test.YtjfhpafaopeogaaBytesEqual
import Derived.Deep.RegionHeld3
namespace Go.Proofs.Ytjfhpafaopeogaa
open Go.RowKit
set_option linter.unusedVariables false
set_option linter.unusedSimpArgs false

theorem prsEq_self (L : List PrV) : listEq prEq L L = true := listEq_self prEq_self L
theorem helEq_self (h : HelV) : helEq h h = true := by simp [helEq, prsEq_self]

/-- One message in two blocks. -/
structure He2 (w0 w : World) (g1 g2 : Nat) (h : HelV) (p : Option Addr) (c : Nat) (q : Option Addr) (d : Nat) : Prop where
  b1 : Blk w g1 94 (helCells h p c)
  b2 : Blk w g2 94 (helCells h q d)
  s1 : SliceS 2 PrS (fun _ => True) w [.slice p h.params.length c] h.params
  s2 : SliceS 2 PrS (fun _ => True) w [.slice q h.params.length d] h.params
  bel : Below w0.heap.size w0 w
section
variable {w0 w w' : World} {g1 g2 : Nat} {h : HelV} {p : Option Addr} {c : Nat} {q : Option Addr} {d : Nat}
theorem He2.step (H : He2 w0 w g1 g2 h p c q d) (hb : Below w.heap.size w w') : He2 w0 w' g1 g2 h p c q d :=
  ⟨H.b1.below hb H.b1.lt, H.b2.below hb H.b2.lt, H.s1.below PrS.still hb, H.s2.below PrS.still hb, H.bel.trans (hb.mono H.bel.size)⟩
theorem bel_draw1 (w : World) : Below w.heap.size w (w.drewN 1) := ((Touch.refl (fun _ => False) w).drewN 1).below (Nat.le_refl _) (fun _ e => e.elim)
theorem He2.drew (H : He2 w0 w g1 g2 h p c q d) : He2 w0 (w.drewN 1) g1 g2 h p c q d := H.step (bel_draw1 w)
theorem He2.cells (H : He2 w0 w g1 g2 h p c q d) : (∀ i, w.cell? ⟨g1, i, none⟩ = (helCells h p c)[i]?) ∧ (∀ i, w.cell? ⟨g2, i, none⟩ = (helCells h q d)[i]?) := ⟨H.b1.cell, H.b2.cell⟩
end

set_option maxRecDepth 100000 in
set_option maxHeartbeats 4000000 in
theorem helloParses_walk (p : Option Addr) (l : List UInt8) (c : Nat) (w : World) (hx : BytesS (fun k => k < w.heap.size) w [.slice p l.length c] l) :
    Calls Try.prog 11 #[.slice p l.length c] w fun e w' => e = .returned (.bool true) ∧ Below w.heap.size w w' := by
  obtain ⟨-, hlc, hcm, hin⟩ := hx.parts
  have Hin := Lib.hid hin
  unfold maxLen at hcm
  have Haw := Lib.hid (fun w0 => heAwake w0)
  clear hx hin
  by_cases hbig : 2000 < l.length
  · go_enter Try.func11, Try.ntmps11
    go_wp2_with fail
    refine (Haw.out _).mono ?_
    rintro e w1 ⟨rfl, hb1⟩
    have Hb1 := Lib.hid hb1
    clear hb1
    go_wp2
    go_ret
    exact ⟨rfl, Hb1.out⟩
  · have hl : l.length ≤ 100000 := by omega
    have Hp1 := Lib.hid (parse_any p l c w hl Hin.out)
    have Hp2 := Lib.hid (fun w1 hb => rparse_any p l c w1 hl hb)
    unfold ParseR at Hp1 Hp2
    obtain ⟨x, er, hxr⟩ : ∃ x er, parseV l = (x, er) := ⟨_, _, rfl⟩
    rw [hxr] at Hp1 Hp2
    dsimp only at Hp1 Hp2
    clear hxr
    go_enter Try.func11, Try.ntmps11
    go_wp2_with fail
    refine Hp1.out.mono ?_
    rintro e w1 ⟨p1, c1, rfl, hs1, hb1⟩
    have hz1 := hb1.size
    have hal1 : Below w1.heap.size w1 (w1.alloc (.cells (helCells x p1 c1) 94)) := (Below.refl _ _).alloc (Nat.le_refl _) _
    have Hi1 := Lib.hid ((Hin.out.below hb1).below hal1)
    have Hs1 := Lib.hid (hs1.below PrS.still hal1)
    have HB1 := Lib.hid (hb1.trans (hal1.mono hz1))
    have hk1 := Blk.new w1 94 (helCells x p1 c1)
    have Hk1 := Lib.hid hk1
    have hg1 := hk1.lt
    clear hs1 hb1 hal1 hk1 Hp1
    obtain ⟨xc, xp, xs, xL⟩ := x
    unfold helArg at *
    unfold helCells at *
    dsimp only at *
    go_upto_region 4 with fail
    generalize w1.alloc (.cells #[.int .i64 xc, .int .i64 xp, .int .i64 xs, .slice p1 xL.length c1] 94) = wa at *
    generalize w1.heap.size = g1 at *
    go_wp2_with fail
    refine (Hp2.out _ Hi1.out).mono ?_
    rintro e w2 ⟨p2, c2, rfl, hs2, hb2⟩
    have hal2 : Below w2.heap.size w2 (w2.alloc (.cells #[.int .i64 xc, .int .i64 xp, .int .i64 xs, .slice p2 xL.length c2] 94)) := (Below.refl _ _).alloc (Nat.le_refl _) _
    have hab := hb2.trans (hal2.mono hb2.size)
    have H2 : Hid (He2 w (w2.alloc (.cells #[.int .i64 xc, .int .i64 xp, .int .i64 xs, .slice p2 xL.length c2] 94)) g1 w2.heap.size ⟨xc, xp, xs, xL⟩ p1 c1 p2 c2) := Lib.hid
      ⟨Hk1.out.below hab hg1, Blk.new _ _ _, (Hs1.out.below PrS.still hab).weak PrS.still (fun _ _ _ => trivial), (hs2.below PrS.still hal2).weak PrS.still (fun _ _ _ => trivial), HB1.out.trans (hab.mono HB1.out.size)⟩
    clear hs2 hb2 hal2 hab Hp2 Hs1 Hk1 Hi1 HB1
    go_upto_region 5 with fail
    generalize w2.alloc (.cells #[.int .i64 xc, .int .i64 xp, .int .i64 xs, .slice p2 xL.length c2] 94) = w3 at *
    generalize w2.heap.size = g2 at *
    have hS0 := H2.out.cells
    have H3 := Lib.hid H2.out.drew
    have Hsm := Lib.hid (helSame_any _ _ ⟨xc, xp, xs, xL⟩ ⟨xc, xp, xs, xL⟩ p1 p2 c1 c2 (w3.drewN 1) H3.out.s1 H3.out.s2)
    have Hu := Lib.hid (fun (w0 : World) hs => user_any (fun _ => True) ⟨xc, xp, xs, xL⟩ p1 c1 w0 hs)
    have Hv := Lib.hid (fun (w0 : World) hs => ruser_any (fun _ => True) ⟨xc, xp, xs, xL⟩ p2 c2 w0 hs)
    rw [helEq_self] at Hsm
    unfold helArg helCells at Hsm Hu Hv
    unfold helCells at hS0
    dsimp only at Hsm Hu Hv hS0
    obtain ⟨us, hus⟩ : ∃ us, userV xL = us := ⟨_, rfl⟩
    rw [hus] at Hu Hv
    clear hus
    go_region_held3 (fun w' => (∀ i, w'.cell? ⟨g1, i, none⟩ = (#[.int .i64 xc, .int .i64 xp, .int .i64 xs, .slice p1 xL.length c1] : Array Value)[i]?) ∧ (∀ i, w'.cell? ⟨g2, i, none⟩ = (#[.int .i64 xc, .int .i64 xp, .int .i64 xs, .slice p2 xL.length c2] : Array Value)[i]?))
      (first | exact hS0 | exact H4.out.cells | exact H5.out.cells | exact H6.out.cells | exact H7.out.cells | go_keep)
      (first
        | (go_at_call 49; refine Hsm.out.mono ?_; rintro e w4 ⟨rfl, hb⟩; have H4 := Lib.hid (H3.out.step hb); clear hb)
        | (go_at_call 50; refine (Hu.out _ H4.out.s1).mono ?_; rintro e w5 ⟨rfl, hb⟩; have H5 := Lib.hid (H4.out.step hb); clear hb)
        | (go_at_call 51; refine (Hv.out _ H5.out.s2).mono ?_; rintro e w6 ⟨rfl, hb⟩; have H6 := Lib.hid (H5.out.step hb); clear hb)
        | (go_at_call 46; refine (Haw.out _).mono ?_; rintro e w7 ⟨rfl, hb⟩; have H7 := Lib.hid (H6.out.step hb); clear hb))
    go_wp2
    go_ret
    exact ⟨rfl, H7.out.bel⟩

/-- One message in a block; the bytes of both. -/
structure HeB (w0 w : World) (g : Nat) (h : HelV) (p : Option Addr) (c : Nat) (p1 : Option Addr) (p2 : Option Addr) (B : List UInt8) : Prop where
  b : Blk w g 94 (helCells h p c)
  s : SliceS 2 PrS (fun _ => True) w [.slice p h.params.length c] h.params
  x : BytesIn w p1 B
  y : BytesIn w p2 B
  bel : Below w0.heap.size w0 w
section
variable {w0 w w' : World} {g : Nat} {h : HelV} {p : Option Addr} {c : Nat} {p1 p2 : Option Addr} {B : List UInt8}
theorem HeB.step (H : HeB w0 w g h p c p1 p2 B) (hb : Below w.heap.size w w') : HeB w0 w' g h p c p1 p2 B :=
  ⟨H.b.below hb H.b.lt, H.s.below PrS.still hb, H.x.below hb, H.y.below hb, H.bel.trans (hb.mono H.bel.size)⟩
theorem HeB.drew (H : HeB w0 w g h p c p1 p2 B) : HeB w0 (w.drewN 1) g h p c p1 p2 B := H.step (bel_draw1 w)
end

set_option maxRecDepth 100000 in
set_option maxHeartbeats 4000000 in
theorem helloBuilds_walk (h : HelV) (p : Option Addr) (c : Nat) (w : World) (hs : SliceS 2 PrS (fun k => k < w.heap.size) w [.slice p h.params.length c] h.params) :
    Calls Try.prog 12 #[helArg h p c] w fun e w' => e = .returned (.bool true) ∧ Below w.heap.size w w' := by
  obtain ⟨hb, hs1, hw⟩ := hel_box hs
  have Hw := Lib.hid hw
  have Hs1 := Lib.hid hs1
  have Hb := Lib.hid hb
  have Haw := Lib.hid (fun w0 => heAwake w0)
  have Hf := Lib.hid (fun (w0 : World) hs => few_any (fun k => k < w.heap.size) h p c w0 hs)
  have H1 := Lib.hid (fun (hf : FewH h.params) (w0 : World) hs => build_any (fun k => k < w.heap.size) h p c w0 hs hf.bytes.1)
  have H2 := Lib.hid (fun (hf : FewH h.params) (w0 : World) hs => rbuild_any (fun k => k < w.heap.size) h p c w0 hs hf.bytes.2 hf.bytes.1)
  have H3 := Lib.hid (fun (w0 : World) hs => user_any (fun _ => True) h p c w0 hs)
  have H4 := Lib.hid (fun (w0 : World) hs => ruser_any (fun _ => True) h p c w0 hs)
  unfold BuildR at H1 H2
  generalize userV h.params = us at *
  obtain ⟨B, er, hB⟩ : ∃ B er, buildV h = (B, er) := ⟨_, _, rfl⟩
  rw [hB] at H1 H2
  dsimp only at H1 H2
  obtain ⟨hc0, hc1, hc2, L⟩ := h
  unfold helArg at *
  unfold helCells at *
  dsimp only at *
  clear hs hs1 hb hw hB
  go_enter Try.func12, Try.ntmps12
  go_upto_region 1 with (fail)
  have hlt := Hb.out.lt
  generalize w.alloc (.cells #[.int .i64 hc0, .int .i64 hc1, .int .i64 hc2, .slice p L.length c] 94) = w1 at *
  have hc := Hb.out.cell
  go_wp2_with fail
  refine (Hf.out w1 Hs1.out).mono ?_
  rintro e w2 ⟨b, rfl, hfew, hb2⟩
  have hcw : ∀ i, w2.cell? ⟨w.heap.size, i, none⟩ = (#[.int .i64 hc0, .int .i64 hc1, .int .i64 hc2, .slice p L.length c] : Array Value)[i]? := (Hb.out.below hb2 hlt).cell
  have Hb2 := Lib.hid (Hb.out.below hb2 hlt)
  have Hs2 := Lib.hid (Hs1.out.below PrS.still hb2)
  have HW2 := Lib.hid (Hw.out.trans (hb2.mono Hw.out.size))
  have hz2 := hb2.size
  clear hc hb2
  cases b with
  | false =>
    clear hfew
    go_wp2_with fail
    refine (Haw.out _).mono ?_
    rintro e w3 ⟨rfl, hb3⟩
    have HW3 := Lib.hid (HW2.out.trans (hb3.mono HW2.out.size))
    clear hb3
    go_wp2
    go_ret
    exact ⟨rfl, HW3.out⟩
  | true =>
    have Hfew := Lib.hid (hfew rfl)
    clear hfew
    have Hc1 := Lib.hid (H1.out Hfew.out w2 Hs2.out)
    go_wp2_with fail
    refine Hc1.out.mono ?_
    rintro e w3 ⟨v3, rfl, ho3, hb3⟩
    obtain ⟨p3, c3, hv3, -, -, q3, -⟩ := OwnBR.slice ho3
    subst hv3
    have Hq3 := Lib.hid q3
    have hz3 := hb3.size
    have Hb3 := Lib.hid (Hb2.out.below hb3 (by omega))
    have hcw3 : ∀ i, w3.cell? ⟨w.heap.size, i, none⟩ = (#[.int .i64 hc0, .int .i64 hc1, .int .i64 hc2, .slice p L.length c] : Array Value)[i]? := Hb3.out.cell
    have Hs3 := Lib.hid (Hs2.out.below PrS.still hb3)
    have HW3 := Lib.hid (HW2.out.trans (hb3.mono HW2.out.size))
    have Hc2 := Lib.hid (H2.out Hfew.out w3 Hs3.out)
    clear ho3 q3 hb3 hcw Hb2
    go_wp2_with fail
    refine Hc2.out.mono ?_
    rintro e w4 ⟨v4, rfl, ho4, hb4⟩
    obtain ⟨p4, c4, hv4, -, -, q4, -⟩ := OwnBR.slice ho4
    subst hv4
    have HB4 : Hid (HeB w w4 w.heap.size ⟨hc0, hc1, hc2, L⟩ p c p3 p4 B) := Lib.hid
      ⟨Hb3.out.below hb4 (by omega), (Hs3.out.below PrS.still hb4).weak PrS.still (fun _ _ _ => trivial), Hq3.out.below hb4, q4, HW3.out.trans (hb4.mono HW3.out.size)⟩
    clear ho4 q4 hb4 hcw3 Hc1 Hc2 Hb3 Hs3 HW3 Hq3
    have HB5 := Lib.hid HB4.out.drew
    have hS0 : ∀ i, w4.cell? ⟨w.heap.size, i, none⟩ = (#[.int .i64 hc0, .int .i64 hc1, .int .i64 hc2, .slice p L.length c] : Array Value)[i]? := HB4.out.b.cell
    have Heq := Lib.hid (equal_any p3 p4 B B c3 c4 (w4.drewN 1) HB5.out.x HB5.out.y)
    rw [beq_self_eq_true] at Heq
    go_upto_region 5 with fail
    go_region_held3 (fun w' => ∀ i, w'.cell? ⟨w.heap.size, i, none⟩ = (#[.int .i64 hc0, .int .i64 hc1, .int .i64 hc2, .slice p L.length c] : Array Value)[i]?)
      (first | exact hS0 | exact HB5.out.b.cell | exact HB6.out.b.cell | exact HB7.out.b.cell | exact HB8.out.b.cell | go_keep)
      (first
        | (go_at_call 55; refine Heq.out.mono ?_; rintro e w5 ⟨rfl, rfl⟩)
        | (go_at_call 50; refine (H3.out _ HB5.out.s).mono ?_; rintro e w6 ⟨rfl, hb⟩; have HB6 := Lib.hid (HB5.out.step hb); clear hb)
        | (go_at_call 51; refine (H4.out _ HB6.out.s).mono ?_; rintro e w7 ⟨rfl, hb⟩; have HB7 := Lib.hid (HB6.out.step hb); clear hb)
        | (go_at_call 46; refine (Haw.out _).mono ?_; rintro e w8 ⟨rfl, hb⟩; have HB8 := Lib.hid (HB7.out.step hb); clear hb))
    go_wp2
    go_ret
    exact ⟨rfl, HB8.out.bel⟩

end Go.Proofs.Ytjfhpafaopeogaa
