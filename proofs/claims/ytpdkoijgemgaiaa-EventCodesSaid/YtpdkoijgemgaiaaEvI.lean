/-
  The walk of EventCodes (layer 42).
-/
import Derived.Test.YtpdkoijgemgaiaaEvH
namespace Go.Proofs.Ytpdkoijgemgaiaa
open Go.RowKit

/-- What stays while the statement runs. -/
structure CodesI (w0 w : World) (g1 g2 : Nat) (x y : EvV) (q q' : Option Addr) (d d' : Nat) (p : Option Addr) (n c : Nat) (xs : List EvV) : Prop where
  b1 : Blk w g1 85 #[.int .i64 x.kind, .int .i64 x.who, .int .i64 x.n, .slice q x.bytes.length d]
  b2 : Blk w g2 85 #[.int .i64 y.kind, .int .i64 y.who, .int .i64 y.n, .slice q' y.bytes.length d']
  i1 : BytesIn w q x.bytes
  i2 : BytesIn w q' y.bytes
  sl : SliceS 4 EvS (fun k => k < w0.heap.size) w [.slice p n c] xs
  bel : Below w0.heap.size w0 w

section
variable {w0 w w' : World} {g1 g2 : Nat} {x y : EvV} {q q' : Option Addr} {d d' : Nat} {p : Option Addr} {n c : Nat} {xs : List EvV}
theorem CodesI.step (h : CodesI w0 w g1 g2 x y q q' d d' p n c xs) (hb : Below w.heap.size w w') : CodesI w0 w' g1 g2 x y q q' d d' p n c xs :=
  ⟨h.b1.below hb h.b1.lt, h.b2.below hb h.b2.lt, h.i1.below hb, h.i2.below hb, (SliceS.still EvS.still) _ _ _ _ _ _ h.sl (Kept.all hb), below_chain h.bel hb⟩
theorem CodesI.drew (h : CodesI w0 w g1 g2 x y q q' d d' p n c xs) : CodesI w0 w.drew g1 g2 x y q q' d d' p n c xs := h.step (below_drewOn (Below.refl _ _) (Nat.le_refl _))
theorem CodesI.cells (h : CodesI w0 w g1 g2 x y q q' d d' p n c xs) : (∀ i, w.cell? ⟨g1, i, none⟩ = (#[.int .i64 x.kind, .int .i64 x.who, .int .i64 x.n, .slice q x.bytes.length d] : Array Value)[i]?) ∧ (∀ i, w.cell? ⟨g2, i, none⟩ = (#[.int .i64 y.kind, .int .i64 y.who, .int .i64 y.n, .slice q' y.bytes.length d'] : Array Value)[i]?) :=
  ⟨h.b1.cell, h.b2.cell⟩
end

set_option maxRecDepth 100000 in
set_option maxHeartbeats 4000000 in
theorem eventCodes_walk (p : Option Addr) (n c : Nat) (xs : List EvV) (x y : EvV) (q q' : Option Addr) (d d' : Nat) (w : World) (hx : SliceS 4 EvS (fun k => k < w.heap.size) w [.slice p n c] xs)
    (h1 : BytesS (fun k => k < w.heap.size) w [.slice q x.bytes.length d] x.bytes) (h2 : BytesS (fun k => k < w.heap.size) w [.slice q' y.bytes.length d'] y.bytes) :
    Calls Try.prog 12 #[.slice p n c, evArg x q d, evArg y q' d'] w fun e w' => e = .returned (.bool true) ∧ Below w.heap.size w w' := by
  obtain ⟨-, hq1, hq2, hi1⟩ := h1.parts
  obtain ⟨-, hq1', hq2', hi2⟩ := h2.parts
  have hal : Below w.heap.size w ((w.alloc (.cells #[.int .i64 x.kind, .int .i64 x.who, .int .i64 x.n, .slice q x.bytes.length d] 85)).alloc (.cells #[.int .i64 y.kind, .int .i64 y.who, .int .i64 y.n, .slice q' y.bytes.length d'] 85)) := ((Below.refl _ _).alloc (Nat.le_refl _) _).alloc (by simp) _
  have hI : CodesI w ((w.alloc (.cells #[.int .i64 x.kind, .int .i64 x.who, .int .i64 x.n, .slice q x.bytes.length d] 85)).alloc (.cells #[.int .i64 y.kind, .int .i64 y.who, .int .i64 y.n, .slice q' y.bytes.length d'] 85)) w.heap.size (w.heap.size + 1) x y q q' d d' p n c xs :=
    ⟨(Blk.new w _ _).alloc _, by have := Blk.new (w.alloc (.cells #[.int .i64 x.kind, .int .i64 x.who, .int .i64 x.n, .slice q x.bytes.length d] 85)) 85 #[.int .i64 y.kind, .int .i64 y.who, .int .i64 y.n, .slice q' y.bytes.length d']; simpa using this, hi1.below hal, hi2.below hal, (SliceS.still EvS.still) _ _ _ _ _ _ hx (Kept.all hal), hal⟩
  have HI := Lib.hid hI
  have Hq2 := Lib.hid hq2
  clear hal hI hi1 hi2 h1 h2
  obtain ⟨p', c', css, h1, hlc, hcm, _, _⟩ := hx
  simp only [List.cons.injEq, Value.slice.injEq, and_true] at h1
  obtain ⟨rfl, rfl, rfl⟩ := h1
  unfold maxLen at hcm hq2 hq2'
  obtain ⟨xk, xo, xn, xb⟩ := x
  obtain ⟨yk, yo, yn, yb⟩ := y
  unfold evArg
  dsimp only at *
  go_enter Try.func12, Try.ntmps12
  go_wp2_with fail
  generalize (w.alloc (.cells #[.int .i64 xk, .int .i64 xo, .int .i64 xn, .slice q xb.length d] 85)).alloc (.cells #[.int .i64 yk, .int .i64 yo, .int .i64 yn, .slice q' yb.length d'] 85) = w1 at *
  refine (few_evs _ p _ c xs w1 HI.out.sl).mono ?_
  rintro e w2 ⟨hf, hb2⟩
  have HI2 := Lib.hid (HI.out.step hb2)
  clear hb2
  have hcl := HI2.out.cells
  dsimp only at hcl
  obtain ⟨hcl1, hcl2⟩ := hcl
  have haw : ∀ w3, Calls Try.prog 37 #[] w3 fun e w' => e = .returned (.bool true) ∧ Below w3.heap.size w3 w' := evAwake
  have Haw := Lib.hid haw
  clear haw
  rcases hf with ⟨rfl, hfew⟩ | rfl
  · have Hf := Lib.hid hfew
    clear hfew
    by_cases hx2 : 2000 < xb.length ∨ 2000 < yb.length
    · have hx3 : 2000 < xb.length ∨ (xb.length ≤ 2000 ∧ 2000 < yb.length) := by omega
      clear hx2
      rcases hx3 with hx3 | ⟨hx3, hx4⟩
      all_goals
        go_wp2_with fail
        refine (Haw.out _).mono ?_
        rintro e w4 ⟨rfl, hb4⟩
        have Hb4 := Lib.hid (below_chain HI2.out.bel hb4)
        clear hb4
        go_wp2
        go_ret
        exact ⟨rfl, Hb4.out⟩
    · have hx3 : xb.length ≤ 2000 := by omega
      have hx4 : yb.length ≤ 2000 := by omega
      clear hx2
      go_wp2_with fail
      go_region_held3 (fun w' => (∀ i, w'.cell? ⟨w.heap.size, i, none⟩ = (#[.int .i64 xk, .int .i64 xo, .int .i64 xn, .slice q xb.length d] : Array Value)[i]?) ∧ (∀ i, w'.cell? ⟨w.heap.size + 1, i, none⟩ = (#[.int .i64 yk, .int .i64 yo, .int .i64 yn, .slice q' yb.length d'] : Array Value)[i]?))
        (first | exact ⟨hcl1, hcl2⟩ | exact HIA.out.cells | exact HIB.out.cells | exact HIC.out.cells | exact HID.out.cells | exact HIE.out.cells | exact HIF.out.cells | exact HIG.out.cells | exact HIH.out.cells | exact HII.out.cells | go_keep)
        (first
          | (go_at_call 55; refine (evCheck_any _ _ _ _ _ _ _).mono ?_; rintro e wA ⟨rfl, hb⟩; have HIA := Lib.hid (HI2.out.step (below_ofDrew hb)); clear hb hcl1 hcl2)
          | (go_at_call 57; refine (evCheckR_any _ _ _ _ _ _ _).mono ?_; rintro e wB ⟨rfl, hb⟩; have HIB := Lib.hid (HIA.out.step hb); clear hb)
          | (go_at_call 59; refine (evCode_any ⟨xk, xo, xn, xb⟩ q d _ HIB.out.i1 hq1 Hq2.out).mono ?_; rintro e wC ⟨vC, rfl, ho, hb⟩; obtain ⟨pC, cC, rfl, hrC⟩ := ho.bytesS (S := fun _ => True) (fun _ _ => trivial); have HrC := Lib.hid hrC; have HIC := Lib.hid (HIB.out.step hb); clear hb ho hrC)
          | (go_at_call 60; refine (evCodeR_any ⟨xk, xo, xn, xb⟩ q d _ HIC.out.i1).mono ?_; rintro e wD ⟨vD, rfl, ho, hb⟩; obtain ⟨pD, cD, rfl, hrD⟩ := ho.bytesS (S := fun _ => True) (fun _ _ => trivial); have HrD := Lib.hid hrD; have HrC2 := Lib.hid (HrC.out.below hb); have HID := Lib.hid (HIC.out.step hb); clear hb ho hrD)
          | (go_at_call 56; refine (put_evs _ _ _ _ xs _ HID.out.sl Hf.out).mono ?_; rintro e wE ⟨vE, rfl, ho, hb⟩; obtain ⟨pE, cE, rfl, hrE⟩ := ho.bytesS (S := fun _ => True) (fun _ _ => trivial); have HrE := Lib.hid hrE; have HIE := Lib.hid (HID.out.step hb); clear hb ho hrE)
          | (go_at_call 61; refine (putR_evs _ _ _ _ xs _ HIE.out.sl Hf.out).mono ?_; rintro e wF ⟨vF, rfl, ho, hb⟩; obtain ⟨pF, cF, rfl, hrF⟩ := ho.bytesS (S := fun _ => True) (fun _ _ => trivial); have HrF := Lib.hid hrF; have HrE2 := Lib.hid (HrE.out.below hb); have HIF := Lib.hid (HIE.out.step hb); clear hb ho hrF)
          | (go_at_call 62; refine (evSame_any ⟨xk, xo, xn, xb⟩ ⟨yk, yo, yn, yb⟩ q q' d d' _ HIF.out.i1 HIF.out.i2).mono ?_; rintro e wG ⟨rfl, hb⟩; have HIG := Lib.hid (HIF.out.step hb); clear hb)
          | (go_at_call 63; refine (evSameR_any ⟨xk, xo, xn, xb⟩ ⟨yk, yo, yn, yb⟩ q q' d d' _ HIG.out.i1 HIG.out.i2).mono ?_; rintro e wH ⟨rfl, hb⟩; have HIH := Lib.hid (HIG.out.step hb); clear hb)
          | (go_at_call 37; refine (Haw.out _).mono ?_; rintro e wI ⟨rfl, hb⟩; have HII := Lib.hid (HIH.out.step hb); clear hb)
          | (go_at_call 58; with_reducible refine (equal_any pE pF (putL xs) (putL xs) cE cF _ HrE2.out.parts.2.2.2 HrF.out.parts.2.2.2).mono ?_; rintro e w9 ⟨rfl, rfl⟩; rw [beq_self_eq_true])
          | (go_at_call 58; with_reducible refine (equal_any pC pD (codeL ⟨xk, xo, xn, xb⟩) (codeL ⟨xk, xo, xn, xb⟩) cC cD _ HrC2.out.parts.2.2.2 HrD.out.parts.2.2.2).mono ?_; rintro e w9 ⟨rfl, rfl⟩; rw [beq_self_eq_true]))
      go_wp2
      go_ret
      exact ⟨rfl, HII.out.bel⟩
  · go_wp2_with fail
    refine (Haw.out _).mono ?_
    rintro e w4 ⟨rfl, hb4⟩
    have Hb4 := Lib.hid (below_chain HI2.out.bel hb4)
    clear hb4
    go_wp2
    go_ret
    exact ⟨rfl, Hb4.out⟩

/-- An event as it is handed over. -/
theorem evS_arg {S : Nat → Prop} {w : World} {s : Array Value} {x : EvV} (h : EvS S w s.toList x) : ∃ q d, (.agg s : Value) = evArg x q d ∧ BytesS S w [.slice q x.bytes.length d] x.bytes := by
  obtain ⟨q, d, hs, hb⟩ := h
  refine ⟨q, d, ?_, hb⟩
  unfold evArg
  congr 1
  exact Array.ext' hs

theorem eventCodes_read (p : Option Addr) (n c : Nat) (xs : List EvV) (s1 s2 : Array Value) (x y : EvV) (w : World) (hx : SliceS 4 EvS (fun k => k < w.heap.size) w [.slice p n c] xs) (h1 : EvS (fun k => k < w.heap.size) w s1.toList x) (h2 : EvS (fun k => k < w.heap.size) w s2.toList y) :
    Calls Try.prog 12 #[.slice p n c, .agg s1, .agg s2] w fun e w' => e = .returned (.bool true) ∧ Below w.heap.size w w' := by
  obtain ⟨q, d, e1, k1⟩ := evS_arg h1
  obtain ⟨q', d', e2, k2⟩ := evS_arg h2
  rw [e1, e2]
  exact eventCodes_walk p n c xs x y q q' d d' w hx k1 k2

end Go.Proofs.Ytpdkoijgemgaiaa
