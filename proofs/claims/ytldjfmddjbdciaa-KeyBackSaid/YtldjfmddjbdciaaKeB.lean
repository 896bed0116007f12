/-
  Statements as keys (layer 12): Same, Of; both.
-/
import Derived.Test.YtldjfmddjbdciaaKeA
import Derived.Test.YtldjfmddjbdciaaPackB
namespace Go.Proofs.Ytldjfmddjbdciaa
open Go.RowKit
set_option linter.unusedVariables false
set_option linter.unusedSimpArgs false

/-- A statement in a block. -/
structure St1 (w0 w : World) (s : StV) (p : Option Addr) (c : Nat) : Prop where
  b : Blk w w0.heap.size 24 #[.string s.text, .slice p s.oids.length c]
  l : SliceS 1 IntU (fun k => k < w0.heap.size) w [.slice p s.oids.length c] s.oids
  bel : Below w0.heap.size w0 w
section
variable {w0 w w' : World} {s : StV} {p : Option Addr} {c : Nat} {P : Nat → Prop}
theorem St1.touch (h : St1 w0 w s p c) (hT : Touch P w w') (hP : ∀ j, P j → w0.heap.size < j) : St1 w0 w' s p c :=
  ⟨hT.blk h.b (fun e => by have := hP _ e; omega), (SliceS.still IntU.still) _ _ _ _ _ _ h.l (Kept.touch hT (fun k _ hs => ⟨hs, fun e => by have h1 := hP _ e; have h2 : k < w0.heap.size := hs; omega⟩)), h.bel.trans (hT.below h.bel.size (fun k e => by have := hP _ e; omega))⟩
theorem St1.step (h : St1 w0 w s p c) (hb : Below w.heap.size w w') : St1 w0 w' s p c := h.touch (Touch.of_below (p := fun _ => False) hb) (fun _ e => e.elim)
theorem St1.start {S : Nat → Prop} {w : World} (h : SliceS 1 IntU S w [.slice p s.oids.length c] s.oids) : St1 w (w.alloc (.cells #[.string s.text, .slice p s.oids.length c] 24)) s p c := by
  have hb : Below w.heap.size w (w.alloc (.cells #[.string s.text, .slice p s.oids.length c] 24)) := (Below.refl _ _).alloc (Nat.le_refl _) _
  exact ⟨Blk.new _ _ _, (SliceS.still IntU.still) _ _ _ _ _ _ h (Kept.below hb (fun k hk _ => ⟨hk, hk⟩)), hb⟩
end

set_option maxRecDepth 100000 in
set_option maxHeartbeats 4000000 in
theorem stSame_any (S S' : Nat → Prop) (x y : StV) (p q : Option Addr) (c d : Nat) (w : World) (h1 : SliceS 1 IntU S w [.slice p x.oids.length c] x.oids) (h2 : SliceS 1 IntU S' w [.slice q y.oids.length d] y.oids) :
    Calls Try.prog 16 #[stArg x p c, stArg y q d] w fun e w' => e = .returned (.bool (stEq x y)) ∧ Below w.heap.size w w' := by
  have hB : Below w.heap.size w ((w.alloc (.cells #[.string x.text, .slice p x.oids.length c] 24)).alloc (.cells #[.string y.text, .slice q y.oids.length d] 24)) := ((Below.refl _ _).alloc (Nat.le_refl _) _).alloc (by simp) _
  have hk1 : Blk ((w.alloc (.cells #[.string x.text, .slice p x.oids.length c] 24)).alloc (.cells #[.string y.text, .slice q y.oids.length d] 24)) w.heap.size 24 #[.string x.text, .slice p x.oids.length c] := (Blk.new _ _ _).alloc _
  have hk2 : Blk ((w.alloc (.cells #[.string x.text, .slice p x.oids.length c] 24)).alloc (.cells #[.string y.text, .slice q y.oids.length d] 24)) (w.heap.size + 1) 24 #[.string y.text, .slice q y.oids.length d] := by
    have := Blk.new (w.alloc (.cells #[.string x.text, .slice p x.oids.length c] 24)) 24 #[.string y.text, .slice q y.oids.length d]
    simpa using this
  have HB := Lib.hid hB
  have Hk1 := Lib.hid hk1
  have Hk2 := Lib.hid hk2
  have Hc := Lib.hid (eqInts_any S S' p q _ _ c d x.oids y.oids _ (h1.below IntU.still hB) (h2.below IntU.still hB))
  have Hv : Hid (stEq x y = ((x.text.toList == y.text.toList) && listEq intsEq x.oids y.oids)) := Lib.hid rfl
  generalize stEq x y = v at *
  generalize listEq intsEq x.oids y.oids = ev at *
  obtain ⟨xt, xo⟩ := x
  obtain ⟨yt, yo⟩ := y
  clear h1 h2 hB hk1 hk2
  unfold stArg
  dsimp only at *
  go_enter Try.func16, Try.ntmps16
  go_upto_region 1 with (fail)
  generalize (w.alloc (.cells #[.string xt, .slice p xo.length c] 24)).alloc (.cells #[.string yt, .slice q yo.length d] 24) = w1 at *
  have c1 := Hk1.out.cell
  have c2 := Hk2.out.cell
  generalize heq : (xt.toList == yt.toList) = tq at *
  cases tq with
  | true =>
    go_wp2_with (go_at_call 43; refine Hc.out.mono ?_; rintro e w2 ⟨rfl, hb⟩; have HB2 := Lib.hid (HB.out.trans (hb.mono HB.out.size)); clear hb)
    go_ret
    exact ⟨ret_bool (by rw [Hv.out]; rfl), HB2.out⟩
  | false =>
    go_wp2_with fail
    go_ret
    exact ⟨ret_bool (by rw [Hv.out]; rfl), HB.out⟩

set_option maxRecDepth 100000 in
set_option maxHeartbeats 4000000 in
theorem rstSame_any (S S' : Nat → Prop) (x y : StV) (p q : Option Addr) (c d : Nat) (w : World) (h1 : SliceS 1 IntU S w [.slice p x.oids.length c] x.oids) (h2 : SliceS 1 IntU S' w [.slice q y.oids.length d] y.oids) :
    Calls Try.prog 17 #[stArg x p c, stArg y q d] w fun e w' => e = .returned (.bool (stEq x y)) ∧ Below w.heap.size w w' := by
  have hB : Below w.heap.size w ((w.alloc (.cells #[.string x.text, .slice p x.oids.length c] 24)).alloc (.cells #[.string y.text, .slice q y.oids.length d] 24)) := ((Below.refl _ _).alloc (Nat.le_refl _) _).alloc (by simp) _
  have hk1 : Blk ((w.alloc (.cells #[.string x.text, .slice p x.oids.length c] 24)).alloc (.cells #[.string y.text, .slice q y.oids.length d] 24)) w.heap.size 24 #[.string x.text, .slice p x.oids.length c] := (Blk.new _ _ _).alloc _
  have hk2 : Blk ((w.alloc (.cells #[.string x.text, .slice p x.oids.length c] 24)).alloc (.cells #[.string y.text, .slice q y.oids.length d] 24)) (w.heap.size + 1) 24 #[.string y.text, .slice q y.oids.length d] := by
    have := Blk.new (w.alloc (.cells #[.string x.text, .slice p x.oids.length c] 24)) 24 #[.string y.text, .slice q y.oids.length d]
    simpa using this
  have HB := Lib.hid hB
  have Hk1 := Lib.hid hk1
  have Hk2 := Lib.hid hk2
  have Hc := Lib.hid (reqInts_any S S' p q _ _ c d x.oids y.oids _ (h1.below IntU.still hB) (h2.below IntU.still hB))
  have Hv : Hid (stEq x y = ((x.text.toList == y.text.toList) && listEq intsEq x.oids y.oids)) := Lib.hid rfl
  generalize stEq x y = v at *
  generalize listEq intsEq x.oids y.oids = ev at *
  obtain ⟨xt, xo⟩ := x
  obtain ⟨yt, yo⟩ := y
  clear h1 h2 hB hk1 hk2
  unfold stArg
  dsimp only at *
  go_enter Try.func17, Try.ntmps17
  go_upto_region 1 with (fail)
  generalize (w.alloc (.cells #[.string xt, .slice p xo.length c] 24)).alloc (.cells #[.string yt, .slice q yo.length d] 24) = w1 at *
  have c1 := Hk1.out.cell
  have c2 := Hk2.out.cell
  generalize heq : (xt.toList == yt.toList) = tq at *
  cases tq with
  | true =>
    go_wp2_with (go_at_call 44; refine Hc.out.mono ?_; rintro e w2 ⟨rfl, hb⟩; have HB2 := Lib.hid (HB.out.trans (hb.mono HB.out.size)); clear hb)
    go_ret
    exact ⟨ret_bool (by rw [Hv.out]; rfl), HB2.out⟩
  | false =>
    go_wp2_with fail
    go_ret
    exact ⟨ret_bool (by rw [Hv.out]; rfl), HB.out⟩

end Go.Proofs.Ytldjfmddjbdciaa
