/-
  Messages of clients (layer 6): a message that is being read: what holds between its parts.
-/
import Derived.Test.YtldjfmddjbdciaaFoU
import Derived.Test.YtldjfmddjbdciaaFoH
import Derived.Test.YtldjfmddjbdciaaPackB
namespace Go.Proofs.Ytldjfmddjbdciaa
open Go.RowKit
set_option linter.unusedVariables false
set_option linter.unusedSimpArgs false

/-- The result's block n, the message's block behind it, its lists; the scan's block is all that is touched. -/
structure MsI (sb n : Nat) (w0 w : World) (f : FoV) (a : FoP) : Prop where
  lt : sb < w0.heap.size
  hn : w0.heap.size ≤ n
  b2 : Blk w n 44 foZ
  b3 : Blk w (n + 1) 44 (foCells f a)
  lst : FoL (fun k => n + 2 ≤ k) w f a
  tch : Touch (fun k => k = sb) w0 w
section
variable {sb n : Nat} {w0 w w' : World} {f f' : FoV} {a a' : FoP}
theorem MsI.step (h : MsI sb n w0 w f a) (hT : Touch (fun k => k = sb) w w') : MsI sb n w0 w' f a := by
  have h1 := h.lt
  have h2 := h.hn
  exact ⟨h1, h2, hT.blk h.b2 (by omega), hT.blk h.b3 (by omega), h.lst.keep (Kept.touch hT (fun k hk hs => ⟨hs, fun e => by have hs' : n + 2 ≤ k := hs; omega⟩)), h.tch.trans hT⟩
theorem MsI.tset (w : World) (n i : Nat) (u : Value) : Touch (fun k => k = n + 1) w (w.setCell ⟨n + 1, i, none⟩ u) :=
  (Touch.refl (fun k => k = n + 1) w).setCell (x := ⟨n + 1, i, none⟩) (fun _ => rfl) _
theorem MsI.set (h : MsI sb n w0 w f a) (i : Nat) (u : Value) (hl : FoL (fun k => n + 2 ≤ k) w f' a') (hc : (foCells f a).setIfInBounds i u = foCells f' a') : MsI sb n w0 (w.setCell ⟨n + 1, i, none⟩ u) f' a' := by
  have h1 := h.lt
  have h2 := h.hn
  have hT := MsI.tset w n i u
  refine ⟨h1, h2, hT.blk h.b2 (by omega), ?_, hl.keep (Kept.touch hT (fun k hk hs => ⟨hs, fun e => by have hs' : n + 2 ≤ k := hs; omega⟩)), h.tch.then hT (fun k hk e => by omega)⟩
  rw [← hc]
  exact h.b3.set_ i u
theorem MsI.drew (h : MsI sb n w0 w f a) : MsI sb n w0 w.drew f a := h.step ((Touch.refl _ _).drew)
end

theorem FoL.zero (S : Nat → Prop) (w : World) (k : Int) : FoL S w (foZero k) foNil :=
  ⟨SliceS.empty none 0 (by simp [maxLen]), SliceS.empty none 0 (by simp [maxLen]), SliceS.empty none 0 (by simp [maxLen]), SliceS.empty none 0 (by simp [maxLen])⟩

/-- The start: the result's block, the message's. -/
theorem MsI.start (sb : Nat) (w0 w : World) (k : Int) (hT : Touch (fun k => k = sb) w0 w) (hsb : sb < w0.heap.size) :
    MsI sb w.heap.size w0 ((w.alloc (.cells foZ 44)).alloc (.cells (foCells (foZero k) foNil) 44)) (foZero k) foNil := by
  have e1 : (w.alloc (.cells foZ 44)).heap.size = w.heap.size + 1 := by simp
  refine ⟨hsb, hT.size, (Blk.new _ _ _).alloc _, ?_, FoL.zero _ _ _, (hT.alloc _).alloc _⟩
  have := Blk.new (w.alloc (.cells foZ 44)) 44 (foCells (foZero k) foNil)
  rw [e1] at this
  exact this

section
variable {sb g : Nat} {L : List UInt8} {bad : Bool} {w : World}
theorem scanText_o (h : ScanO w sb g L bad) : ∃ t L' b', StepO L bad textQ t L' b' ∧ Calls Try.prog 90 #[.pointer (some ⟨sb, 0, none⟩)] w fun e w' =>
    e = .returned (.string t) ∧ ScanO w' sb g L' b' ∧ Touch (fun i => i = sb) w w' := ⟨_, _, _, StepO.text (.inl rfl), scanText_any sb g L bad w h⟩
theorem scanNum_o (h : ScanO w sb g L bad) (n : Int) (z : Nat) (hz : (z : Int) = n) : ∃ t L' b', StepO L bad (numP z) t L' b' ∧ (t = numV L bad n) ∧ Calls Try.prog 93 #[.pointer (some ⟨sb, 0, none⟩), .int .i64 n] w fun e w' =>
    e = .returned (.int .i64 t) ∧ ScanO w' sb g L' b' ∧ Touch (fun i => i = sb) w w' := by
  subst hz
  exact ⟨_, _, _, StepO.num (.inl rfl) z, rfl, scanNum_any sb g L bad (z : Int) w h⟩
theorem refNum_o (h : RefS w sb g L bad) (n : Int) (z : Nat) (hz : (z : Int) = n) : ∃ t L' b', StepO L bad (numP z) t L' b' ∧ (t = numV L bad n) ∧ Calls Try.prog 99 #[.pointer (some ⟨sb, 0, none⟩), .int .i64 n] w fun e w' =>
    e = .returned (.int .i64 t) ∧ RefS w' sb g L' b' ∧ Touch (fun i => i = sb) w w' := by
  subst hz
  exact ⟨_, _, _, StepO.num (.inr rfl) z, rfl, refSNum_any sb g L bad (z : Int) w h⟩
theorem StepO.ne {α : Type} {L L' : List UInt8} {bad b' : Bool} {P : List UInt8 → Option (α × List UInt8)} {x : α} (h : StepO L bad P x L' b') (hn : L' ≠ []) : L ≠ [] := by
  intro e
  have := h.2.2
  rw [e] at this
  exact hn (List.eq_nil_of_length_eq_zero (by simpa using this))
/-- A list that a call made, behind the message's blocks. -/
theorem OwnI.lst {w w' : World} {v : Value} {xs : List Int} {B : Nat} (h : OwnI B w v xs) (n : Nat) (hn : n ≤ B) : ∃ p c, v = .slice p xs.length c ∧ SliceS 1 IntU (fun k => n ≤ k) w [.slice p xs.length c] xs :=
  h.slice IntU.still (fun k _ hk => by have hk' : B ≤ k := hk; omega) (fun k hk => by have := (h.row k hk).1; omega)
theorem OwnC.lst {w w' : World} {v : Value} {xs : List CeV} {B : Nat} (h : OwnC B w v xs) (n : Nat) (hn : n ≤ B) : ∃ p c, v = .slice p xs.length c ∧ SliceS 2 CeS (fun k => n ≤ k) w [.slice p xs.length c] xs :=
  h.slice CeS.still (fun k _ hk => by have hk' : B ≤ k := hk; omega) (fun k hk => by have := (h.row k hk).1; omega)
end

/-- What is read of a message: the program's. -/
def fmsgR (sb g : Nat) (L : List UInt8) (bad : Bool) (k : Int) (w : World) (e : Ending) (w' : World) : Prop :=
  ∃ f a L' bad', e = .returned (foArg f a) ∧ FoL (fun k => w.heap.size ≤ k) w' f a ∧ ScanO w' sb g L' bad' ∧ StepO L bad (readP k) f L' bad' ∧ Touch (fun i => i = sb) w w'
/-- The document's. -/
def frmsgR (sb g : Nat) (L : List UInt8) (bad : Bool) (k : Int) (w : World) (e : Ending) (w' : World) : Prop :=
  ∃ f a L' bad', e = .returned (foArg f a) ∧ FoL (fun k => w.heap.size ≤ k) w' f a ∧ RefS w' sb g L' bad' ∧ StepO L bad (readP k) f L' bad' ∧ Touch (fun i => i = sb) w w'

end Go.Proofs.Ytldjfmddjbdciaa
