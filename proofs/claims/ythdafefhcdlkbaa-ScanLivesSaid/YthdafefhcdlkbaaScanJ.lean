/-
  The walk of ScanLives (layer 3).
-/
import Derived.Test.YthdafefhcdlkbaaScanI
import Derived.BigQuiet
import Derived.Deep.QuietTactic
import Derived.Deep.RegionLaw
import Derived.Deep.RegionHeld3
namespace Go.Proofs.Ythdafefhcdlkbaa
open Go.RowKit

structure DoN where
  op : Int
  n : Int

def DoNR (_B : Nat) (_w : World) (cs : List Value) (x : DoN) : Prop := cs = [.int .i64 x.op, .int .i64 x.n]
theorem DoNR.stays : Stays DoNR := fun _ _ _ _ _ h _ => h

theorem opens_don : Opens Try.prog 63 DoNR := by
  intro H enc w base spare held fuel cs x h
  have S : StructOf Try.prog 63 _ := ⟨Try.underlying63, by kernel_rfl, by kernel_rfl⟩
  have hl := S.len h
  match cs, hl with
  | [c0, c1], _ =>
    obtain ⟨y0, e0, _⟩ := S.field h 0 _ rfl c0 rfl (opens_int Try.underlying3)
    obtain ⟨y1, e1, _⟩ := S.field h 1 _ rfl c1 rfl (opens_int Try.underlying3)
    simp only [List.cons.injEq, and_true] at e0 e1
    subst e0 e1
    exact ⟨⟨y0, y1⟩, rfl⟩

theorem opens_dons : Opens Try.prog 59 (SliceR 2 DoNR) := opens_slice Try.underlying59 (by kernel_rfl) (by omega) opens_don

/-- Both scans, side by side. -/
structure St3 (B : Nat) (w : World) (sb g : Nat) (L : List UInt8) (bad : Bool) (xb gx : Nat) (E : List UInt8) : Prop where
  scan : ScanO w sb g L bad
  ref : RefS w xb gx E bad
  sim : bad = false → L = E
  nil : bad = true → L = []
  sB : B ≤ sb
  xB : B ≤ xb
  n1 : sb ≠ xb
  n2 : L ≠ [] → g ≠ xb
  n3 : E ≠ [] → gx ≠ sb
  lL : L.length ≤ 2000
  lE : E.length ≤ 2000

section
variable {B : Nat} {w w' w'' : World} {sb g : Nat} {L : List UInt8} {bad : Bool} {xb gx : Nat} {E : List UInt8}

theorem St3.still (h : St3 B w sb g L bad xb gx E) (ht : Touch (fun _ => False) w w') : St3 B w' sb g L bad xb gx E :=
  ⟨h.scan.touch ht (fun e => e) (fun _ e => e), h.ref.touch ht (fun e => e) (fun _ e => e), h.sim, h.nil, h.sB, h.xB, h.n1, h.n2, h.n3, h.lL, h.lE⟩

theorem St3.ref1 (h : St3 B w sb g L bad xb gx E) (ht : Touch (fun i => i = sb) w w') : RefS w' xb gx E bad :=
  h.ref.touch ht (fun e => h.n1 e.symm) h.n3

theorem St3.step (h : St3 B w sb g L bad xb gx E) (ok : Bool) (k : Nat) (hs : ScanO w' sb g (nx ok (L.drop k) []) (!ok)) (hr : RefS w'' xb gx (nx ok (E.drop k) E) (!ok)) (hb : ok = true → bad = false) (ht2 : Touch (fun i => i = xb) w' w'') :
    St3 B w'' sb g (nx ok (L.drop k) []) (!ok) xb gx (nx ok (E.drop k) E) := by
  have hd : ∀ (l : List UInt8), l.drop k ≠ [] → l ≠ [] := fun l h e => h (by rw [e]; exact List.drop_nil)
  have lL := h.lL
  have lE := h.lE
  cases ok
  · exact ⟨hs.touch ht2 h.n1 (fun h => absurd rfl h), hr, (by simp), fun _ => rfl, h.sB, h.xB, h.n1, fun h => absurd rfl h, h.n3, by simp [nx], lE⟩
  · have he := h.sim (hb rfl)
    exact ⟨hs.touch ht2 h.n1 (fun hne => h.n2 (hd L hne)), hr, fun _ => by show L.drop k = E.drop k; rw [he], (by simp), h.sB, h.xB, h.n1, fun hne => h.n2 (hd L hne), fun hne => h.n3 (hd E hne), by show (L.drop k).length ≤ 2000; rw [List.length_drop]; omega, by show (E.drop k).length ≤ 2000; rw [List.length_drop]; omega⟩

theorem St3.num (h : St3 B w sb g L bad xb gx E) (n : Int) : numOk E bad n = numOk L bad n ∧ numV E bad n = numV L bad n := by
  cases bad
  · rw [h.sim rfl]; exact ⟨rfl, rfl⟩
  · exact ⟨rfl, rfl⟩
theorem St3.text (h : St3 B w sb g L bad xb gx E) : textOk E bad = textOk L bad ∧ textV E bad = textV L bad ∧ (textOk L bad = true → Lib.indexByte E 0 = Lib.indexByte L 0) := by
  cases bad
  · rw [h.sim rfl]; exact ⟨rfl, rfl, fun _ => rfl⟩
  · exact ⟨rfl, rfl, fun h => by cases h⟩
theorem St3.take (h : St3 B w sb g L bad xb gx E) (n : Int) : takeOk E bad n = takeOk L bad n ∧ takeV E bad n = takeV L bad n := by
  cases bad
  · rw [h.sim rfl]; exact ⟨rfl, rfl⟩
  · exact ⟨rfl, rfl⟩
theorem St3.left (h : St3 B w sb g L bad xb gx E) : (if bad then 0 else (E.length : Int)) = L.length := by
  cases bad
  · rw [h.sim rfl]; rfl
  · rw [h.nil rfl]; rfl
theorem St3.done (h : St3 B w sb g L bad xb gx E) : (!bad && E.isEmpty) = (!bad && L.isEmpty) := by
  cases bad
  · rw [h.sim rfl]
  · rfl
end

theorem numOk_bad {L : List UInt8} {bad : Bool} {n : Int} (h : numOk L bad n = true) : bad = false := by
  unfold numOk at h; cases bad <;> simp_all
theorem textOk_bad {L : List UInt8} {bad : Bool} (h : textOk L bad = true) : bad = false := by
  unfold textOk at h; cases bad <;> simp_all
theorem takeOk_bad {L : List UInt8} {bad : Bool} {n : Int} (h : takeOk L bad n = true) : bad = false := by
  unfold takeOk at h; cases bad <;> simp_all

end Go.Proofs.Ythdafefhcdlkbaa
