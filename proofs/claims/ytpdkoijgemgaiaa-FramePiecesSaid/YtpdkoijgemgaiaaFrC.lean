/-
  The contract of frame's Peek (layer 4).
-/
import Derived.Test.YtpdkoijgemgaiaaFrB
namespace Go.Proofs.Ytpdkoijgemgaiaa
open Go.RowKit

def msgZ : Value := .agg #[.int .u8 0, .slice none 0 0]

theorem frPeek_nil (w : World) : Calls Try.prog 43 #[.pointer none] w fun e w' => e = .returned (.tuple #[.agg #[.int .u8 0, .slice none 0 0], .bool false, .int .i64 2]) ∧ Below w.heap.size w w' := by
  go_enter Try.func43, Try.ntmps43
  go_wp2_with (go_at_call 90; refine (frReady_nil _).mono ?_; rintro e w1 ⟨rfl, rfl⟩)
  exact bodyPost_ret (v := .tuple #[.agg #[.int .u8 0, .slice none 0 0], .bool false, .int .i64 2]) (by simp [results, Try.results43, go_sem]) rfl ⟨rfl, (Below.refl _ _).alloc (Nat.le_refl _) _⟩

theorem frPeek_zero (sb : Nat) (a b c d : Value) (w : World) (h : ∀ i, w.cell? ⟨sb, i, none⟩ = (#[a, b, c, .int .i64 0, d] : Array Value)[i]?) (hs : sb < w.heap.size) :
    Calls Try.prog 43 #[.pointer (some ⟨sb, 0, none⟩)] w fun e w' => e = .returned (.tuple #[.agg #[.int .u8 0, .slice none 0 0], .bool false, .int .i64 2]) ∧ Below w.heap.size w w' := by
  have h2 : ∀ i, (w.alloc (.cells #[.int .u8 0, .slice none 0 0] 67)).cell? ⟨sb, i, none⟩ = (#[a, b, c, .int .i64 0, d] : Array Value)[i]? := fun i => (World.cell?_of_block (a := ⟨sb, i, none⟩) (Below.heap_alloc w _ sb hs)).trans (h i)
  have H2 := Lib.hid h2
  clear h h2
  go_enter Try.func43, Try.ntmps43
  go_wp2_with (go_at_call 90; refine (frReady_blk sb a b c d 0 _ H2.out).mono ?_; rintro e w1 ⟨rfl, rfl⟩; simp only [Nat.lt_irrefl, decide_false])
  exact bodyPost_ret (v := .tuple #[.agg #[.int .u8 0, .slice none 0 0], .bool false, .int .i64 2]) (by simp [results, Try.results43, go_sem]) rfl ⟨rfl, (Below.refl _ _).alloc (Nat.le_refl _) _⟩

/-- What stays while Peek runs. -/
structure PkI (w0 w : World) (B sb : Nat) (t : Bool) (L : List UInt8) (most room : Nat) (wrong : Int) (v : Value) : Prop where
  fr : FrO B w sb t L most room wrong v
  res : Blk w w0.heap.size 67 #[.int .u8 0, .slice none 0 0]
  tch : Touch (fun i => i = sb) w0 w
  sbl : sb < w0.heap.size
  row : ∀ k, rowOf v = some k → k < w0.heap.size

section
variable {w0 w w' : World} {B sb : Nat} {t : Bool} {L : List UInt8} {most room : Nat} {wrong : Int} {v : Value}
theorem PkI.step (h : PkI w0 w B sb t L most room wrong v) (hb : Below w.heap.size w w') : PkI w0 w' B sb t L most room wrong v :=
  ⟨h.fr.still hb, h.res.below hb h.res.lt, h.tch.then (Touch.of_below (p := fun i => i = sb) hb) (fun _ _ e => e), h.sbl, h.row⟩
theorem PkI.drew (h : PkI w0 w B sb t L most room wrong v) : PkI w0 w.drew B sb t L most room wrong v := ⟨h.fr.drew, h.res, h.tch.drew, h.sbl, h.row⟩
theorem PkI.alloc (h : PkI w0 w B sb t L most room wrong v) (o : Obj) : PkI w0 (w.alloc o) B sb t L most room wrong v := h.step ((Below.refl _ _).alloc (Nat.le_refl _) o)
theorem PkI.start (h : FrO B w0 sb t L most room wrong v) : PkI w0 (w0.alloc (.cells #[.int .u8 0, .slice none 0 0] 67)) B sb t L most room wrong v :=
  ⟨h.alloc _, Blk.new _ _ _, (Touch.refl _ _).alloc _, h.blk.lt, fun k hk => (h.own.row k hk).2⟩
end

set_option maxRecDepth 100000 in
set_option maxHeartbeats 1000000 in
theorem frPeek_no (B sb : Nat) (t : Bool) (L : List UInt8) (most room : Nat) (wrong : Int) (v : Value) (n r : Int) (w : World) (h : FrO B w sb t L most room wrong v) (hr : 0 < room) (hwh : frWhole t L most wrong = (n, false, r)) :
    Calls Try.prog 43 #[.pointer (some ⟨sb, 0, none⟩)] w fun e w' => e = .returned (.tuple #[.agg #[.int .u8 0, .slice none 0 0], .bool false, .int .i64 r]) ∧ FrO B w' sb t L most room r v ∧ Touch (fun i => i = sb) w w' := by
  have H1 := Lib.hid (PkI.start h)
  have Hwh := Lib.hid hwh
  have Hd := Lib.hid (show decide (0 < room) = true by simpa using hr)
  clear h hwh
  go_enter Try.func43, Try.ntmps43
  go_wp2_with fail
  generalize w.alloc (.cells #[.int .u8 0, .slice none 0 0] 67) = w1 at *
  refine (frReady_blk sb _ _ _ _ room _ H1.out.fr.blk.cell).mono ?_
  rintro e w1' ⟨rfl, rfl⟩
  rw [Hd.out]
  go_wp2_with fail
  refine (frWhole_any B sb t L most room wrong v w1 H1.out.fr).mono ?_
  rintro e w2 ⟨n2, b2, r2, hw2, rfl, hf2, hT2⟩
  have hw3 := Hwh.out
  rw [hw3] at hw2
  simp only [Prod.mk.injEq] at hw2
  obtain ⟨rfl, rfl, rfl⟩ := hw2
  have hsl := H1.out.sbl
  have hres := hT2.blk H1.out.res (by omega)
  have hrc := hres.cell
  have hf0 := hres.frozen 0
  have hf1 := hres.frozen 1
  have hT := (H1.out.tch.trans hT2)
  have hz := hT.size
  have HF := Lib.hid hf2
  have HT := Lib.hid hT
  have hne : ¬ w.heap.size = sb := by omega
  have hTs : ∀ a b, Touch (fun i => i = w.heap.size) w2 ((w2.setCell ⟨w.heap.size, 0, none⟩ a).setCell ⟨w.heap.size, 1, none⟩ b) := fun a b => ((Touch.refl (fun i => i = w.heap.size) w2).setCell (x := ⟨w.heap.size, 0, none⟩) (fun _ => rfl) a).setCell (x := ⟨w.heap.size, 1, none⟩) (fun _ => rfl) b
  have HTs := Lib.hid hTs
  have Hrow := Lib.hid H1.out.row
  clear hw3 hf2 hT2 hT hres hTs
  go_wp2
  refine bodyPost_ret (v := .tuple #[.agg #[.int .u8 0, .slice none 0 0], .bool false, .int .i64 r]) (by simp [results, Try.results43, go_sem, hrc]) rfl ⟨rfl, ?_, ?_⟩
  · exact HF.out.touch (HTs.out _ _) (fun e => hne e.symm) (fun k hk e => by have := Hrow.out k hk; omega)
  · exact HT.out.then (HTs.out _ _) (fun i hi e => by omega)

def PkC (w wx : World) (B sb : Nat) (t : Bool) (L : List UInt8) (most room : Nat) (v s : Value) (b : List UInt8) : Prop :=
  ∃ g q d, s = .pointer (some ⟨g, 0, none⟩) ∧ Blk wx g 67 #[.int .u8 0, .slice q b.length d] ∧ BytesS (fun k => w.heap.size < k ∧ k ≠ g) wx [.slice q b.length d] b ∧ PkI w wx B sb t L most room 0 v ∧ w.heap.size < g

theorem pkC_new {w w3 : World} {B sb : Nat} {t : Bool} {L : List UInt8} {most room : Nat} {v : Value} {b : List UInt8} {q : Option Addr} {d : Nat} (h : PkI w w3 B sb t L most room 0 v) (hb : BytesS (fun k => w.heap.size < k) w3 [.slice q b.length d] b) :
    PkC w (w3.alloc (.cells #[.int .u8 0, .slice q b.length d] 67)) B sb t L most room v (.pointer (some ⟨w3.heap.size, 0, none⟩)) b := by
  have h1 := h.res.lt
  refine ⟨_, q, d, rfl, Blk.new _ _ _, BytesS.still _ _ _ _ _ _ hb (fun k hk hs => ⟨⟨hs, by omega⟩, Below.heap_alloc w3 _ k hk⟩), h.alloc _, h1⟩

theorem pkC_set {w w3 : World} {B sb g : Nat} {t : Bool} {L : List UInt8} {most room : Nat} {v : Value} {b : List UInt8} {q : Option Addr} {d : Nat} (h : PkI w w3 B sb t L most room 0 v) (hb : BytesS (fun k => w.heap.size < k ∧ k ≠ g) w3 [.slice q b.length d] b) (hg : w.heap.size < g)
    (hv : Blk w3 g 67 #[.int .u8 0, .slice none 0 0]) : PkC w ((w3.setCell ⟨g, 0, none⟩ (.int .u8 0)).setCell ⟨g, 1, none⟩ (.slice q b.length d)) B sb t L most room v (.pointer (some ⟨g, 0, none⟩)) b := by
  have hT : Touch (fun i => i = g) w3 ((w3.setCell ⟨g, 0, none⟩ (.int .u8 0)).setCell ⟨g, 1, none⟩ (.slice q b.length d)) := ((Touch.refl (fun i => i = g) w3).setCell (x := ⟨g, 0, none⟩) (fun _ => rfl) _).setCell (x := ⟨g, 1, none⟩) (fun _ => rfl) _
  have hsl := h.sbl
  have hv2 := (hv.set_ 0 (.int .u8 0)).set_ 1 (.slice q b.length d)
  refine ⟨g, q, d, rfl, by simpa using hv2, BytesS.still _ _ _ _ _ _ hb (Kept.touch hT (fun k _ hs => ⟨hs, hs.2⟩)), ⟨h.fr.touch hT (fun e => by omega) (fun k hk e => by have := h.row k hk; omega), hT.blk h.res (by omega), h.tch.then hT (fun i hi e => by omega), h.sbl, h.row⟩, hg⟩

end Go.Proofs.Ytpdkoijgemgaiaa
