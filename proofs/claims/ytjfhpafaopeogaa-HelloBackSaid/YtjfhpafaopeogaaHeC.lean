/-
  First messages (layer 5): the message of a body, as a plain law; Parse where the body is too short.
-/
import Derived.Test.YtjfhpafaopeogaaHeB
import Derived.Deep.DeepCutAuto
import Derived.Deep.CutBlock
namespace Go.Proofs.Ytjfhpafaopeogaa
open Go.RowKit
set_option linter.unusedVariables false
set_option linter.unusedSimpArgs false

structure HelV where
  code : Int
  process : Int
  secret : Int
  params : List PrV
def helZero : HelV := ⟨0, 0, 0, []⟩
def helCells (h : HelV) (p : Option Addr) (c : Nat) : Array Value := #[.int .i64 h.code, .int .i64 h.process, .int .i64 h.secret, .slice p h.params.length c]
def helArg (h : HelV) (p : Option Addr) (c : Nat) : Value := .agg (helCells h p c)

/-- The message of a body, and the error. -/
def parseV (l : List UInt8) : HelV × Int :=
  if l.length < 4 then (helZero, 4)
  else
    let code := numV l false 4
    let R := l.drop 4
    if code = 196608 then
      let P := pairsR (R.length + 1) R false
      if P.2.2 = false ∧ P.2.1 = [] then (⟨code, 0, 0, P.1⟩, 0) else (helZero, 4)
    else if code = 80877102 then
      let S := nx (numOk R false 4) (R.drop 4) []
      if numOk S (!numOk R false 4) 4 = true ∧ S.drop 4 = [] then (⟨code, numV R false 4, numV S (!numOk R false 4) 4, []⟩, 0) else (helZero, 4)
    else if code = 80877103 then
      if R = [] then (⟨code, 0, 0, []⟩, 0) else (helZero, 4)
    else (helZero, 9)

/-- What Parse leaves. -/
def ParseR (l : List UInt8) (w : World) (e : Ending) (w' : World) : Prop :=
  ∃ p c, e = .returned (.tuple #[helArg (parseV l).1 p c, .int .i64 (parseV l).2]) ∧ SliceS 2 PrS (fun k => w.heap.size ≤ k) w' [.slice p (parseV l).1.params.length c] (parseV l).1.params ∧ Below w.heap.size w w'

def helZ : Array Value := #[.int .i64 0, .int .i64 0, .int .i64 0, .slice none 0 0]
/-- A message is stored into a block of its own. -/
abbrev setHel (w : World) (g : Nat) (h : HelV) (p : Option Addr) (c : Nat) : World :=
  ((((w.setCell ⟨g, 0, none⟩ (.int .i64 h.code)).setCell ⟨g, 1, none⟩ (.int .i64 h.process)).setCell ⟨g, 2, none⟩ (.int .i64 h.secret)).setCell ⟨g, 3, none⟩ (.slice p h.params.length c))
theorem setHel_touch (w : World) (g : Nat) (h : HelV) (p : Option Addr) (c : Nat) : Touch (fun k => k = g) w (setHel w g h p c) :=
  (((((Touch.refl (fun k => k = g) w).setCell (x := ⟨g, 0, none⟩) (fun _ => rfl) _).setCell (x := ⟨g, 1, none⟩) (fun _ => rfl) _).setCell (x := ⟨g, 2, none⟩) (fun _ => rfl) _).setCell (x := ⟨g, 3, none⟩) (fun _ => rfl) _)
theorem setHel_blk {t : TypeId} {w : World} {g : Nat} (h : HelV) (p : Option Addr) (c : Nat) (hb : Blk w g t helZ) : Blk (setHel w g h p c) g t (helCells h p c) := by
  have h8 := (((hb.set_ 0 (.int .i64 h.code)).set_ 1 (.int .i64 h.process)).set_ 2 (.int .i64 h.secret)).set_ 3 (.slice p h.params.length c)
  unfold helZ at h8
  simpa [helCells] using h8

set_option maxRecDepth 100000 in
theorem parse_short (p : Option Addr) (l : List UInt8) (cap : Nat) (w : World) (h : l.length < 4) :
    Calls Try.prog 47 #[.slice p l.length cap] w (ParseR l w) := by
  have hi : ((l.length : Nat) : Int) < 4 := by omega
  have Hv : Hid (parseV l = (helZero, 4)) := Lib.hid (by unfold parseV; rw [if_pos h])
  have Hr : Hid (Blk (w.alloc (.cells helZ 94)) w.heap.size 94 helZ) := Lib.hid (Blk.new _ _ _)
  have HA : Hid (Below w.heap.size w (w.alloc (.cells helZ 94))) := Lib.hid ((Below.refl _ _).alloc (Nat.le_refl _) _)
  clear h
  unfold helZ at Hr HA
  go_enter Try.func47, Try.ntmps47
  go_upto_region 1 with (fail)
  generalize w.alloc (.cells #[.int .i64 0, .int .i64 0, .int .i64 0, .slice none 0 0] 94) = w0 at *
  have hc := Hr.out.cell
  have hf := Hr.out.frozen
  go_wp2_with fail
  have hT := setHel_touch w0 w.heap.size helZero none 0
  have hbf := setHel_blk helZero none 0 Hr.out
  have HB := Lib.hid (HA.out.trans (hT.below HA.out.size (fun k hk => by omega)))
  unfold setHel helZero at hbf HB
  unfold helCells at hbf
  dsimp only [List.length_nil] at hbf HB
  have hcf := hbf.cell
  clear hT hbf hc hf
  refine bodyPost_ret (v := .tuple #[.agg #[.int .i64 0, .int .i64 0, .int .i64 0, .slice none 0 0], .int .i64 4]) (by simp [results, Try.results47, go_sem, hcf]) rfl ?_
  unfold ParseR
  rw [Hv.out]
  exact ⟨none, 0, by simp [helArg, helCells, helZero], ⟨none, 0, [], rfl, Nat.le_refl _, by simp [maxLen], CellsIn.nil, trivial⟩, HB.out⟩

set_option maxRecDepth 100000 in
set_option maxHeartbeats 4000000 in
theorem parse_kind (p : Option Addr) (l : List UInt8) (cap : Nat) (w : World) (h4 : 4 ≤ l.length) (hl : l.length ≤ 100000) (hb : BytesIn w p l) (h1 : numV l false 4 ≠ 196608) (h2 : numV l false 4 ≠ 80877102) (h3 : numV l false 4 ≠ 80877103) :
    Calls Try.prog 47 #[.slice p l.length cap] w (ParseR l w) := by
  have hi : ¬ ((l.length : Nat) : Int) < 4 := by omega
  have Hv : Hid (parseV l = (helZero, 9)) := Lib.hid (by unfold parseV; rw [if_neg (by omega)]; simp [h1, h2, h3])
  have Hr : Hid (Blk (w.alloc (.cells helZ 94)) w.heap.size 94 helZ) := Lib.hid (Blk.new _ _ _)
  have hA : Below w.heap.size w (w.alloc (.cells helZ 94)) := (Below.refl _ _).alloc (Nat.le_refl _) _
  have HA := Lib.hid hA
  have hz : w.heap.size < (w.alloc (.cells helZ 94)).heap.size := by simp
  have HN := Lib.hid (scanNew_any p l cap (w.alloc (.cells helZ 94)) (by omega) ((Touch.of_below (p := fun _ => False) hA).bytesIn hb (fun _ _ _ e => e)))
  obtain ⟨code, hcode⟩ : ∃ c, numV l false 4 = c := ⟨_, rfl⟩
  rw [hcode] at h1 h2 h3
  have g1 : (code == 196608) = false := by simpa using h1
  have g2 : (code == 80877102) = false := by simpa using h2
  have g3 : (code == 80877103) = false := by simpa using h3
  have Hc := Lib.hid hcode
  clear hb hA h1 h2 h3 hcode
  unfold helZ at Hr HA HN hz
  go_enter Try.func47, Try.ntmps47
  go_upto_region 1 with (fail)
  generalize w.alloc (.cells #[.int .i64 0, .int .i64 0, .int .i64 0, .slice none 0 0] 94) = w0 at *
  go_wp2_with fail
  refine HN.out.mono ?_
  rintro e w1 ⟨sb, g, rfl, hs1, hsb, hg, hT1⟩
  have hz1 := hT1.size
  have HNm := Lib.hid (scanNum_any sb g l false 4 w1 hs1)
  rw [Hc.out] at HNm
  have HB1 := Lib.hid (HA.out.trans (hT1.below HA.out.size (fun k e => e.elim)))
  have Hr1 := Lib.hid (hT1.blk Hr.out (fun e => e))
  clear hs1 hT1 HN HA Hr
  go_wp2_with fail
  refine HNm.out.mono ?_
  rintro e w2 ⟨rfl, hs2, hT2⟩
  have hz2 := hT2.size
  have HB2 := Lib.hid (HB1.out.trans (hT2.below HB1.out.size (fun k e => by omega)))
  have Hr2 := Lib.hid (hT2.blk Hr1.out (by omega))
  clear hs2 hT2 HNm HB1 Hr1
  go_upto_region 5 with (fail)
  have hal : Below w2.heap.size w2 (w2.alloc (.cells #[.int .i64 code, .int .i64 0, .int .i64 0, .slice none 0 0] 94)) := (Below.refl _ _).alloc (Nat.le_refl _) _
  have Hr3 := Lib.hid (Hr2.out.below hal Hr2.out.lt)
  have HB3 := Lib.hid (HB2.out.trans (hal.mono HB2.out.size))
  have hx3 := (Blk.new w2 94 #[.int .i64 code, .int .i64 0, .int .i64 0, .slice none 0 0]).cell
  clear hal Hr2 HB2
  generalize w2.alloc (.cells #[.int .i64 code, .int .i64 0, .int .i64 0, .slice none 0 0] 94) = w3 at *
  have hc := Hr3.out.cell
  have hf := Hr3.out.frozen
  go_wp2_with fail
  have hT := setHel_touch w3 w.heap.size helZero none 0
  have hbf := setHel_blk helZero none 0 Hr3.out
  have HB := Lib.hid (HB3.out.trans (hT.below HB3.out.size (fun k hk => by omega)))
  unfold setHel helZero at hbf HB
  unfold helCells at hbf
  dsimp only [List.length_nil] at hbf HB
  have hcf := hbf.cell
  clear hT hbf hc hf
  refine bodyPost_ret (v := .tuple #[.agg #[.int .i64 0, .int .i64 0, .int .i64 0, .slice none 0 0], .int .i64 9]) (by simp [results, Try.results47, go_sem, hcf]) rfl ?_
  unfold ParseR
  rw [Hv.out]
  exact ⟨none, 0, by simp [helArg, helCells, helZero], ⟨none, 0, [], rfl, Nat.le_refl _, by simp [maxLen], CellsIn.nil, trivial⟩, HB.out⟩

end Go.Proofs.Ytjfhpafaopeogaa
