/-
  Ground: HeC, HeD, HeE, ClA, ClAf, ClAm.
-/
import Derived.Test.YtacnmdlefonjmaaGreatPdZP13
import Derived.Deep.DeepCutAuto
import Derived.Deep.CutBlock
import Derived.Test.YtacnmdlefonjmaaGreatPdZP10
/-
  First messages (layer 5): the message of a body, as a plain law; Parse where the body is too short.
-/
namespace Go.Proofs.YtacnmdlefonjmaaGreat
open Go.RowKit
set_option linter.unusedVariables false
set_option linter.unusedSimpArgs false

structure HelV where
  code : Int
  process : Int
  secret : Int
  params : List PrV
def helZero : HelV := ⟨0, 0, 0, []⟩
def helCells (h : HelV) (p : Option Addr) (c : Nat) : Array Value := #[.int .i64 h.code, .int .i64 h.process, .int .i64 h.secret, .slice p h.params.length c]
def helArg (h : HelV) (p : Option Addr) (c : Nat) : Value := .agg (helCells h p c)

/-- The message of a body, and the error. -/
def parseV (l : List UInt8) : HelV × Int :=
  if l.length < 4 then (helZero, 4)
  else
    let code := numV l false 4
    let R := l.drop 4
    if code = 196608 then
      let P := pairsR (R.length + 1) R false
      if P.2.2 = false ∧ P.2.1 = [] then (⟨code, 0, 0, P.1⟩, 0) else (helZero, 4)
    else if code = 80877102 then
      let S := nx (numOk R false 4) (R.drop 4) []
      if numOk S (!numOk R false 4) 4 = true ∧ S.drop 4 = [] then (⟨code, numV R false 4, numV S (!numOk R false 4) 4, []⟩, 0) else (helZero, 4)
    else if code = 80877103 then
      if R = [] then (⟨code, 0, 0, []⟩, 0) else (helZero, 4)
    else (helZero, 9)

/-- What Parse leaves. -/
def ParseR (l : List UInt8) (w : World) (e : Ending) (w' : World) : Prop :=
  ∃ p c, e = .returned (.tuple #[helArg (parseV l).1 p c, .int .i64 (parseV l).2]) ∧ SliceS 2 PrS (fun k => w.heap.size ≤ k) w' [.slice p (parseV l).1.params.length c] (parseV l).1.params ∧ Below w.heap.size w w'

def helZ : Array Value := #[.int .i64 0, .int .i64 0, .int .i64 0, .slice none 0 0]
/-- A message is stored into a block of its own. -/
abbrev setHel (w : World) (g : Nat) (h : HelV) (p : Option Addr) (c : Nat) : World :=
  ((((w.setCell ⟨g, 0, none⟩ (.int .i64 h.code)).setCell ⟨g, 1, none⟩ (.int .i64 h.process)).setCell ⟨g, 2, none⟩ (.int .i64 h.secret)).setCell ⟨g, 3, none⟩ (.slice p h.params.length c))
theorem setHel_touch (w : World) (g : Nat) (h : HelV) (p : Option Addr) (c : Nat) : Touch (fun k => k = g) w (setHel w g h p c) :=
  (((((Touch.refl (fun k => k = g) w).setCell (x := ⟨g, 0, none⟩) (fun _ => rfl) _).setCell (x := ⟨g, 1, none⟩) (fun _ => rfl) _).setCell (x := ⟨g, 2, none⟩) (fun _ => rfl) _).setCell (x := ⟨g, 3, none⟩) (fun _ => rfl) _)
theorem setHel_blk {t : TypeId} {w : World} {g : Nat} (h : HelV) (p : Option Addr) (c : Nat) (hb : Blk w g t helZ) : Blk (setHel w g h p c) g t (helCells h p c) := by
  have h8 := (((hb.set_ 0 (.int .i64 h.code)).set_ 1 (.int .i64 h.process)).set_ 2 (.int .i64 h.secret)).set_ 3 (.slice p h.params.length c)
  unfold helZ at h8
  simpa [helCells] using h8

set_option maxRecDepth 100000 in
theorem parse_short (p : Option Addr) (l : List UInt8) (cap : Nat) (w : World) (h : l.length < 4) :
    Calls Tryz.prog 72 #[.slice p l.length cap] w (ParseR l w) := by
  have hi : ((l.length : Nat) : Int) < 4 := by omega
  have Hv : Hid (parseV l = (helZero, 4)) := Lib.hid (by unfold parseV; rw [if_pos h])
  have Hr : Hid (Blk (w.alloc (.cells helZ 42)) w.heap.size 42 helZ) := Lib.hid (Blk.new _ _ _)
  have HA : Hid (Below w.heap.size w (w.alloc (.cells helZ 42))) := Lib.hid ((Below.refl _ _).alloc (Nat.le_refl _) _)
  clear h
  unfold helZ at Hr HA
  go_enter Tryz.func72, Tryz.ntmps72
  go_upto_region 1 with (fail)
  generalize w.alloc (.cells #[.int .i64 0, .int .i64 0, .int .i64 0, .slice none 0 0] 42) = w0 at *
  have hc := Hr.out.cell
  have hf := Hr.out.frozen
  go_wp2_with fail
  have hT := setHel_touch w0 w.heap.size helZero none 0
  have hbf := setHel_blk helZero none 0 Hr.out
  have HB := Lib.hid (HA.out.trans (hT.below HA.out.size (fun k hk => by omega)))
  unfold setHel helZero at hbf HB
  unfold helCells at hbf
  dsimp only [List.length_nil] at hbf HB
  have hcf := hbf.cell
  clear hT hbf hc hf
  refine bodyPost_ret (v := .tuple #[.agg #[.int .i64 0, .int .i64 0, .int .i64 0, .slice none 0 0], .int .i64 4]) (by simp [results, Tryz.results72, go_sem, hcf]) rfl ?_
  unfold ParseR
  rw [Hv.out]
  exact ⟨none, 0, by simp [helArg, helCells, helZero], ⟨none, 0, [], rfl, Nat.le_refl _, by simp [maxLen], CellsIn.nil, trivial⟩, HB.out⟩

set_option maxRecDepth 100000 in
set_option maxHeartbeats 4000000 in
theorem parse_kind (p : Option Addr) (l : List UInt8) (cap : Nat) (w : World) (h4 : 4 ≤ l.length) (hl : l.length ≤ 100000) (hb : BytesIn w p l) (h1 : numV l false 4 ≠ 196608) (h2 : numV l false 4 ≠ 80877102) (h3 : numV l false 4 ≠ 80877103) :
    Calls Tryz.prog 72 #[.slice p l.length cap] w (ParseR l w) := by
  have hi : ¬ ((l.length : Nat) : Int) < 4 := by omega
  have Hv : Hid (parseV l = (helZero, 9)) := Lib.hid (by unfold parseV; rw [if_neg (by omega)]; simp [h1, h2, h3])
  have Hr : Hid (Blk (w.alloc (.cells helZ 42)) w.heap.size 42 helZ) := Lib.hid (Blk.new _ _ _)
  have hA : Below w.heap.size w (w.alloc (.cells helZ 42)) := (Below.refl _ _).alloc (Nat.le_refl _) _
  have HA := Lib.hid hA
  have hz : w.heap.size < (w.alloc (.cells helZ 42)).heap.size := by simp
  have HN := Lib.hid (scanNew_any p l cap (w.alloc (.cells helZ 42)) (by omega) ((Touch.of_below (p := fun _ => False) hA).bytesIn hb (fun _ _ _ e => e)))
  obtain ⟨code, hcode⟩ : ∃ c, numV l false 4 = c := ⟨_, rfl⟩
  rw [hcode] at h1 h2 h3
  have g1 : (code == 196608) = false := by simpa using h1
  have g2 : (code == 80877102) = false := by simpa using h2
  have g3 : (code == 80877103) = false := by simpa using h3
  have Hc := Lib.hid hcode
  clear hb hA h1 h2 h3 hcode
  unfold helZ at Hr HA HN hz
  go_enter Tryz.func72, Tryz.ntmps72
  go_upto_region 1 with (fail)
  generalize w.alloc (.cells #[.int .i64 0, .int .i64 0, .int .i64 0, .slice none 0 0] 42) = w0 at *
  go_wp2_with fail
  refine HN.out.mono ?_
  rintro e w1 ⟨sb, g, rfl, hs1, hsb, hg, hT1⟩
  have hz1 := hT1.size
  have HNm := Lib.hid (scanNum_any sb g l false 4 w1 hs1)
  rw [Hc.out] at HNm
  have HB1 := Lib.hid (HA.out.trans (hT1.below HA.out.size (fun k e => e.elim)))
  have Hr1 := Lib.hid (hT1.blk Hr.out (fun e => e))
  clear hs1 hT1 HN HA Hr
  go_wp2_with fail
  refine HNm.out.mono ?_
  rintro e w2 ⟨rfl, hs2, hT2⟩
  have hz2 := hT2.size
  have HB2 := Lib.hid (HB1.out.trans (hT2.below HB1.out.size (fun k e => by omega)))
  have Hr2 := Lib.hid (hT2.blk Hr1.out (by omega))
  clear hs2 hT2 HNm HB1 Hr1
  go_upto_region 5 with (fail)
  have hal : Below w2.heap.size w2 (w2.alloc (.cells #[.int .i64 code, .int .i64 0, .int .i64 0, .slice none 0 0] 42)) := (Below.refl _ _).alloc (Nat.le_refl _) _
  have Hr3 := Lib.hid (Hr2.out.below hal Hr2.out.lt)
  have HB3 := Lib.hid (HB2.out.trans (hal.mono HB2.out.size))
  have hx3 := (Blk.new w2 42 #[.int .i64 code, .int .i64 0, .int .i64 0, .slice none 0 0]).cell
  clear hal Hr2 HB2
  generalize w2.alloc (.cells #[.int .i64 code, .int .i64 0, .int .i64 0, .slice none 0 0] 42) = w3 at *
  have hc := Hr3.out.cell
  have hf := Hr3.out.frozen
  go_wp2_with fail
  have hT := setHel_touch w3 w.heap.size helZero none 0
  have hbf := setHel_blk helZero none 0 Hr3.out
  have HB := Lib.hid (HB3.out.trans (hT.below HB3.out.size (fun k hk => by omega)))
  unfold setHel helZero at hbf HB
  unfold helCells at hbf
  dsimp only [List.length_nil] at hbf HB
  have hcf := hbf.cell
  clear hT hbf hc hf
  refine bodyPost_ret (v := .tuple #[.agg #[.int .i64 0, .int .i64 0, .int .i64 0, .slice none 0 0], .int .i64 9]) (by simp [results, Tryz.results72, go_sem, hcf]) rfl ?_
  unfold ParseR
  rw [Hv.out]
  exact ⟨none, 0, by simp [helArg, helCells, helZero], ⟨none, 0, [], rfl, Nat.le_refl _, by simp [maxLen], CellsIn.nil, trivial⟩, HB.out⟩

end Go.Proofs.YtacnmdlefonjmaaGreat

/-
  First messages (layer 5): hello.Parse where the code is known.
-/
namespace Go.Proofs.YtacnmdlefonjmaaGreat
open Go.RowKit
set_option linter.unusedVariables false
set_option linter.unusedSimpArgs false

theorem pairsR_nil : ∀ (n : Nat) (bad : Bool), (pairsR n [] bad).2.1 = []
  | 0, _ => rfl
  | n + 1, bad => by
    have h : textV [] bad = ⟨#[]⟩ := Classical.byContradiction (fun h => textV_some h rfl)
    rw [pairsR, if_pos h]
    unfold nx
    split <;> simp

set_option maxRecDepth 100000 in
set_option maxHeartbeats 4000000 in
theorem parse_ssl (p : Option Addr) (l : List UInt8) (cap : Nat) (w : World) (h4 : 4 ≤ l.length) (hl : l.length ≤ 100000) (hb : BytesIn w p l) (h1 : numV l false 4 = 80877103) :
    Calls Tryz.prog 72 #[.slice p l.length cap] w (ParseR l w) := by
  have hi : ¬ ((l.length : Nat) : Int) < 4 := by omega
  have hok : numOk l false 4 = true := by unfold numOk; simp [sizedB]; omega
  obtain ⟨R, hR⟩ : ∃ R, l.drop 4 = R := ⟨_, rfl⟩
  have hRl : R.length ≤ 100000 := by rw [← hR, List.length_drop]; omega
  have Hv : Hid (parseV l = if R = [] then (⟨80877103, 0, 0, []⟩, 0) else (helZero, 4)) := Lib.hid (by unfold parseV; rw [if_neg (by omega)]; dsimp only; rw [h1, hR]; simp)
  have Hr : Hid (Blk (w.alloc (.cells helZ 42)) w.heap.size 42 helZ) := Lib.hid (Blk.new _ _ _)
  have hA : Below w.heap.size w (w.alloc (.cells helZ 42)) := (Below.refl _ _).alloc (Nat.le_refl _) _
  have HA := Lib.hid hA
  have hz : w.heap.size < (w.alloc (.cells helZ 42)).heap.size := by simp
  have HN := Lib.hid (scanNew_any p l cap (w.alloc (.cells helZ 42)) (by omega) ((Touch.of_below (p := fun _ => False) hA).bytesIn hb (fun _ _ _ e => e)))
  have Hc := Lib.hid (And.intro h1 (And.intro hok hR))
  clear hb hA h1 hok hR
  unfold helZ at Hr HA HN hz
  go_enter Tryz.func72, Tryz.ntmps72
  go_upto_region 1 with (fail)
  generalize w.alloc (.cells #[.int .i64 0, .int .i64 0, .int .i64 0, .slice none 0 0] 42) = w0 at *
  go_wp2_with fail
  refine HN.out.mono ?_
  rintro e w1 ⟨sb, g, rfl, hs1, hsb, hg, hT1⟩
  have hz1 := hT1.size
  have HNm := Lib.hid (scanNum_any sb g l false 4 w1 hs1)
  rw [Hc.out.1, Hc.out.2.1] at HNm
  have HB1 := Lib.hid (HA.out.trans (hT1.below HA.out.size (fun k e => e.elim)))
  have Hr1 := Lib.hid (hT1.blk Hr.out (fun e => e))
  clear hs1 hT1 HN HA Hr
  go_wp2_with fail
  refine HNm.out.mono ?_
  rintro e w2 ⟨rfl, hs2, hT2⟩
  have hs2' : ScanO w2 sb g (l.drop 4) false := hs2
  rw [Hc.out.2.2] at hs2'
  have hz2 := hT2.size
  have HB2 := Lib.hid (HB1.out.trans (hT2.below HB1.out.size (fun k e => by omega)))
  have Hr2 := Lib.hid (hT2.blk Hr1.out (by omega))
  have HS2 := Lib.hid hs2'
  clear hs2 hs2' hT2 HNm HB1 Hr1
  go_upto_region 5 with (fail)
  have hal : Below w2.heap.size w2 (w2.alloc (.cells #[.int .i64 80877103, .int .i64 0, .int .i64 0, .slice none 0 0] 42)) := (Below.refl _ _).alloc (Nat.le_refl _) _
  have Hr3 := Lib.hid (Hr2.out.below hal Hr2.out.lt)
  have HB3 := Lib.hid (HB2.out.trans (hal.mono HB2.out.size))
  have HX3 : Hid (Blk (w2.alloc (.cells #[.int .i64 80877103, .int .i64 0, .int .i64 0, .slice none 0 0] 42)) w2.heap.size 42 #[.int .i64 80877103, .int .i64 0, .int .i64 0, .slice none 0 0]) := Lib.hid (Blk.new _ _ _)
  have HS3 := Lib.hid (HS2.out.touch (Touch.of_below (p := fun _ => False) hal) (fun e => e) (fun _ e => e))
  have hsl := HS2.out.lt
  have hz3 : w2.heap.size < (w2.alloc (.cells #[.int .i64 80877103, .int .i64 0, .int .i64 0, .slice none 0 0] 42)).heap.size := by simp
  have hgl : R ≠ [] → g < w2.heap.size := fun e => HS2.out.ltg e
  have Hgl := Lib.hid hgl
  clear hal Hr2 HB2 HS2 hgl
  generalize w2.alloc (.cells #[.int .i64 80877103, .int .i64 0, .int .i64 0, .slice none 0 0] 42) = w3 at *
  generalize w2.heap.size = gh at *
  have hx3 := HX3.out.cell
  have HD := Lib.hid (scanDone_any sb g R false w3 HS3.out)
  have hc := Hr3.out.cell
  have hf := Hr3.out.frozen
  cases hRe : R with
  | nil =>
    rw [hRe] at HD Hv
    have Hv' : Hid (parseV l = (⟨80877103, 0, 0, []⟩, 0)) := Lib.hid (by rw [Hv.out]; simp)
    simp only [List.isEmpty_nil, Bool.not_false, Bool.and_true] at HD
    clear hRe
    go_wp2_with (go_at_call 90; refine HD.out.mono ?_; rintro e w4 ⟨rfl, rfl⟩)
    have hT := setHel_touch w3 w.heap.size ⟨80877103, 0, 0, []⟩ none 0
    have hbf := setHel_blk ⟨80877103, 0, 0, []⟩ none 0 Hr3.out
    have HB := Lib.hid (HB3.out.trans (hT.below HB3.out.size (fun k hk => by omega)))
    unfold setHel at hbf HB
    unfold helCells at hbf
    dsimp only [List.length_nil] at hbf HB
    have hcf := hbf.cell
    clear hT hbf hc hf
    refine bodyPost_ret (v := .tuple #[.agg #[.int .i64 80877103, .int .i64 0, .int .i64 0, .slice none 0 0], .int .i64 0]) (by simp [results, Tryz.results72, go_sem, hcf]) rfl ?_
    unfold ParseR
    rw [Hv'.out]
    exact ⟨none, 0, by simp [helArg, helCells], ⟨none, 0, [], rfl, Nat.le_refl _, by simp [maxLen], CellsIn.nil, trivial⟩, HB.out⟩
  | cons b T =>
    rw [hRe] at HD Hv
    have Hv' : Hid (parseV l = (helZero, 4)) := Lib.hid (by rw [Hv.out]; simp)
    simp only [List.isEmpty_cons, Bool.not_false, Bool.and_false] at HD
    clear hRe
    go_wp2_with (go_at_call 90; refine HD.out.mono ?_; rintro e w4 ⟨rfl, rfl⟩)
    have hT := setHel_touch w3 w.heap.size helZero none 0
    have hbf := setHel_blk helZero none 0 Hr3.out
    have HB := Lib.hid (HB3.out.trans (hT.below HB3.out.size (fun k hk => by omega)))
    unfold setHel helZero at hbf HB
    unfold helCells at hbf
    dsimp only [List.length_nil] at hbf HB
    have hcf := hbf.cell
    clear hT hbf hc hf
    refine bodyPost_ret (v := .tuple #[.agg #[.int .i64 0, .int .i64 0, .int .i64 0, .slice none 0 0], .int .i64 4]) (by simp [results, Tryz.results72, go_sem, hcf]) rfl ?_
    unfold ParseR
    rw [Hv'.out]
    exact ⟨none, 0, by simp [helArg, helCells, helZero], ⟨none, 0, [], rfl, Nat.le_refl _, by simp [maxLen], CellsIn.nil, trivial⟩, HB.out⟩

set_option maxRecDepth 100000 in
set_option maxHeartbeats 4000000 in
theorem parse_version (p : Option Addr) (l : List UInt8) (cap : Nat) (w : World) (h4 : 4 ≤ l.length) (hl : l.length ≤ 100000) (hb : BytesIn w p l) (h1 : numV l false 4 = 196608) :
    Calls Tryz.prog 72 #[.slice p l.length cap] w (ParseR l w) := by
  have hi : ¬ ((l.length : Nat) : Int) < 4 := by omega
  have hok : numOk l false 4 = true := by unfold numOk; simp [sizedB]; omega
  obtain ⟨R, hR⟩ : ∃ R, l.drop 4 = R := ⟨_, rfl⟩
  have hRl : R.length ≤ 100000 := by rw [← hR, List.length_drop]; omega
  obtain ⟨P, hP⟩ : ∃ P, pairsR (R.length + 1) R false = P := ⟨_, rfl⟩
  have Hv : Hid (parseV l = if P.2.2 = false ∧ P.2.1 = [] then (⟨196608, 0, 0, P.1⟩, 0) else (helZero, 4)) := Lib.hid (by unfold parseV; rw [if_neg (by omega)]; dsimp only; rw [h1, hR, hP]; simp)
  have HPe := Lib.hid hP
  clear hP
  have Hr : Hid (Blk (w.alloc (.cells helZ 42)) w.heap.size 42 helZ) := Lib.hid (Blk.new _ _ _)
  have hA : Below w.heap.size w (w.alloc (.cells helZ 42)) := (Below.refl _ _).alloc (Nat.le_refl _) _
  have HA := Lib.hid hA
  have hz : w.heap.size < (w.alloc (.cells helZ 42)).heap.size := by simp
  have HN := Lib.hid (scanNew_any p l cap (w.alloc (.cells helZ 42)) (by omega) ((Touch.of_below (p := fun _ => False) hA).bytesIn hb (fun _ _ _ e => e)))
  have Hc := Lib.hid (And.intro h1 (And.intro hok hR))
  clear hb hA h1 hok hR
  unfold helZ at Hr HA HN hz
  go_enter Tryz.func72, Tryz.ntmps72
  go_upto_region 1 with (fail)
  generalize w.alloc (.cells #[.int .i64 0, .int .i64 0, .int .i64 0, .slice none 0 0] 42) = w0 at *
  go_wp2_with fail
  refine HN.out.mono ?_
  rintro e w1 ⟨sb, g, rfl, hs1, hsb, hg, hT1⟩
  have hz1 := hT1.size
  have HNm := Lib.hid (scanNum_any sb g l false 4 w1 hs1)
  rw [Hc.out.1, Hc.out.2.1] at HNm
  have HB1 := Lib.hid (HA.out.trans (hT1.below HA.out.size (fun k e => e.elim)))
  have Hr1 := Lib.hid (hT1.blk Hr.out (fun e => e))
  clear hs1 hT1 HN HA Hr
  go_wp2_with fail
  refine HNm.out.mono ?_
  rintro e w2 ⟨rfl, hs2, hT2⟩
  have hs2' : ScanO w2 sb g (l.drop 4) false := hs2
  rw [Hc.out.2.2] at hs2'
  have hz2 := hT2.size
  have HB2 := Lib.hid (HB1.out.trans (hT2.below HB1.out.size (fun k e => by omega)))
  have Hr2 := Lib.hid (hT2.blk Hr1.out (by omega))
  have HS2 := Lib.hid hs2'
  clear hs2 hs2' hT2 HNm HB1 Hr1
  go_upto_region 5 with (fail)
  have hal : Below w2.heap.size w2 (w2.alloc (.cells #[.int .i64 196608, .int .i64 0, .int .i64 0, .slice none 0 0] 42)) := (Below.refl _ _).alloc (Nat.le_refl _) _
  have Hr3 := Lib.hid (Hr2.out.below hal Hr2.out.lt)
  have HB3 := Lib.hid (HB2.out.trans (hal.mono HB2.out.size))
  have HX3 : Hid (Blk (w2.alloc (.cells #[.int .i64 196608, .int .i64 0, .int .i64 0, .slice none 0 0] 42)) w2.heap.size 42 #[.int .i64 196608, .int .i64 0, .int .i64 0, .slice none 0 0]) := Lib.hid (Blk.new _ _ _)
  have HS3 := Lib.hid (HS2.out.touch (Touch.of_below (p := fun _ => False) hal) (fun e => e) (fun _ e => e))
  have hsl := HS2.out.lt
  have hz3 : w2.heap.size < (w2.alloc (.cells #[.int .i64 196608, .int .i64 0, .int .i64 0, .slice none 0 0] 42)).heap.size := by simp
  have hgl : R ≠ [] → g < w2.heap.size := fun e => HS2.out.ltg e
  have Hgl := Lib.hid hgl
  clear hal Hr2 HB2 HS2 hgl
  generalize w2.alloc (.cells #[.int .i64 196608, .int .i64 0, .int .i64 0, .slice none 0 0] 42) = w3 at *
  generalize w2.heap.size = gh at *
  have hx3 := HX3.out.cell
  have HPr := Lib.hid (pairs_any sb g R false w3 HS3.out hRl)
  rw [HPe.out] at HPr
  obtain ⟨N, hN⟩ : ∃ N, P.1.length = N := ⟨_, rfl⟩
  have HNn := Lib.hid hN
  clear hN
  go_upto_region 12 with (go_at_call 93; refine HPr.out.mono ?_; rintro e w4 ⟨vo, rfl, ho4, hs4, hT4⟩; have hz4 := hT4.size; have HO4 := Lib.hid ho4; have HS4 := Lib.hid hs4; have HX4 := Lib.hid (hT4.blk HX3.out (by omega)); have Hr4 := Lib.hid (hT4.blk Hr3.out (by omega)); have HB4 := Lib.hid (HB3.out.trans (hT4.below HB3.out.size (fun k e => by omega))); have hx4 := HX4.out.cell; have hy4 := HX4.out.frozen; obtain ⟨p4, c4, hv4, _⟩ := ho4.slice PrS.still (S' := fun _ => True) (fun _ _ _ => trivial) (fun _ _ => trivial); rw [HNn.out] at hv4; subst hv4; clear ho4 hs4 hT4 hx3)
  have hT5 : Touch (fun i => i = gh) w4 (w4.setCell ⟨gh, 3, none⟩ (.slice p4 N c4)) := (Touch.refl (fun i => i = gh) _).setCell (x := ⟨gh, 3, none⟩) (fun _ => rfl) _
  have hx5 := HX4.out.set_ 3 (.slice p4 N c4)
  simp only [List.setIfInBounds_toArray, List.set_cons_succ, List.set_cons_zero] at hx5
  have Hr5 := Lib.hid (hT5.blk Hr4.out (by omega))
  have HB5 := Lib.hid (HB4.out.trans (hT5.below HB4.out.size (fun k e => by omega)))
  have HS5 := Lib.hid (HS4.out.touch hT5 (fun e => by omega) (fun hne e => by
    have hr0 : R ≠ [] := fun er => hne (by rw [← HPe.out, er]; exact pairsR_nil _ _)
    have := Hgl.out hr0
    omega))
  have HO5 := Lib.hid (HO4.out.touch (S' := fun k => w3.heap.size ≤ k) PrS.still hT5 (fun k hk => by have := (HO4.out.row k hk).1; omega) (fun k _ hk _ => ⟨hk, fun e => by omega⟩))
  clear hT5 hx4 hy4 HX4 Hr4 HB4 HS4 HO4
  generalize w4.setCell ⟨gh, 3, none⟩ (.slice p4 N c4) = w5 at *
  have hc5 := hx5.cell
  have HD := Lib.hid (scanDone_any sb g P.2.1 P.2.2 w5 HS5.out)
  have hc := Hr5.out.cell
  have hf := Hr5.out.frozen
  by_cases hd : P.2.2 = false ∧ P.2.1 = []
  · have Hv' : Hid (parseV l = (⟨196608, 0, 0, P.1⟩, 0)) := Lib.hid (by rw [Hv.out, if_pos hd])
    rw [hd.1, hd.2] at HD
    simp only [List.isEmpty_nil, Bool.not_false, Bool.and_true] at HD
    clear hd
    go_wp2_with (go_at_call 90; refine HD.out.mono ?_; rintro e w6 ⟨rfl, rfl⟩)
    have hT := setHel_touch w5 w.heap.size ⟨196608, 0, 0, P.1⟩ p4 c4
    have hbf := setHel_blk ⟨196608, 0, 0, P.1⟩ p4 c4 Hr5.out
    have HB := Lib.hid (HB5.out.trans (hT.below HB5.out.size (fun k hk => by omega)))
    have HR := Lib.hid (HO5.out.touch (S' := fun k => w3.heap.size ≤ k) PrS.still hT (fun k hk => by have := (HO5.out.row k hk).1; omega) (fun k _ hk _ => ⟨hk, fun e => by omega⟩))
    unfold setHel at hbf HB HR
    unfold helCells at hbf
    dsimp only at hbf HB HR
    rw [HNn.out] at hbf HB HR
    have hcf := hbf.cell
    clear hT hbf hc hf hc5 hx5
    refine bodyPost_ret (v := .tuple #[.agg #[.int .i64 196608, .int .i64 0, .int .i64 0, .slice p4 N c4], .int .i64 0]) (by simp [results, Tryz.results72, go_sem, hcf]) rfl ?_
    unfold ParseR
    rw [Hv'.out]
    dsimp only
    obtain ⟨pz, cz, ez, hzz⟩ := HR.out.slice PrS.still (S' := fun k => w.heap.size ≤ k) (fun k _ hk => by have hk' : w3.heap.size ≤ k := hk; omega) (fun k hk => by have := (HR.out.row k hk).1; omega)
    rw [HNn.out] at ez hzz ⊢
    rw [← ez] at hzz
    refine ⟨p4, c4, ?_, hzz, HB.out⟩
    simp only [helArg, helCells]
    rw [HNn.out]
  · have Hv' : Hid (parseV l = (helZero, 4)) := Lib.hid (by rw [Hv.out, if_neg hd])
    have hd' : (!P.2.2 && P.2.1.isEmpty) = false := by
      cases e : (!P.2.2 && P.2.1.isEmpty) with
      | false => rfl
      | true =>
        simp at e
        exact absurd e hd
    rw [hd'] at HD
    clear hd hd'
    go_wp2_with (go_at_call 90; refine HD.out.mono ?_; rintro e w6 ⟨rfl, rfl⟩)
    have hT := setHel_touch w5 w.heap.size helZero none 0
    have hbf := setHel_blk helZero none 0 Hr5.out
    have HB := Lib.hid (HB5.out.trans (hT.below HB5.out.size (fun k hk => by omega)))
    unfold setHel helZero at hbf HB
    unfold helCells at hbf
    dsimp only [List.length_nil] at hbf HB
    have hcf := hbf.cell
    clear hT hbf hc hf
    refine bodyPost_ret (v := .tuple #[.agg #[.int .i64 0, .int .i64 0, .int .i64 0, .slice none 0 0], .int .i64 4]) (by simp [results, Tryz.results72, go_sem, hcf]) rfl ?_
    unfold ParseR
    rw [Hv'.out]
    exact ⟨none, 0, by simp [helArg, helCells, helZero], ⟨none, 0, [], rfl, Nat.le_refl _, by simp [maxLen], CellsIn.nil, trivial⟩, HB.out⟩

set_option maxRecDepth 100000 in
set_option maxHeartbeats 4000000 in
theorem parse_cancel (p : Option Addr) (l : List UInt8) (cap : Nat) (w : World) (h4 : 4 ≤ l.length) (hl : l.length ≤ 100000) (hb : BytesIn w p l) (h1 : numV l false 4 = 80877102) :
    Calls Tryz.prog 72 #[.slice p l.length cap] w (ParseR l w) := by
  have hi : ¬ ((l.length : Nat) : Int) < 4 := by omega
  have hok : numOk l false 4 = true := by unfold numOk; simp [sizedB]; omega
  obtain ⟨R, hR⟩ : ∃ R, l.drop 4 = R := ⟨_, rfl⟩
  have hRl : R.length ≤ 100000 := by rw [← hR, List.length_drop]; omega
  obtain ⟨S, hS⟩ : ∃ S, nx (numOk R false 4) (R.drop 4) [] = S := ⟨_, rfl⟩
  obtain ⟨k1, hk1⟩ : ∃ k, numOk R false 4 = k := ⟨_, rfl⟩
  obtain ⟨k2, hk2⟩ : ∃ k, numOk S (!k1) 4 = k := ⟨_, rfl⟩
  obtain ⟨a1, ha1⟩ : ∃ a, numV R false 4 = a := ⟨_, rfl⟩
  obtain ⟨a2, ha2⟩ : ∃ a, numV S (!k1) 4 = a := ⟨_, rfl⟩
  have Hv : Hid (parseV l = if k2 = true ∧ S.drop 4 = [] then (⟨80877102, a1, a2, []⟩, 0) else (helZero, 4)) := Lib.hid (by unfold parseV; rw [if_neg (by omega)]; dsimp only; rw [h1, hR, hS, hk1, hk2, ha1, ha2]; simp)
  have Hk := Lib.hid (And.intro hS (And.intro hk1 (And.intro hk2 (And.intro ha1 ha2))))
  clear hS hk1 hk2 ha1 ha2
  have Hr : Hid (Blk (w.alloc (.cells helZ 42)) w.heap.size 42 helZ) := Lib.hid (Blk.new _ _ _)
  have hA : Below w.heap.size w (w.alloc (.cells helZ 42)) := (Below.refl _ _).alloc (Nat.le_refl _) _
  have HA := Lib.hid hA
  have hz : w.heap.size < (w.alloc (.cells helZ 42)).heap.size := by simp
  have HN := Lib.hid (scanNew_any p l cap (w.alloc (.cells helZ 42)) (by omega) ((Touch.of_below (p := fun _ => False) hA).bytesIn hb (fun _ _ _ e => e)))
  have Hc := Lib.hid (And.intro h1 (And.intro hok hR))
  clear hb hA h1 hok hR
  unfold helZ at Hr HA HN hz
  go_enter Tryz.func72, Tryz.ntmps72
  go_upto_region 1 with (fail)
  generalize w.alloc (.cells #[.int .i64 0, .int .i64 0, .int .i64 0, .slice none 0 0] 42) = w0 at *
  go_wp2_with fail
  refine HN.out.mono ?_
  rintro e w1 ⟨sb, g, rfl, hs1, hsb, hg, hT1⟩
  have hz1 := hT1.size
  have HNm := Lib.hid (scanNum_any sb g l false 4 w1 hs1)
  rw [Hc.out.1, Hc.out.2.1] at HNm
  have HB1 := Lib.hid (HA.out.trans (hT1.below HA.out.size (fun k e => e.elim)))
  have Hr1 := Lib.hid (hT1.blk Hr.out (fun e => e))
  clear hs1 hT1 HN HA Hr
  go_wp2_with fail
  refine HNm.out.mono ?_
  rintro e w2 ⟨rfl, hs2, hT2⟩
  have hs2' : ScanO w2 sb g (l.drop 4) false := hs2
  rw [Hc.out.2.2] at hs2'
  have hz2 := hT2.size
  have HB2 := Lib.hid (HB1.out.trans (hT2.below HB1.out.size (fun k e => by omega)))
  have Hr2 := Lib.hid (hT2.blk Hr1.out (by omega))
  have HS2 := Lib.hid hs2'
  clear hs2 hs2' hT2 HNm HB1 Hr1
  go_upto_region 5 with (fail)
  have hal : Below w2.heap.size w2 (w2.alloc (.cells #[.int .i64 80877102, .int .i64 0, .int .i64 0, .slice none 0 0] 42)) := (Below.refl _ _).alloc (Nat.le_refl _) _
  have Hr3 := Lib.hid (Hr2.out.below hal Hr2.out.lt)
  have HB3 := Lib.hid (HB2.out.trans (hal.mono HB2.out.size))
  have HX3 : Hid (Blk (w2.alloc (.cells #[.int .i64 80877102, .int .i64 0, .int .i64 0, .slice none 0 0] 42)) w2.heap.size 42 #[.int .i64 80877102, .int .i64 0, .int .i64 0, .slice none 0 0]) := Lib.hid (Blk.new _ _ _)
  have HS3 := Lib.hid (HS2.out.touch (Touch.of_below (p := fun _ => False) hal) (fun e => e) (fun _ e => e))
  have hsl := HS2.out.lt
  have hz3 : w2.heap.size < (w2.alloc (.cells #[.int .i64 80877102, .int .i64 0, .int .i64 0, .slice none 0 0] 42)).heap.size := by simp
  have hgl : R ≠ [] → g < w2.heap.size := fun e => HS2.out.ltg e
  have Hgl := Lib.hid hgl
  clear hal Hr2 HB2 HS2 hgl
  generalize w2.alloc (.cells #[.int .i64 80877102, .int .i64 0, .int .i64 0, .slice none 0 0] 42) = w3 at *
  generalize w2.heap.size = gh at *
  have hx3 := HX3.out.cell
  have HN1 := Lib.hid (scanNum_any sb g R false 4 w3 HS3.out)
  rw [Hk.out.2.2.2.1, Hk.out.2.1] at HN1
  go_wp2_with fail
  refine HN1.out.mono ?_
  rintro e w4 ⟨rfl, hs4, hT4⟩
  have hs4' : ScanO w4 sb g (nx (numOk R false 4) (R.drop 4) []) (!k1) := by rw [Hk.out.2.1]; exact hs4
  rw [Hk.out.1] at hs4'
  have hz4 := hT4.size
  have HN2 := Lib.hid (scanNum_any sb g S (!k1) 4 w4 hs4')
  rw [Hk.out.2.2.2.2, Hk.out.2.2.1] at HN2
  have HX4 := Lib.hid (hT4.blk HX3.out (by omega))
  have Hr4 := Lib.hid (hT4.blk Hr3.out (by omega))
  have HB4 := Lib.hid (HB3.out.trans (hT4.below HB3.out.size (fun k e => by omega)))
  clear hs4 hs4' hT4 hx3 HN1
  go_wp2_with fail
  refine HN2.out.mono ?_
  rintro e w5 ⟨rfl, hs5, hT5⟩
  have hz5 := hT5.size
  have HX5 := Lib.hid (hT5.blk HX4.out (by omega))
  have Hr5 := Lib.hid (hT5.blk Hr4.out (by omega))
  have HB5 := Lib.hid (HB4.out.trans (hT5.below HB4.out.size (fun k e => by omega)))
  have HS5 := Lib.hid hs5
  have hx5 := HX5.out.cell
  have hy5 := HX5.out.frozen
  clear hs5 hT5 HN2 HX4 Hr4 HB4
  go_upto_region 12 with (fail)
  have hT6 : Touch (fun i => i = gh) w5 ((w5.setCell ⟨gh, 1, none⟩ (.int .i64 a1)).setCell ⟨gh, 2, none⟩ (.int .i64 a2)) := ((Touch.refl (fun i => i = gh) _).setCell (x := ⟨gh, 1, none⟩) (fun _ => rfl) _).setCell (x := ⟨gh, 2, none⟩) (fun _ => rfl) _
  have hx6 := (HX5.out.set_ 1 (.int .i64 a1)).set_ 2 (.int .i64 a2)
  simp only [List.setIfInBounds_toArray, List.set_cons_succ, List.set_cons_zero] at hx6
  have Hr6 := Lib.hid (hT6.blk Hr5.out (by omega))
  have HB6 := Lib.hid (HB5.out.trans (hT6.below HB5.out.size (fun k e => by omega)))
  have HS6 := Lib.hid (HS5.out.touch hT6 (fun e => by omega) (fun hne e => by
    have hr0 : R ≠ [] := fun er => hne (by
      have hs : S = [] := by rw [← Hk.out.1, er]; unfold nx; split <;> simp
      rw [hs]; unfold nx; split <;> simp)
    have := Hgl.out hr0
    omega))
  clear hT6 hx5 hy5 HX5 Hr5 HB5 HS5
  generalize (w5.setCell ⟨gh, 1, none⟩ (.int .i64 a1)).setCell ⟨gh, 2, none⟩ (.int .i64 a2) = w6 at *
  have hc6 := hx6.cell
  have HD := Lib.hid (scanDone_any sb g _ _ w6 HS6.out)
  have hc := Hr6.out.cell
  have hf := Hr6.out.frozen
  by_cases hd : k2 = true ∧ S.drop 4 = []
  · have Hv' : Hid (parseV l = (⟨80877102, a1, a2, []⟩, 0)) := Lib.hid (by rw [Hv.out, if_pos hd])
    have hnx : nx k2 (S.drop (4 : Int).toNat) [] = [] := by rw [show (4 : Int).toNat = 4 from rfl, hd.2]; unfold nx; split <;> rfl
    rw [hnx, hd.1] at HD
    simp only [List.isEmpty_nil, Bool.not_true, Bool.not_false, Bool.and_true] at HD
    clear hd hnx
    go_wp2_with (go_at_call 90; refine HD.out.mono ?_; rintro e w7 ⟨rfl, rfl⟩)
    have hT := setHel_touch w6 w.heap.size ⟨80877102, a1, a2, []⟩ none 0
    have hbf := setHel_blk ⟨80877102, a1, a2, []⟩ none 0 Hr6.out
    have HB := Lib.hid (HB6.out.trans (hT.below HB6.out.size (fun k hk => by omega)))
    unfold setHel at hbf HB
    unfold helCells at hbf
    dsimp only [List.length_nil] at hbf HB
    have hcf := hbf.cell
    clear hT hbf hc hf hc6 hx6
    refine bodyPost_ret (v := .tuple #[.agg #[.int .i64 80877102, .int .i64 a1, .int .i64 a2, .slice none 0 0], .int .i64 0]) (by simp [results, Tryz.results72, go_sem, hcf]) rfl ?_
    unfold ParseR
    rw [Hv'.out]
    exact ⟨none, 0, by simp [helArg, helCells], ⟨none, 0, [], rfl, Nat.le_refl _, by simp [maxLen], CellsIn.nil, trivial⟩, HB.out⟩
  · have Hv' : Hid (parseV l = (helZero, 4)) := Lib.hid (by rw [Hv.out, if_neg hd])
    have hd' : (!(!k2) && (nx k2 (S.drop (4 : Int).toNat) []).isEmpty) = false := by
      cases hk2 : k2 with
      | false => rfl
      | true =>
        have h2 : S.drop 4 ≠ [] := fun e => hd ⟨hk2, e⟩
        show (!(!true) && (S.drop 4).isEmpty) = false
        simpa using h2
    rw [hd'] at HD
    clear hd hd'
    go_wp2_with (go_at_call 90; refine HD.out.mono ?_; rintro e w7 ⟨rfl, rfl⟩)
    have hT := setHel_touch w6 w.heap.size helZero none 0
    have hbf := setHel_blk helZero none 0 Hr6.out
    have HB := Lib.hid (HB6.out.trans (hT.below HB6.out.size (fun k hk => by omega)))
    unfold setHel helZero at hbf HB
    unfold helCells at hbf
    dsimp only [List.length_nil] at hbf HB
    have hcf := hbf.cell
    clear hT hbf hc hf
    refine bodyPost_ret (v := .tuple #[.agg #[.int .i64 0, .int .i64 0, .int .i64 0, .slice none 0 0], .int .i64 4]) (by simp [results, Tryz.results72, go_sem, hcf]) rfl ?_
    unfold ParseR
    rw [Hv'.out]
    exact ⟨none, 0, by simp [helArg, helCells, helZero], ⟨none, 0, [], rfl, Nat.le_refl _, by simp [maxLen], CellsIn.nil, trivial⟩, HB.out⟩

end Go.Proofs.YtacnmdlefonjmaaGreat

/-
  First messages (layer 5): hello.Parse of any bytes.
-/
namespace Go.Proofs.YtacnmdlefonjmaaGreat
open Go.RowKit
set_option linter.unusedVariables false
set_option linter.unusedSimpArgs false

theorem parse_any (p : Option Addr) (l : List UInt8) (cap : Nat) (w : World) (hl : l.length ≤ 100000) (hb : BytesIn w p l) :
    Calls Tryz.prog 72 #[.slice p l.length cap] w (ParseR l w) := by
  by_cases h4 : l.length < 4
  · exact parse_short p l cap w h4
  · have h4' : 4 ≤ l.length := by omega
    by_cases h1 : numV l false 4 = 196608
    · exact parse_version p l cap w h4' hl hb h1
    · by_cases h2 : numV l false 4 = 80877102
      · exact parse_cancel p l cap w h4' hl hb h2
      · by_cases h3 : numV l false 4 = 80877103
        · exact parse_ssl p l cap w h4' hl hb h3
        · exact parse_kind p l cap w h4' hl hb h1 h2 h3

end Go.Proofs.YtacnmdlefonjmaaGreat

/-
  What comes of a client (layer 39): what is next, as a value; first messages, messages, faults.
-/
namespace Go.Proofs.YtacnmdlefonjmaaGreat
open Go.RowKit
set_option linter.unusedVariables false
set_option linter.unusedSimpArgs false

/-- What is next. -/
structure ItV where
  kind : Int
  hel : HelV
  front : FoV
  code : ByteArray
  text : ByteArray
def itCells (x : ItV) (p : Option Addr) (c : Nat) (a : FoP) : Array Value := #[.int .i64 x.kind, .int .i64 x.hel.code, .int .i64 x.hel.process, .int .i64 x.hel.secret, .slice p x.hel.params.length c,
  .int .u8 x.front.kind, .int .u8 x.front.what, .string x.front.name, .string x.front.portal, .string x.front.text, .slice a.po x.front.oids.length a.co, .slice a.pf x.front.formats.length a.cf, .slice a.pr x.front.results.length a.cr, .slice a.pp x.front.params.length a.cp, .int .i64 x.front.max, .string x.code, .string x.text]
def itArg (x : ItV) (p : Option Addr) (c : Nat) (a : FoP) : Value := .agg (itCells x p c a)
def helNo : HelV := ⟨0, 0, 0, []⟩
def itNo : ItV := ⟨0, helNo, foZero 0, ⟨#[]⟩, ⟨#[]⟩⟩
def codeA : ByteArray := ⟨#[48, 65, 48, 48, 48]⟩
def codeB : ByteArray := ⟨#[48, 56, 80, 48, 49]⟩
def textA : ByteArray := ⟨#[117, 110, 115, 117, 112, 112, 111, 114, 116, 101, 100, 32, 109, 101, 115, 115, 97, 103, 101]⟩
def textB : ByteArray := ⟨#[112, 114, 111, 116, 111, 99, 111, 108, 32, 118, 105, 111, 108, 97, 116, 105, 111, 110]⟩
/-- A fault. -/
def faultV (e : Int) : ItV := if e = 9 then ⟨3, helNo, foZero 0, codeA, textA⟩ else ⟨3, helNo, foZero 0, codeB, textB⟩
def firstV (b : List UInt8) : ItV := if (parseV b).2 = 0 then ⟨1, (parseV b).1, foZero 0, ⟨#[]⟩, ⟨#[]⟩⟩ else faultV (parseV b).2
def messageV (ty : Int) (b : List UInt8) : ItV := if (decF ty b).2 = 0 then ⟨2, helNo, (decF ty b).1, ⟨#[]⟩, ⟨#[]⟩⟩ else faultV (decF ty b).2
/-- What a message is. -/
def itemV (t whole : Bool) (ty : Int) (b : List UInt8) (e : Int) : ItV := if e = 0 then (if whole = true then (if t = true then messageV ty b else firstV b) else itNo) else faultV e
/-- What is left: the item, its lists. -/
def ItR (x : ItV) (w : World) (e : Ending) (w' : World) : Prop :=
  ∃ p c a, e = .returned (itArg x p c a) ∧ SliceS 2 PrS (fun j => w.heap.size ≤ j) w' [.slice p x.hel.params.length c] x.hel.params ∧ FoL (fun j => w.heap.size ≤ j) w' x.front a ∧ Below w.heap.size w w'
def itZ : Array Value := #[.int .i64 0, .int .i64 0, .int .i64 0, .int .i64 0, .slice none 0 0, .int .u8 0, .int .u8 0, .string ⟨#[]⟩, .string ⟨#[]⟩, .string ⟨#[]⟩, .slice none 0 0, .slice none 0 0, .slice none 0 0, .slice none 0 0, .int .i64 0, .string ⟨#[]⟩, .string ⟨#[]⟩]
theorem it_info : (Tryz.prog.info? 48).map (fun i => i.size) = some 17 := by kernel_rfl
/-- An item is stored into a block of its own. -/
theorem wpList_store_it {ops : Array Oper} {rest : List Oper} {o : Oper} {a : Act} {Q : Exit → Act → World → Prop} (w : World) (hgd : o.guard = none) (x y : Operand) (ho : o.op = .store 48 x y) (g : Nat) (old cells : Array Value) (hx : a.eval x = .pointer (some ⟨g, 0, none⟩)) (hy : a.eval y = .agg cells)
    (hb : Blk w g 48 old) (h1 : old.size = 17) (h2 : cells.size = 17) (h3 : cells.all (·.oneCell') = true)
    (h : ∀ w', Blk w' g 48 cells → Touch (fun k => k = g) w w' → wpList Tryz.prog ops Q rest (a.put o.dst undef) w') : wpList Tryz.prog ops Q (o :: rest) a w :=
  wpList_plain hgd fun _ hK => wp_store_row 48 x y ho g cells hx hy 48 old hb (by rw [h2]; exact it_info) (by rw [h1, h2]) h3 (hK _ _ (h (w.setRow g cells) (setRow_heap w g old cells _ _ hb)
    ⟨rfl, rfl, rfl, by simp [World.setRow], fun k _ hk => setRow_other w g k cells hk⟩))
/-- The end: the result's block is set. -/
theorem it_fin {w0 w w8 : World} {g : Nat} (hT : Touch (fun k => k = g) w w8) (hB : Below w0.heap.size w0 w) (hg : w0.heap.size ≤ g) (x : ItV) (p : Option Addr) (c : Nat) (a : FoP)
    (hs : SliceS 2 PrS (fun j => w0.heap.size ≤ j ∧ j ≠ g) w [.slice p x.hel.params.length c] x.hel.params) (hl : FoL (fun j => w0.heap.size ≤ j ∧ j ≠ g) w x.front a) : ItR x w0 (.returned (itArg x p c a)) w8 :=
  ⟨p, c, a, rfl, (SliceS.still PrS.still) _ _ _ _ _ _ hs (Kept.touch hT (fun j _ h => ⟨h.1, h.2⟩)), hl.keep (Kept.touch hT (fun j _ h => ⟨h.1, h.2⟩)), hB.trans (hT.below hB.size (fun j e => by omega))⟩

theorem it_hz (w : World) : Blk (w.alloc (.cells itZ 48)) w.heap.size 48 itZ := Blk.new _ _ _

set_option maxRecDepth 100000 in
set_option maxHeartbeats 4000000 in
theorem wrong_any (n : Int) (w : World) : Calls Tryz.prog 47 #[.int .i64 n] w (ItR (faultV n) w) := by
  have HBg := Lib.hid (it_hz w)
  have HBw : Hid (Below w.heap.size w (w.alloc (.cells itZ 48))) := Lib.hid ((Below.refl _ _).alloc (Nat.le_refl _) _)
  have hz : w.heap.size ≤ w.heap.size := Nat.le_refl _
  unfold itZ at HBg HBw
  by_cases h9 : n = 9
  · subst h9
    rw [show faultV 9 = ⟨3, helNo, foZero 0, codeA, textA⟩ from rfl]
    go_enter Tryz.func47, Tryz.ntmps47
    go_upto_region 2 with (fail)
    generalize w.alloc (.cells #[.int .i64 0, .int .i64 0, .int .i64 0, .int .i64 0, .slice none 0 0, .int .u8 0, .int .u8 0, .string ⟨#[]⟩, .string ⟨#[]⟩, .string ⟨#[]⟩, .slice none 0 0, .slice none 0 0, .slice none 0 0, .slice none 0 0, .int .i64 0, .string ⟨#[]⟩, .string ⟨#[]⟩] 48) = w0 at *
    have Hle := Lib.hid hz
    clear hz
    obtain ⟨g, hg0⟩ : ∃ g, g = w.heap.size := ⟨_, rfl⟩
    have Hle : Hid (w.heap.size ≤ g) := Lib.hid (by omega)
    rw [← hg0] at HBg ⊢
    clear hg0
    go_wp2_with (refine wpList_store_it _ rfl (.tmp 2) (.tmp 5) rfl g _ _ rfl rfl HBg.out rfl rfl (by simp [Value.oneCell']) ?_; intro w8 hb8 hT8; have HB8 := Lib.hid hb8; have HT8 := Lib.hid hT8; clear hb8 hT8)
    exact bodyPost_ret (v := .agg #[.int .i64 3, .int .i64 0, .int .i64 0, .int .i64 0, .slice none 0 0, .int .u8 0, .int .u8 0, .string ⟨#[]⟩, .string ⟨#[]⟩, .string ⟨#[]⟩, .slice none 0 0, .slice none 0 0, .slice none 0 0, .slice none 0 0, .int .i64 0, .string ⟨#[48, 65, 48, 48, 48]⟩, .string ⟨#[117, 110, 115, 117, 112, 112, 111, 114, 116, 101, 100, 32, 109, 101, 115, 115, 97, 103, 101]⟩]) (results_cell_row (fn := Tryz.f47) (p := 2) (by kernel_rfl) _ _ g _ _ (0, 0) _ rfl HB8.out Tryz.underlying48 rfl it_info) rfl (it_fin HT8.out HBw.out Hle.out (⟨3, helNo, foZero 0, codeA, textA⟩) (none) (0) (foNil) (SliceS.empty none 0 (by simp [maxLen])) (FoL.zero _ _ 0))
  · rw [show faultV n = ⟨3, helNo, foZero 0, codeB, textB⟩ from if_neg h9]
    have hb : (n == 9) = false := by simpa using h9
    go_enter Tryz.func47, Tryz.ntmps47
    go_upto_region 3 with (fail)
    generalize w.alloc (.cells #[.int .i64 0, .int .i64 0, .int .i64 0, .int .i64 0, .slice none 0 0, .int .u8 0, .int .u8 0, .string ⟨#[]⟩, .string ⟨#[]⟩, .string ⟨#[]⟩, .slice none 0 0, .slice none 0 0, .slice none 0 0, .slice none 0 0, .int .i64 0, .string ⟨#[]⟩, .string ⟨#[]⟩] 48) = w0 at *
    have Hle := Lib.hid hz
    clear hz
    obtain ⟨g, hg0⟩ : ∃ g, g = w.heap.size := ⟨_, rfl⟩
    have Hle : Hid (w.heap.size ≤ g) := Lib.hid (by omega)
    rw [← hg0] at HBg ⊢
    clear hg0
    go_wp2_with (refine wpList_store_it _ rfl (.tmp 2) (.tmp 6) rfl g _ _ rfl rfl HBg.out rfl rfl (by simp [Value.oneCell']) ?_; intro w8 hb8 hT8; have HB8 := Lib.hid hb8; have HT8 := Lib.hid hT8; clear hb8 hT8)
    exact bodyPost_ret (v := .agg #[.int .i64 3, .int .i64 0, .int .i64 0, .int .i64 0, .slice none 0 0, .int .u8 0, .int .u8 0, .string ⟨#[]⟩, .string ⟨#[]⟩, .string ⟨#[]⟩, .slice none 0 0, .slice none 0 0, .slice none 0 0, .slice none 0 0, .int .i64 0, .string ⟨#[48, 56, 80, 48, 49]⟩, .string ⟨#[112, 114, 111, 116, 111, 99, 111, 108, 32, 118, 105, 111, 108, 97, 116, 105, 111, 110]⟩]) (results_cell_row (fn := Tryz.f47) (p := 2) (by kernel_rfl) _ _ g _ _ (0, 0) _ rfl HB8.out Tryz.underlying48 rfl it_info) rfl (it_fin HT8.out HBw.out Hle.out (⟨3, helNo, foZero 0, codeB, textB⟩) (none) (0) (foNil) (SliceS.empty none 0 (by simp [maxLen])) (FoL.zero _ _ 0))

end Go.Proofs.YtacnmdlefonjmaaGreat

/-
  What comes of a client (layer 39): a first message.
-/
namespace Go.Proofs.YtacnmdlefonjmaaGreat
open Go.RowKit
set_option linter.unusedVariables false
set_option linter.unusedSimpArgs false

set_option maxRecDepth 100000 in
set_option maxHeartbeats 8000000 in
theorem first_any (ty : Int) (p0 : Option Addr) (b : List UInt8) (cap : Nat) (w : World) (hl : b.length ≤ 100000) (hb : BytesIn w p0 b) :
    Calls Tryz.prog 49 #[.agg #[.int .u8 ty, .slice p0 b.length cap]] w (ItR (firstV b) w) := by
  have ha1 := (Below.refl w.heap.size w).alloc (Nat.le_refl _) (.cells #[.int .u8 ty, .slice p0 b.length cap] 73)
  have ha2 := ha1.alloc ha1.size (.cells itZ 48)
  have hm := ((Blk.new w 73 #[.int .u8 ty, .slice p0 b.length cap]).alloc (.cells itZ 48)).cell
  have hbg := it_hz (w.alloc (.cells #[.int .u8 ty, .slice p0 b.length cap] 73))
  have hz2 : ((w.alloc (.cells #[.int .u8 ty, .slice p0 b.length cap] 73)).alloc (.cells itZ 48)).heap.size = w.heap.size + 1 + 1 := by simp
  rw [World.size_alloc] at hbg
  have hp := parse_any p0 b cap _ hl (hb.below ha2)
  generalize hy : firstV b = y
  unfold firstV at hy
  have Hy := Lib.hid hy
  clear hy
  unfold itZ at *
  go_enter Tryz.func49, Tryz.ntmps49
  go_wp2_with fail
  generalize ((w.alloc (.cells #[.int .u8 ty, .slice p0 b.length cap] 73)).alloc (.cells #[.int .i64 0, .int .i64 0, .int .i64 0, .int .i64 0, .slice none 0 0, .int .u8 0, .int .u8 0, .string ⟨#[]⟩, .string ⟨#[]⟩, .string ⟨#[]⟩, .slice none 0 0, .slice none 0 0, .slice none 0 0, .slice none 0 0, .int .i64 0, .string ⟨#[]⟩, .string ⟨#[]⟩] 48)) = w2 at *
  have Hz2 := Lib.hid hz2
  have HBw := Lib.hid ha2
  have HBg := Lib.hid hbg
  have Hp := Lib.hid hp
  clear ha1 ha2 hz2 hbg hp hm
  obtain ⟨g, hg0⟩ : ∃ g, g = w.heap.size + 1 := ⟨_, rfl⟩
  rw [← hg0] at HBg ⊢
  have Hle : Hid (w.heap.size ≤ g) := Lib.hid (by omega)
  have Hlt : Hid (g < w2.heap.size) := Lib.hid (by have := Hz2.out; omega)
  clear hg0 Hz2
  refine Hp.out.mono ?_
  rintro e w3 ⟨p, c, rfl, hs3, hb3⟩
  have HBg := Lib.hid (HBg.out.below hb3 Hlt.out)
  have HBw := Lib.hid (HBw.out.trans (hb3.mono HBw.out.size))
  have Hs3 := Lib.hid (hs3.weak PrS.still (S' := fun j => w.heap.size ≤ j ∧ j ≠ g) (fun k hk hS => ⟨by have := Hle.out; have := Hlt.out; omega, by have := Hlt.out; omega⟩))
  have Hlt : Hid (g < w3.heap.size) := Lib.hid (by have := Hlt.out; have := hb3.size; omega)
  clear hs3 hb3 Hp
  generalize (parseV b).1 = h at *
  generalize (parseV b).2 = er at *
  have ha4 := (Below.refl w3.heap.size w3).alloc (Nat.le_refl _) (.cells #[.int .i64 h.code, .int .i64 h.process, .int .i64 h.secret, .slice p h.params.length c] 42)
  have hh4 := (Blk.new w3 42 #[.int .i64 h.code, .int .i64 h.process, .int .i64 h.secret, .slice p h.params.length c]).cell
  have HBg := Lib.hid (HBg.out.below ha4 Hlt.out)
  have HBw := Lib.hid (HBw.out.trans (ha4.mono HBw.out.size))
  have Hlt : Hid (g < (w3.alloc (.cells #[.int .i64 h.code, .int .i64 h.process, .int .i64 h.secret, .slice p h.params.length c] 42)).heap.size) := Lib.hid (by have := Hlt.out; have := ha4.size; omega)
  have Hs4 := Lib.hid (Hs3.out.below PrS.still ha4)
  clear ha4 Hs3
  unfold helArg helCells
  by_cases he : er = 0
  · subst he
    obtain rfl : (⟨1, h, foZero 0, ⟨#[]⟩, ⟨#[]⟩⟩ : ItV) = y := (if_pos rfl).symm.trans Hy.out
    clear Hy
    go_upto_region 4 with (fail)
    generalize (w3.alloc (.cells #[.int .i64 h.code, .int .i64 h.process, .int .i64 h.secret, .slice p h.params.length c] 42)) = w4 at *
    clear Hlt
    go_wp2_with (refine wpList_store_it _ rfl (.tmp 2) (.tmp 16) rfl g _ _ rfl rfl HBg.out rfl rfl (by simp [Value.oneCell']) ?_; intro w8 hb8 hT8; have HB8 := Lib.hid hb8; have HT8 := Lib.hid hT8; clear hb8 hT8)
    exact bodyPost_ret (v := .agg #[.int .i64 1, .int .i64 h.code, .int .i64 h.process, .int .i64 h.secret, .slice p h.params.length c, .int .u8 0, .int .u8 0, .string ⟨#[]⟩, .string ⟨#[]⟩, .string ⟨#[]⟩, .slice none 0 0, .slice none 0 0, .slice none 0 0, .slice none 0 0, .int .i64 0, .string ⟨#[]⟩, .string ⟨#[]⟩]) (results_cell_row (fn := Tryz.f49) (p := 2) (by kernel_rfl) _ _ g _ _ (0, 0) _ rfl HB8.out Tryz.underlying48 rfl it_info) rfl (it_fin HT8.out HBw.out Hle.out (⟨1, h, foZero 0, ⟨#[]⟩, ⟨#[]⟩⟩) (p) (c) (foNil) (Hs4.out) (FoL.zero _ _ 0))
  · obtain rfl : faultV er = y := (if_neg he).symm.trans Hy.out
    clear Hy
    have heb : (er == 0) = false := by simpa using he
    have Hw := Lib.hid (fun W => wrong_any er W)
    generalize faultV er = y at *
    go_wp2_with fail
    generalize (w3.alloc (.cells #[.int .i64 h.code, .int .i64 h.process, .int .i64 h.secret, .slice p h.params.length c] 42)) = w4 at *
    refine (Hw.out _).mono ?_
    rintro e w9 ⟨p9, c9, a9, rfl, hs9, hl9, hb9⟩
    have HBg := Lib.hid (HBg.out.below hb9 Hlt.out)
    have HBw := Lib.hid (HBw.out.trans (hb9.mono HBw.out.size))
    have Hs9 := Lib.hid (hs9.weak PrS.still (S' := fun j => w.heap.size ≤ j ∧ j ≠ g) (fun k hk hS => ⟨by have := Hlt.out; have := Hle.out; omega, by have := Hlt.out; omega⟩))
    have Hl9 := Lib.hid (hl9.weak (S' := fun j => w.heap.size ≤ j ∧ j ≠ g) (fun k hk hS => ⟨by have := Hlt.out; have := Hle.out; omega, by have := Hlt.out; omega⟩))
    clear hs9 hl9 hb9
    unfold itArg itCells
    go_wp2_with (refine wpList_store_it _ rfl (.tmp 2) (.tmp 14) rfl g _ _ rfl rfl HBg.out rfl rfl (by simp [Value.oneCell']) ?_; intro w8 hb8 hT8; have HB8 := Lib.hid hb8; have HT8 := Lib.hid hT8; clear hb8 hT8)
    exact bodyPost_ret (v := .agg #[.int .i64 y.kind, .int .i64 y.hel.code, .int .i64 y.hel.process, .int .i64 y.hel.secret, .slice p9 y.hel.params.length c9, .int .u8 y.front.kind, .int .u8 y.front.what, .string y.front.name, .string y.front.portal, .string y.front.text, .slice a9.po y.front.oids.length a9.co, .slice a9.pf y.front.formats.length a9.cf, .slice a9.pr y.front.results.length a9.cr, .slice a9.pp y.front.params.length a9.cp, .int .i64 y.front.max, .string y.code, .string y.text]) (results_cell_row (fn := Tryz.f49) (p := 2) (by kernel_rfl) _ _ g _ _ (0, 0) _ rfl HB8.out Tryz.underlying48 rfl it_info) rfl (it_fin HT8.out HBw.out Hle.out (y) (p9) (c9) (a9) (Hs9.out) (Hl9.out))

end Go.Proofs.YtacnmdlefonjmaaGreat

/-
  What comes of a client (layer 39): a message.
-/
namespace Go.Proofs.YtacnmdlefonjmaaGreat
open Go.RowKit
set_option linter.unusedVariables false
set_option linter.unusedSimpArgs false

set_option maxRecDepth 100000 in
set_option maxHeartbeats 8000000 in
theorem message_any (ty : Int) (h0 : 0 ≤ ty) (h1 : ty < 256) (p0 : Option Addr) (b : List UInt8) (cap : Nat) (w : World) (hl : b.length ≤ 100000) (hb : BytesIn w p0 b) :
    Calls Tryz.prog 48 #[.agg #[.int .u8 ty, .slice p0 b.length cap]] w (ItR (messageV ty b) w) := by
  have ha1 := (Below.refl w.heap.size w).alloc (Nat.le_refl _) (.cells #[.int .u8 ty, .slice p0 b.length cap] 73)
  have ha2 := ha1.alloc ha1.size (.cells itZ 48)
  have hm := ((Blk.new w 73 #[.int .u8 ty, .slice p0 b.length cap]).alloc (.cells itZ 48)).cell
  have hbg := it_hz (w.alloc (.cells #[.int .u8 ty, .slice p0 b.length cap] 73))
  have hz2 : ((w.alloc (.cells #[.int .u8 ty, .slice p0 b.length cap] 73)).alloc (.cells itZ 48)).heap.size = w.heap.size + 1 + 1 := by simp
  rw [World.size_alloc] at hbg
  have hp := dec_any ty h0 h1 p0 b cap _ hl (hb.below ha2)
  generalize hy : messageV ty b = y
  unfold messageV at hy
  have Hy := Lib.hid hy
  clear hy
  unfold itZ at *
  go_enter Tryz.func48, Tryz.ntmps48
  go_wp2_with fail
  generalize ((w.alloc (.cells #[.int .u8 ty, .slice p0 b.length cap] 73)).alloc (.cells #[.int .i64 0, .int .i64 0, .int .i64 0, .int .i64 0, .slice none 0 0, .int .u8 0, .int .u8 0, .string ⟨#[]⟩, .string ⟨#[]⟩, .string ⟨#[]⟩, .slice none 0 0, .slice none 0 0, .slice none 0 0, .slice none 0 0, .int .i64 0, .string ⟨#[]⟩, .string ⟨#[]⟩] 48)) = w2 at *
  have Hz2 := Lib.hid hz2
  have HBw := Lib.hid ha2
  have HBg := Lib.hid hbg
  have Hp := Lib.hid hp
  clear ha1 ha2 hz2 hbg hp hm
  obtain ⟨g, hg0⟩ : ∃ g, g = w.heap.size + 1 := ⟨_, rfl⟩
  rw [← hg0] at HBg ⊢
  have Hle : Hid (w.heap.size ≤ g) := Lib.hid (by omega)
  have Hlt : Hid (g < w2.heap.size) := Lib.hid (by have := Hz2.out; omega)
  clear hg0 Hz2
  refine Hp.out.mono ?_
  rintro e w3 ⟨a, rfl, hs3, hb3⟩
  have HBg := Lib.hid (HBg.out.below hb3 Hlt.out)
  have HBw := Lib.hid (HBw.out.trans (hb3.mono HBw.out.size))
  have Hs3 := Lib.hid (hs3.weak (S' := fun j => w.heap.size ≤ j ∧ j ≠ g) (fun k hk hS => ⟨by have := Hle.out; have := Hlt.out; omega, by have := Hlt.out; omega⟩))
  have Hlt : Hid (g < w3.heap.size) := Lib.hid (by have := Hlt.out; have := hb3.size; omega)
  clear hs3 hb3 Hp
  generalize (decF ty b).1 = f at *
  generalize (decF ty b).2 = er at *
  have ha4 := (Below.refl w3.heap.size w3).alloc (Nat.le_refl _) (.cells #[.int .u8 f.kind, .int .u8 f.what, .string f.name, .string f.portal, .string f.text, .slice a.po f.oids.length a.co, .slice a.pf f.formats.length a.cf, .slice a.pr f.results.length a.cr, .slice a.pp f.params.length a.cp, .int .i64 f.max] 46)
  have hh4 := (Blk.new w3 46 #[.int .u8 f.kind, .int .u8 f.what, .string f.name, .string f.portal, .string f.text, .slice a.po f.oids.length a.co, .slice a.pf f.formats.length a.cf, .slice a.pr f.results.length a.cr, .slice a.pp f.params.length a.cp, .int .i64 f.max]).cell
  have HBg := Lib.hid (HBg.out.below ha4 Hlt.out)
  have HBw := Lib.hid (HBw.out.trans (ha4.mono HBw.out.size))
  have Hlt : Hid (g < (w3.alloc (.cells #[.int .u8 f.kind, .int .u8 f.what, .string f.name, .string f.portal, .string f.text, .slice a.po f.oids.length a.co, .slice a.pf f.formats.length a.cf, .slice a.pr f.results.length a.cr, .slice a.pp f.params.length a.cp, .int .i64 f.max] 46)).heap.size) := Lib.hid (by have := Hlt.out; have := ha4.size; omega)
  have Hs4 := Lib.hid (Hs3.out.below ha4)
  clear ha4 Hs3
  unfold foArg foCells
  by_cases he : er = 0
  · subst he
    obtain rfl : (⟨2, helNo, f, ⟨#[]⟩, ⟨#[]⟩⟩ : ItV) = y := (if_pos rfl).symm.trans Hy.out
    clear Hy
    go_upto_region 4 with (fail)
    generalize (w3.alloc (.cells #[.int .u8 f.kind, .int .u8 f.what, .string f.name, .string f.portal, .string f.text, .slice a.po f.oids.length a.co, .slice a.pf f.formats.length a.cf, .slice a.pr f.results.length a.cr, .slice a.pp f.params.length a.cp, .int .i64 f.max] 46)) = w4 at *
    clear Hlt
    go_wp2_with (refine wpList_store_it _ rfl (.tmp 2) (.tmp 15) rfl g _ _ rfl rfl HBg.out rfl rfl (by simp [Value.oneCell']) ?_; intro w8 hb8 hT8; have HB8 := Lib.hid hb8; have HT8 := Lib.hid hT8; clear hb8 hT8)
    exact bodyPost_ret (v := .agg #[.int .i64 2, .int .i64 0, .int .i64 0, .int .i64 0, .slice none 0 0, .int .u8 f.kind, .int .u8 f.what, .string f.name, .string f.portal, .string f.text, .slice a.po f.oids.length a.co, .slice a.pf f.formats.length a.cf, .slice a.pr f.results.length a.cr, .slice a.pp f.params.length a.cp, .int .i64 f.max, .string ⟨#[]⟩, .string ⟨#[]⟩]) (results_cell_row (fn := Tryz.f48) (p := 2) (by kernel_rfl) _ _ g _ _ (0, 0) _ rfl HB8.out Tryz.underlying48 rfl it_info) rfl (it_fin HT8.out HBw.out Hle.out (⟨2, helNo, f, ⟨#[]⟩, ⟨#[]⟩⟩) (none) (0) (a) (SliceS.empty none 0 (by simp [maxLen])) (Hs4.out))
  · obtain rfl : faultV er = y := (if_neg he).symm.trans Hy.out
    clear Hy
    have heb : (er == 0) = false := by simpa using he
    have Hw := Lib.hid (fun W => wrong_any er W)
    generalize faultV er = y at *
    go_wp2_with fail
    generalize (w3.alloc (.cells #[.int .u8 f.kind, .int .u8 f.what, .string f.name, .string f.portal, .string f.text, .slice a.po f.oids.length a.co, .slice a.pf f.formats.length a.cf, .slice a.pr f.results.length a.cr, .slice a.pp f.params.length a.cp, .int .i64 f.max] 46)) = w4 at *
    refine (Hw.out _).mono ?_
    rintro e w9 ⟨p9, c9, a9, rfl, hs9, hl9, hb9⟩
    have HBg := Lib.hid (HBg.out.below hb9 Hlt.out)
    have HBw := Lib.hid (HBw.out.trans (hb9.mono HBw.out.size))
    have Hs9 := Lib.hid (hs9.weak PrS.still (S' := fun j => w.heap.size ≤ j ∧ j ≠ g) (fun k hk hS => ⟨by have := Hlt.out; have := Hle.out; omega, by have := Hlt.out; omega⟩))
    have Hl9 := Lib.hid (hl9.weak (S' := fun j => w.heap.size ≤ j ∧ j ≠ g) (fun k hk hS => ⟨by have := Hlt.out; have := Hle.out; omega, by have := Hlt.out; omega⟩))
    clear hs9 hl9 hb9
    unfold itArg itCells
    go_wp2_with (refine wpList_store_it _ rfl (.tmp 2) (.tmp 13) rfl g _ _ rfl rfl HBg.out rfl rfl (by simp [Value.oneCell']) ?_; intro w8 hb8 hT8; have HB8 := Lib.hid hb8; have HT8 := Lib.hid hT8; clear hb8 hT8)
    exact bodyPost_ret (v := .agg #[.int .i64 y.kind, .int .i64 y.hel.code, .int .i64 y.hel.process, .int .i64 y.hel.secret, .slice p9 y.hel.params.length c9, .int .u8 y.front.kind, .int .u8 y.front.what, .string y.front.name, .string y.front.portal, .string y.front.text, .slice a9.po y.front.oids.length a9.co, .slice a9.pf y.front.formats.length a9.cf, .slice a9.pr y.front.results.length a9.cr, .slice a9.pp y.front.params.length a9.cp, .int .i64 y.front.max, .string y.code, .string y.text]) (results_cell_row (fn := Tryz.f48) (p := 2) (by kernel_rfl) _ _ g _ _ (0, 0) _ rfl HB8.out Tryz.underlying48 rfl it_info) rfl (it_fin HT8.out HBw.out Hle.out (y) (p9) (c9) (a9) (Hs9.out) (Hl9.out))

end Go.Proofs.YtacnmdlefonjmaaGreat

