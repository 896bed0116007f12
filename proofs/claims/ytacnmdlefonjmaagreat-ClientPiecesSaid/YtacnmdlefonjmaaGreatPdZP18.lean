/-
  Ground: HeF, HeG, HeH, HeI, HeJ, HeK.
-/
import Derived.Test.YtacnmdlefonjmaaGreatPdZP14
import Derived.Test.YtacnmdlefonjmaaGreatPdZP1
import Derived.Laws.StructEq
import Derived.BigQuiet
import Derived.Deep.QuietTactic
import Derived.Deep.RegionLaw
import Derived.Deep.RegionWith
import Derived.Deep.RegionHeld3
import Derived.Test.YtacnmdlefonjmaaGreatPdZP11
import Derived.Test.YtacnmdlefonjmaaGreatPdZP2
/-
  First messages (layer 5): the document's Parse.
-/
namespace Go.Proofs.YtacnmdlefonjmaaGreat
open Go.RowKit
set_option linter.unusedVariables false
set_option linter.unusedSimpArgs false

set_option maxRecDepth 100000 in
theorem rparse_short (p : Option Addr) (l : List UInt8) (cap : Nat) (w : World) (h : l.length < 4) :
    Calls Tryz.prog 32 #[.slice p l.length cap] w (ParseR l w) := by
  have hi : ((l.length : Nat) : Int) < 4 := by omega
  have Hv : Hid (parseV l = (helZero, 4)) := Lib.hid (by unfold parseV; rw [if_pos h])
  have Hr : Hid (Blk (w.alloc (.cells helZ 42)) w.heap.size 42 helZ) := Lib.hid (Blk.new _ _ _)
  have HA : Hid (Below w.heap.size w (w.alloc (.cells helZ 42))) := Lib.hid ((Below.refl _ _).alloc (Nat.le_refl _) _)
  clear h
  unfold helZ at Hr HA
  go_enter Tryz.func32, Tryz.ntmps32
  go_upto_region 1 with (fail)
  generalize w.alloc (.cells #[.int .i64 0, .int .i64 0, .int .i64 0, .slice none 0 0] 42) = w0 at *
  have hc := Hr.out.cell
  have hf := Hr.out.frozen
  go_wp2_with fail
  have hT := setHel_touch w0 w.heap.size helZero none 0
  have hbf := setHel_blk helZero none 0 Hr.out
  have HB := Lib.hid (HA.out.trans (hT.below HA.out.size (fun k hk => by omega)))
  unfold setHel helZero at hbf HB
  unfold helCells at hbf
  dsimp only [List.length_nil] at hbf HB
  have hcf := hbf.cell
  clear hT hbf hc hf
  refine bodyPost_ret (v := .tuple #[.agg #[.int .i64 0, .int .i64 0, .int .i64 0, .slice none 0 0], .int .i64 4]) (by simp [results, Tryz.results32, go_sem, hcf]) rfl ?_
  unfold ParseR
  rw [Hv.out]
  exact ⟨none, 0, by simp [helArg, helCells, helZero], ⟨none, 0, [], rfl, Nat.le_refl _, by simp [maxLen], CellsIn.nil, trivial⟩, HB.out⟩

set_option maxRecDepth 100000 in
set_option maxHeartbeats 4000000 in
theorem rparse_kind (p : Option Addr) (l : List UInt8) (cap : Nat) (w : World) (h4 : 4 ≤ l.length) (hl : l.length ≤ 100000) (hb : BytesIn w p l) (code : Int) (h1 : numV l false 4 = code) (n1 : code ≠ 196608) (n2 : code ≠ 80877102) (n3 : code ≠ 80877103) :
    Calls Tryz.prog 32 #[.slice p l.length cap] w (ParseR l w) := by
  have hi : ¬ ((l.length : Nat) : Int) < 4 := by omega
  have hok : numOk l false 4 = true := by unfold numOk; simp [sizedB]; omega
  obtain ⟨R, hR⟩ : ∃ R, l.drop 4 = R := ⟨_, rfl⟩
  have hRl : R.length ≤ 100000 := by rw [← hR, List.length_drop]; omega
  have Hv : Hid (parseV l = (helZero, 9)) := Lib.hid (by unfold parseV; rw [if_neg (by omega), h1]; simp [n1, n2, n3])
  have g1 : (code == 196608) = false := by simpa using n1
  have g2 : (code == 80877102) = false := by simpa using n2
  have g3 : (code == 80877103) = false := by simpa using n3
  clear n1 n2 n3
  have Hr : Hid (Blk (w.alloc (.cells helZ 42)) w.heap.size 42 helZ) := Lib.hid (Blk.new _ _ _)
  have hA : Below w.heap.size w (w.alloc (.cells helZ 42)) := (Below.refl _ _).alloc (Nat.le_refl _) _
  have HA := Lib.hid hA
  have hz : w.heap.size < (w.alloc (.cells helZ 42)).heap.size := by simp
  have HN := Lib.hid (refSNew_any p l cap (w.alloc (.cells helZ 42)) (by omega) ((Touch.of_below (p := fun _ => False) hA).bytesIn hb (fun _ _ _ e => e)))
  have Hc := Lib.hid (And.intro h1 (And.intro hok hR))
  clear hb hA h1 hok hR
  unfold helZ at Hr HA HN hz
  go_enter Tryz.func32, Tryz.ntmps32
  go_upto_region 1 with (fail)
  generalize w.alloc (.cells #[.int .i64 0, .int .i64 0, .int .i64 0, .slice none 0 0] 42) = w0 at *
  go_wp2_with fail
  refine HN.out.mono ?_
  rintro e w1 ⟨sb, g, rfl, hs1, hsb, hg, hT1⟩
  have hz1 := hT1.size
  have HNm := Lib.hid (refSNum_any sb g l false 4 w1 hs1)
  rw [Hc.out.1, Hc.out.2.1] at HNm
  have HB1 := Lib.hid (HA.out.trans (hT1.below HA.out.size (fun k e => e.elim)))
  have Hr1 := Lib.hid (hT1.blk Hr.out (fun e => e))
  clear hs1 hT1 HN HA Hr
  go_wp2_with fail
  refine HNm.out.mono ?_
  rintro e w2 ⟨rfl, hs2, hT2⟩
  have hs2' : RefS w2 sb g (l.drop 4) false := hs2
  rw [Hc.out.2.2] at hs2'
  have hz2 := hT2.size
  have HB2 := Lib.hid (HB1.out.trans (hT2.below HB1.out.size (fun k e => by omega)))
  have Hr2 := Lib.hid (hT2.blk Hr1.out (by omega))
  have HS2 := Lib.hid hs2'
  clear hs2 hs2' hT2 HNm HB1 Hr1
  go_upto_region 5 with (fail)
  have hal : Below w2.heap.size w2 (w2.alloc (.cells #[.int .i64 code, .int .i64 0, .int .i64 0, .slice none 0 0] 42)) := (Below.refl _ _).alloc (Nat.le_refl _) _
  have Hr3 := Lib.hid (Hr2.out.below hal Hr2.out.lt)
  have HB3 := Lib.hid (HB2.out.trans (hal.mono HB2.out.size))
  have HX3 : Hid (Blk (w2.alloc (.cells #[.int .i64 code, .int .i64 0, .int .i64 0, .slice none 0 0] 42)) w2.heap.size 42 #[.int .i64 code, .int .i64 0, .int .i64 0, .slice none 0 0]) := Lib.hid (Blk.new _ _ _)
  have HS3 := Lib.hid (HS2.out.touch (Touch.of_below (p := fun _ => False) hal) (fun e => e) (fun _ e => e))
  have hsl := HS2.out.lt
  have hz3 : w2.heap.size < (w2.alloc (.cells #[.int .i64 code, .int .i64 0, .int .i64 0, .slice none 0 0] 42)).heap.size := by simp
  have hgl : R ≠ [] → g < w2.heap.size := fun e => HS2.out.ltg e
  have Hgl := Lib.hid hgl
  clear hal Hr2 HB2 HS2 hgl
  generalize w2.alloc (.cells #[.int .i64 code, .int .i64 0, .int .i64 0, .slice none 0 0] 42) = w3 at *
  generalize w2.heap.size = gh at *
  have hx3 := HX3.out.cell
  have hc := Hr3.out.cell
  have hf := Hr3.out.frozen
  go_wp2_with fail
  have hT := setHel_touch w3 w.heap.size helZero none 0
  have hbf := setHel_blk helZero none 0 Hr3.out
  have HB := Lib.hid (HB3.out.trans (hT.below HB3.out.size (fun k hk => by omega)))
  unfold setHel helZero at hbf HB
  unfold helCells at hbf
  dsimp only [List.length_nil] at hbf HB
  have hcf := hbf.cell
  clear hT hbf hc hf
  refine bodyPost_ret (v := .tuple #[.agg #[.int .i64 0, .int .i64 0, .int .i64 0, .slice none 0 0], .int .i64 9]) (by simp [results, Tryz.results32, go_sem, hcf]) rfl ?_
  unfold ParseR
  rw [Hv.out]
  exact ⟨none, 0, by simp [helArg, helCells, helZero], ⟨none, 0, [], rfl, Nat.le_refl _, by simp [maxLen], CellsIn.nil, trivial⟩, HB.out⟩

set_option maxRecDepth 100000 in
set_option maxHeartbeats 4000000 in
theorem rparse_ssl (p : Option Addr) (l : List UInt8) (cap : Nat) (w : World) (h4 : 4 ≤ l.length) (hl : l.length ≤ 100000) (hb : BytesIn w p l) (h1 : numV l false 4 = 80877103) :
    Calls Tryz.prog 32 #[.slice p l.length cap] w (ParseR l w) := by
  have hi : ¬ ((l.length : Nat) : Int) < 4 := by omega
  have hok : numOk l false 4 = true := by unfold numOk; simp [sizedB]; omega
  obtain ⟨R, hR⟩ : ∃ R, l.drop 4 = R := ⟨_, rfl⟩
  have hRl : R.length ≤ 100000 := by rw [← hR, List.length_drop]; omega
  have Hv : Hid (parseV l = if R = [] then (⟨80877103, 0, 0, []⟩, 0) else (helZero, 4)) := Lib.hid (by unfold parseV; rw [if_neg (by omega)]; dsimp only; rw [h1, hR]; simp)
  have Hr : Hid (Blk (w.alloc (.cells helZ 42)) w.heap.size 42 helZ) := Lib.hid (Blk.new _ _ _)
  have hA : Below w.heap.size w (w.alloc (.cells helZ 42)) := (Below.refl _ _).alloc (Nat.le_refl _) _
  have HA := Lib.hid hA
  have hz : w.heap.size < (w.alloc (.cells helZ 42)).heap.size := by simp
  have HN := Lib.hid (refSNew_any p l cap (w.alloc (.cells helZ 42)) (by omega) ((Touch.of_below (p := fun _ => False) hA).bytesIn hb (fun _ _ _ e => e)))
  have Hc := Lib.hid (And.intro h1 (And.intro hok hR))
  clear hb hA h1 hok hR
  unfold helZ at Hr HA HN hz
  go_enter Tryz.func32, Tryz.ntmps32
  go_upto_region 1 with (fail)
  generalize w.alloc (.cells #[.int .i64 0, .int .i64 0, .int .i64 0, .slice none 0 0] 42) = w0 at *
  go_wp2_with fail
  refine HN.out.mono ?_
  rintro e w1 ⟨sb, g, rfl, hs1, hsb, hg, hT1⟩
  have hz1 := hT1.size
  have HNm := Lib.hid (refSNum_any sb g l false 4 w1 hs1)
  rw [Hc.out.1, Hc.out.2.1] at HNm
  have HB1 := Lib.hid (HA.out.trans (hT1.below HA.out.size (fun k e => e.elim)))
  have Hr1 := Lib.hid (hT1.blk Hr.out (fun e => e))
  clear hs1 hT1 HN HA Hr
  go_wp2_with fail
  refine HNm.out.mono ?_
  rintro e w2 ⟨rfl, hs2, hT2⟩
  have hs2' : RefS w2 sb g (l.drop 4) false := hs2
  rw [Hc.out.2.2] at hs2'
  have hz2 := hT2.size
  have HB2 := Lib.hid (HB1.out.trans (hT2.below HB1.out.size (fun k e => by omega)))
  have Hr2 := Lib.hid (hT2.blk Hr1.out (by omega))
  have HS2 := Lib.hid hs2'
  clear hs2 hs2' hT2 HNm HB1 Hr1
  go_upto_region 5 with (fail)
  have hal : Below w2.heap.size w2 (w2.alloc (.cells #[.int .i64 80877103, .int .i64 0, .int .i64 0, .slice none 0 0] 42)) := (Below.refl _ _).alloc (Nat.le_refl _) _
  have Hr3 := Lib.hid (Hr2.out.below hal Hr2.out.lt)
  have HB3 := Lib.hid (HB2.out.trans (hal.mono HB2.out.size))
  have HX3 : Hid (Blk (w2.alloc (.cells #[.int .i64 80877103, .int .i64 0, .int .i64 0, .slice none 0 0] 42)) w2.heap.size 42 #[.int .i64 80877103, .int .i64 0, .int .i64 0, .slice none 0 0]) := Lib.hid (Blk.new _ _ _)
  have HS3 := Lib.hid (HS2.out.touch (Touch.of_below (p := fun _ => False) hal) (fun e => e) (fun _ e => e))
  have hsl := HS2.out.lt
  have hz3 : w2.heap.size < (w2.alloc (.cells #[.int .i64 80877103, .int .i64 0, .int .i64 0, .slice none 0 0] 42)).heap.size := by simp
  have hgl : R ≠ [] → g < w2.heap.size := fun e => HS2.out.ltg e
  have Hgl := Lib.hid hgl
  clear hal Hr2 HB2 HS2 hgl
  generalize w2.alloc (.cells #[.int .i64 80877103, .int .i64 0, .int .i64 0, .slice none 0 0] 42) = w3 at *
  generalize w2.heap.size = gh at *
  have hx3 := HX3.out.cell
  have HD := Lib.hid (refSDone_any sb g R false w3 HS3.out)
  have hc := Hr3.out.cell
  have hf := Hr3.out.frozen
  cases hRe : R with
  | nil =>
    rw [hRe] at HD Hv
    have Hv' : Hid (parseV l = (⟨80877103, 0, 0, []⟩, 0)) := Lib.hid (by rw [Hv.out]; simp)
    simp only [List.isEmpty_nil, Bool.not_false, Bool.and_true] at HD
    clear hRe
    go_wp2_with (go_at_call 58; refine HD.out.mono ?_; rintro e w4 ⟨rfl, rfl⟩)
    have hT := setHel_touch w3 w.heap.size ⟨80877103, 0, 0, []⟩ none 0
    have hbf := setHel_blk ⟨80877103, 0, 0, []⟩ none 0 Hr3.out
    have HB := Lib.hid (HB3.out.trans (hT.below HB3.out.size (fun k hk => by omega)))
    unfold setHel at hbf HB
    unfold helCells at hbf
    dsimp only [List.length_nil] at hbf HB
    have hcf := hbf.cell
    clear hT hbf hc hf
    refine bodyPost_ret (v := .tuple #[.agg #[.int .i64 80877103, .int .i64 0, .int .i64 0, .slice none 0 0], .int .i64 0]) (by simp [results, Tryz.results32, go_sem, hcf]) rfl ?_
    unfold ParseR
    rw [Hv'.out]
    exact ⟨none, 0, by simp [helArg, helCells], ⟨none, 0, [], rfl, Nat.le_refl _, by simp [maxLen], CellsIn.nil, trivial⟩, HB.out⟩
  | cons b T =>
    rw [hRe] at HD Hv
    have Hv' : Hid (parseV l = (helZero, 4)) := Lib.hid (by rw [Hv.out]; simp)
    simp only [List.isEmpty_cons, Bool.not_false, Bool.and_false] at HD
    clear hRe
    go_wp2_with (go_at_call 58; refine HD.out.mono ?_; rintro e w4 ⟨rfl, rfl⟩)
    have hT := setHel_touch w3 w.heap.size helZero none 0
    have hbf := setHel_blk helZero none 0 Hr3.out
    have HB := Lib.hid (HB3.out.trans (hT.below HB3.out.size (fun k hk => by omega)))
    unfold setHel helZero at hbf HB
    unfold helCells at hbf
    dsimp only [List.length_nil] at hbf HB
    have hcf := hbf.cell
    clear hT hbf hc hf
    refine bodyPost_ret (v := .tuple #[.agg #[.int .i64 0, .int .i64 0, .int .i64 0, .slice none 0 0], .int .i64 4]) (by simp [results, Tryz.results32, go_sem, hcf]) rfl ?_
    unfold ParseR
    rw [Hv'.out]
    exact ⟨none, 0, by simp [helArg, helCells, helZero], ⟨none, 0, [], rfl, Nat.le_refl _, by simp [maxLen], CellsIn.nil, trivial⟩, HB.out⟩

set_option maxRecDepth 100000 in
set_option maxHeartbeats 4000000 in
theorem rparse_version (p : Option Addr) (l : List UInt8) (cap : Nat) (w : World) (h4 : 4 ≤ l.length) (hl : l.length ≤ 100000) (hb : BytesIn w p l) (h1 : numV l false 4 = 196608) :
    Calls Tryz.prog 32 #[.slice p l.length cap] w (ParseR l w) := by
  have hi : ¬ ((l.length : Nat) : Int) < 4 := by omega
  have hok : numOk l false 4 = true := by unfold numOk; simp [sizedB]; omega
  obtain ⟨R, hR⟩ : ∃ R, l.drop 4 = R := ⟨_, rfl⟩
  have hRl : R.length ≤ 100000 := by rw [← hR, List.length_drop]; omega
  obtain ⟨P, hP⟩ : ∃ P, pairsR (R.length + 1) R false = P := ⟨_, rfl⟩
  have Hv : Hid (parseV l = if P.2.2 = false ∧ P.2.1 = [] then (⟨196608, 0, 0, P.1⟩, 0) else (helZero, 4)) := Lib.hid (by unfold parseV; rw [if_neg (by omega)]; dsimp only; rw [h1, hR, hP]; simp)
  have HPe := Lib.hid (pairsX_eq (R.length + 1) R R false (fun _ => rfl))
  rw [hP] at HPe
  clear hP
  have Hr : Hid (Blk (w.alloc (.cells helZ 42)) w.heap.size 42 helZ) := Lib.hid (Blk.new _ _ _)
  have hA : Below w.heap.size w (w.alloc (.cells helZ 42)) := (Below.refl _ _).alloc (Nat.le_refl _) _
  have HA := Lib.hid hA
  have hz : w.heap.size < (w.alloc (.cells helZ 42)).heap.size := by simp
  have HN := Lib.hid (refSNew_any p l cap (w.alloc (.cells helZ 42)) (by omega) ((Touch.of_below (p := fun _ => False) hA).bytesIn hb (fun _ _ _ e => e)))
  have Hc := Lib.hid (And.intro h1 (And.intro hok hR))
  clear hb hA h1 hok hR
  unfold helZ at Hr HA HN hz
  go_enter Tryz.func32, Tryz.ntmps32
  go_upto_region 1 with (fail)
  generalize w.alloc (.cells #[.int .i64 0, .int .i64 0, .int .i64 0, .slice none 0 0] 42) = w0 at *
  go_wp2_with fail
  refine HN.out.mono ?_
  rintro e w1 ⟨sb, g, rfl, hs1, hsb, hg, hT1⟩
  have hz1 := hT1.size
  have HNm := Lib.hid (refSNum_any sb g l false 4 w1 hs1)
  rw [Hc.out.1, Hc.out.2.1] at HNm
  have HB1 := Lib.hid (HA.out.trans (hT1.below HA.out.size (fun k e => e.elim)))
  have Hr1 := Lib.hid (hT1.blk Hr.out (fun e => e))
  clear hs1 hT1 HN HA Hr
  go_wp2_with fail
  refine HNm.out.mono ?_
  rintro e w2 ⟨rfl, hs2, hT2⟩
  have hs2' : RefS w2 sb g (l.drop 4) false := hs2
  rw [Hc.out.2.2] at hs2'
  have hz2 := hT2.size
  have HB2 := Lib.hid (HB1.out.trans (hT2.below HB1.out.size (fun k e => by omega)))
  have Hr2 := Lib.hid (hT2.blk Hr1.out (by omega))
  have HS2 := Lib.hid hs2'
  clear hs2 hs2' hT2 HNm HB1 Hr1
  go_upto_region 5 with (fail)
  have hal : Below w2.heap.size w2 (w2.alloc (.cells #[.int .i64 196608, .int .i64 0, .int .i64 0, .slice none 0 0] 42)) := (Below.refl _ _).alloc (Nat.le_refl _) _
  have Hr3 := Lib.hid (Hr2.out.below hal Hr2.out.lt)
  have HB3 := Lib.hid (HB2.out.trans (hal.mono HB2.out.size))
  have HX3 : Hid (Blk (w2.alloc (.cells #[.int .i64 196608, .int .i64 0, .int .i64 0, .slice none 0 0] 42)) w2.heap.size 42 #[.int .i64 196608, .int .i64 0, .int .i64 0, .slice none 0 0]) := Lib.hid (Blk.new _ _ _)
  have HS3 := Lib.hid (HS2.out.touch (Touch.of_below (p := fun _ => False) hal) (fun e => e) (fun _ e => e))
  have hsl := HS2.out.lt
  have hz3 : w2.heap.size < (w2.alloc (.cells #[.int .i64 196608, .int .i64 0, .int .i64 0, .slice none 0 0] 42)).heap.size := by simp
  have hgl : R ≠ [] → g < w2.heap.size := fun e => HS2.out.ltg e
  have Hgl := Lib.hid hgl
  clear hal Hr2 HB2 HS2 hgl
  generalize w2.alloc (.cells #[.int .i64 196608, .int .i64 0, .int .i64 0, .slice none 0 0] 42) = w3 at *
  generalize w2.heap.size = gh at *
  have hx3 := HX3.out.cell
  have HPr := Lib.hid (params_any sb g R w3 HS3.out hRl)
  by_cases hd : P.2.2 = false ∧ P.2.1 = []
  · obtain ⟨N, hN⟩ : ∃ N, P.1.length = N := ⟨_, rfl⟩
    have HNn := Lib.hid hN
    have Hv' : Hid (parseV l = (⟨196608, 0, 0, P.1⟩, 0)) := Lib.hid (by rw [Hv.out, if_pos hd])
    have HC : Hid (Calls Tryz.prog 57 #[.pointer (some ⟨sb, 0, none⟩)] w3 fun e w' => ∃ p4 c4, e = .returned (.tuple #[.slice p4 N c4, .bool true]) ∧ OwnPr w3.heap.size w' (.slice p4 N c4) P.1 ∧ Touch (fun i => i = sb) w3 w') := Lib.hid (HPr.out.mono (fun e w' ⟨h1, h2⟩ => by
      obtain ⟨e1, e2, e3⟩ := HPe.out
      rcases h1 with ⟨hb, _⟩ | ⟨_, vo, he, ho⟩
      · rw [e2, hd.1] at hb; cases hb
      · rw [e1] at ho
        rw [e3 hd.1, hd.2] at he
        obtain ⟨pz, cz, ez, _⟩ := ho.slice PrS.still (S' := fun _ => True) (fun _ _ _ => trivial) (fun _ _ => trivial)
        rw [hN] at ez
        subst ez
        exact ⟨pz, cz, he, ho, h2⟩))
    clear hN hd
    go_upto_region 15 with (go_at_call 57; refine HC.out.mono ?_; rintro e w4 ⟨p4, c4, rfl, ho4, hT4⟩; have hz4 := hT4.size; have HO4 := Lib.hid ho4; have HX4 := Lib.hid (hT4.blk HX3.out (by omega)); have Hr4 := Lib.hid (hT4.blk Hr3.out (by omega)); have HB4 := Lib.hid (HB3.out.trans (hT4.below HB3.out.size (fun k e => by omega))); have hx4 := HX4.out.cell; have hy4 := HX4.out.frozen; clear ho4 hT4 hx3)
    have hT5 : Touch (fun i => i = gh) w4 (w4.setCell ⟨gh, 3, none⟩ (.slice p4 N c4)) := (Touch.refl (fun i => i = gh) _).setCell (x := ⟨gh, 3, none⟩) (fun _ => rfl) _
    have hx5 := HX4.out.set_ 3 (.slice p4 N c4)
    simp only [List.setIfInBounds_toArray, List.set_cons_succ, List.set_cons_zero] at hx5
    have Hr5 := Lib.hid (hT5.blk Hr4.out (by omega))
    have HB5 := Lib.hid (HB4.out.trans (hT5.below HB4.out.size (fun k e => by omega)))
    have HO5 := Lib.hid (HO4.out.touch (S' := fun k => w3.heap.size ≤ k) PrS.still hT5 (fun k hk => by have := (HO4.out.row k hk).1; omega) (fun k _ hk _ => ⟨hk, fun e => by omega⟩))
    clear hT5 hx4 hy4 HX4 Hr4 HB4 HO4
    generalize w4.setCell ⟨gh, 3, none⟩ (.slice p4 N c4) = w5 at *
    have hc5 := hx5.cell
    have hc := Hr5.out.cell
    have hf := Hr5.out.frozen
    go_wp2_with fail
    have hT := setHel_touch w5 w.heap.size ⟨196608, 0, 0, P.1⟩ p4 c4
    have hbf := setHel_blk ⟨196608, 0, 0, P.1⟩ p4 c4 Hr5.out
    have HB := Lib.hid (HB5.out.trans (hT.below HB5.out.size (fun k hk => by omega)))
    have HR := Lib.hid (HO5.out.touch (S' := fun k => w3.heap.size ≤ k) PrS.still hT (fun k hk => by have := (HO5.out.row k hk).1; omega) (fun k _ hk _ => ⟨hk, fun e => by omega⟩))
    unfold setHel at hbf HB HR
    unfold helCells at hbf
    dsimp only at hbf HB HR
    rw [HNn.out] at hbf HB HR
    have hcf := hbf.cell
    clear hT hbf hc hf hc5 hx5
    refine bodyPost_ret (v := .tuple #[.agg #[.int .i64 196608, .int .i64 0, .int .i64 0, .slice p4 N c4], .int .i64 0]) (by simp [results, Tryz.results32, go_sem, hcf]) rfl ?_
    unfold ParseR
    rw [Hv'.out]
    dsimp only
    obtain ⟨pz, cz, ez, hzz⟩ := HR.out.slice PrS.still (S' := fun k => w.heap.size ≤ k) (fun k _ hk => by have hk' : w3.heap.size ≤ k := hk; omega) (fun k hk => by have := (HR.out.row k hk).1; omega)
    rw [HNn.out] at ez hzz ⊢
    rw [← ez] at hzz
    refine ⟨p4, c4, ?_, hzz, HB.out⟩
    simp only [helArg, helCells]
    rw [HNn.out]
  · have Hv' : Hid (parseV l = (helZero, 4)) := Lib.hid (by rw [Hv.out, if_neg hd])
    have HC : Hid (Calls Tryz.prog 57 #[.pointer (some ⟨sb, 0, none⟩)] w3 fun e w' => ∃ p4 n4 c4, e = .returned (.tuple #[.slice p4 n4 c4, .bool false]) ∧ Touch (fun i => i = sb) w3 w') := Lib.hid (HPr.out.mono (fun e w' ⟨h1, h2⟩ => by
      obtain ⟨e1, e2, e3⟩ := HPe.out
      rcases h1 with ⟨hb, he⟩ | ⟨hb, vo, he, ho⟩
      · exact ⟨_, _, _, he, h2⟩
      · obtain ⟨pz, cz, ez, _⟩ := ho.slice PrS.still (S' := fun _ => True) (fun _ _ _ => trivial) (fun _ _ => trivial)
        rw [e2] at hb
        rw [e3 hb] at he
        have hne : P.2.1.isEmpty = false := by
          cases hh : P.2.1.isEmpty with
          | false => rfl
          | true => exact absurd ⟨hb, by simpa using hh⟩ hd
        rw [hne, ez] at he
        exact ⟨_, _, _, he, h2⟩))
    clear hd
    go_upto_region 15 with (go_at_call 57; refine HC.out.mono ?_; rintro e w4 ⟨p4, n4, c4, rfl, hT4⟩; have hz4 := hT4.size; have HX4 := Lib.hid (hT4.blk HX3.out (by omega)); have Hr4 := Lib.hid (hT4.blk Hr3.out (by omega)); have HB4 := Lib.hid (HB3.out.trans (hT4.below HB3.out.size (fun k e => by omega))); have hx4 := HX4.out.cell; have hy4 := HX4.out.frozen; clear hT4 hx3)
    have hT5 : Touch (fun i => i = gh) w4 (w4.setCell ⟨gh, 3, none⟩ (.slice p4 n4 c4)) := (Touch.refl (fun i => i = gh) _).setCell (x := ⟨gh, 3, none⟩) (fun _ => rfl) _
    have hx5 := HX4.out.set_ 3 (.slice p4 n4 c4)
    simp only [List.setIfInBounds_toArray, List.set_cons_succ, List.set_cons_zero] at hx5
    have Hr5 := Lib.hid (hT5.blk Hr4.out (by omega))
    have HB5 := Lib.hid (HB4.out.trans (hT5.below HB4.out.size (fun k e => by omega)))
    clear hT5 hx4 hy4 HX4 Hr4 HB4
    generalize w4.setCell ⟨gh, 3, none⟩ (.slice p4 n4 c4) = w5 at *
    have hc5 := hx5.cell
    have hc := Hr5.out.cell
    have hf := Hr5.out.frozen
    go_wp2_with fail
    have hT := setHel_touch w5 w.heap.size helZero none 0
    have hbf := setHel_blk helZero none 0 Hr5.out
    have HB := Lib.hid (HB5.out.trans (hT.below HB5.out.size (fun k hk => by omega)))
    unfold setHel helZero at hbf HB
    unfold helCells at hbf
    dsimp only [List.length_nil] at hbf HB
    have hcf := hbf.cell
    clear hT hbf hc hf
    refine bodyPost_ret (v := .tuple #[.agg #[.int .i64 0, .int .i64 0, .int .i64 0, .slice none 0 0], .int .i64 4]) (by simp [results, Tryz.results32, go_sem, hcf]) rfl ?_
    unfold ParseR
    rw [Hv'.out]
    exact ⟨none, 0, by simp [helArg, helCells, helZero], ⟨none, 0, [], rfl, Nat.le_refl _, by simp [maxLen], CellsIn.nil, trivial⟩, HB.out⟩

set_option maxRecDepth 100000 in
set_option maxHeartbeats 4000000 in
theorem rparse_cancel (p : Option Addr) (l : List UInt8) (cap : Nat) (w : World) (h4 : 4 ≤ l.length) (hl : l.length ≤ 100000) (hb : BytesIn w p l) (h1 : numV l false 4 = 80877102) :
    Calls Tryz.prog 32 #[.slice p l.length cap] w (ParseR l w) := by
  have hi : ¬ ((l.length : Nat) : Int) < 4 := by omega
  have hok : numOk l false 4 = true := by unfold numOk; simp [sizedB]; omega
  obtain ⟨R, hR⟩ : ∃ R, l.drop 4 = R := ⟨_, rfl⟩
  have hRl : R.length ≤ 100000 := by rw [← hR, List.length_drop]; omega
  obtain ⟨S, hS⟩ : ∃ S, nx (numOk R false 4) (R.drop 4) R = S := ⟨_, rfl⟩
  obtain ⟨k1, hk1⟩ : ∃ k, numOk R false 4 = k := ⟨_, rfl⟩
  obtain ⟨k2, hk2⟩ : ∃ k, numOk S (!k1) 4 = k := ⟨_, rfl⟩
  obtain ⟨a1, ha1⟩ : ∃ a, numV R false 4 = a := ⟨_, rfl⟩
  obtain ⟨a2, ha2⟩ : ∃ a, numV S (!k1) 4 = a := ⟨_, rfl⟩
  have Hv : Hid (parseV l = if k2 = true ∧ S.drop 4 = [] then (⟨80877102, a1, a2, []⟩, 0) else (helZero, 4)) := Lib.hid (by
    unfold parseV
    rw [if_neg (by omega)]
    dsimp only
    rw [h1, hR, hk1, ha1]
    cases k1 with
    | true =>
      have hS' : nx true (R.drop 4) [] = S := by rw [← hS, hk1]; rfl
      rw [hS', hk2, ha2]
      simp
    | false =>
      have h2 : k2 = false := by rw [← hk2]; unfold numOk; rfl
      rw [h2]
      simp [numOk])
  have Hk := Lib.hid (And.intro hS (And.intro hk1 (And.intro hk2 (And.intro ha1 ha2))))
  clear hS hk1 hk2 ha1 ha2
  have Hr : Hid (Blk (w.alloc (.cells helZ 42)) w.heap.size 42 helZ) := Lib.hid (Blk.new _ _ _)
  have hA : Below w.heap.size w (w.alloc (.cells helZ 42)) := (Below.refl _ _).alloc (Nat.le_refl _) _
  have HA := Lib.hid hA
  have hz : w.heap.size < (w.alloc (.cells helZ 42)).heap.size := by simp
  have HN := Lib.hid (refSNew_any p l cap (w.alloc (.cells helZ 42)) (by omega) ((Touch.of_below (p := fun _ => False) hA).bytesIn hb (fun _ _ _ e => e)))
  have Hc := Lib.hid (And.intro h1 (And.intro hok hR))
  clear hb hA h1 hok hR
  unfold helZ at Hr HA HN hz
  go_enter Tryz.func32, Tryz.ntmps32
  go_upto_region 1 with (fail)
  generalize w.alloc (.cells #[.int .i64 0, .int .i64 0, .int .i64 0, .slice none 0 0] 42) = w0 at *
  go_wp2_with fail
  refine HN.out.mono ?_
  rintro e w1 ⟨sb, g, rfl, hs1, hsb, hg, hT1⟩
  have hz1 := hT1.size
  have HNm := Lib.hid (refSNum_any sb g l false 4 w1 hs1)
  rw [Hc.out.1, Hc.out.2.1] at HNm
  have HB1 := Lib.hid (HA.out.trans (hT1.below HA.out.size (fun k e => e.elim)))
  have Hr1 := Lib.hid (hT1.blk Hr.out (fun e => e))
  clear hs1 hT1 HN HA Hr
  go_wp2_with fail
  refine HNm.out.mono ?_
  rintro e w2 ⟨rfl, hs2, hT2⟩
  have hs2' : RefS w2 sb g (l.drop 4) false := hs2
  rw [Hc.out.2.2] at hs2'
  have hz2 := hT2.size
  have HB2 := Lib.hid (HB1.out.trans (hT2.below HB1.out.size (fun k e => by omega)))
  have Hr2 := Lib.hid (hT2.blk Hr1.out (by omega))
  have HS2 := Lib.hid hs2'
  clear hs2 hs2' hT2 HNm HB1 Hr1
  go_upto_region 5 with (fail)
  have hal : Below w2.heap.size w2 (w2.alloc (.cells #[.int .i64 80877102, .int .i64 0, .int .i64 0, .slice none 0 0] 42)) := (Below.refl _ _).alloc (Nat.le_refl _) _
  have Hr3 := Lib.hid (Hr2.out.below hal Hr2.out.lt)
  have HB3 := Lib.hid (HB2.out.trans (hal.mono HB2.out.size))
  have HX3 : Hid (Blk (w2.alloc (.cells #[.int .i64 80877102, .int .i64 0, .int .i64 0, .slice none 0 0] 42)) w2.heap.size 42 #[.int .i64 80877102, .int .i64 0, .int .i64 0, .slice none 0 0]) := Lib.hid (Blk.new _ _ _)
  have HS3 := Lib.hid (HS2.out.touch (Touch.of_below (p := fun _ => False) hal) (fun e => e) (fun _ e => e))
  have hsl := HS2.out.lt
  have hz3 : w2.heap.size < (w2.alloc (.cells #[.int .i64 80877102, .int .i64 0, .int .i64 0, .slice none 0 0] 42)).heap.size := by simp
  have hgl : R ≠ [] → g < w2.heap.size := fun e => HS2.out.ltg e
  have Hgl := Lib.hid hgl
  clear hal Hr2 HB2 HS2 hgl
  generalize w2.alloc (.cells #[.int .i64 80877102, .int .i64 0, .int .i64 0, .slice none 0 0] 42) = w3 at *
  generalize w2.heap.size = gh at *
  have hx3 := HX3.out.cell
  have HN1 := Lib.hid (refSNum_any sb g R false 4 w3 HS3.out)
  rw [Hk.out.2.2.2.1, Hk.out.2.1] at HN1
  go_wp2_with fail
  refine HN1.out.mono ?_
  rintro e w4 ⟨rfl, hs4, hT4⟩
  have hs4' : RefS w4 sb g (nx (numOk R false 4) (R.drop 4) R) (!k1) := by rw [Hk.out.2.1]; exact hs4
  rw [Hk.out.1] at hs4'
  have hz4 := hT4.size
  have HN2 := Lib.hid (refSNum_any sb g S (!k1) 4 w4 hs4')
  rw [Hk.out.2.2.2.2, Hk.out.2.2.1] at HN2
  have HX4 := Lib.hid (hT4.blk HX3.out (by omega))
  have Hr4 := Lib.hid (hT4.blk Hr3.out (by omega))
  have HB4 := Lib.hid (HB3.out.trans (hT4.below HB3.out.size (fun k e => by omega)))
  clear hs4 hs4' hT4 hx3 HN1
  go_wp2_with fail
  refine HN2.out.mono ?_
  rintro e w5 ⟨rfl, hs5, hT5⟩
  have hz5 := hT5.size
  have HX5 := Lib.hid (hT5.blk HX4.out (by omega))
  have Hr5 := Lib.hid (hT5.blk Hr4.out (by omega))
  have HB5 := Lib.hid (HB4.out.trans (hT5.below HB4.out.size (fun k e => by omega)))
  have HS5 := Lib.hid hs5
  have hx5 := HX5.out.cell
  have hy5 := HX5.out.frozen
  clear hs5 hT5 HN2 HX4 Hr4 HB4
  go_upto_region 14 with (fail)
  have hT6 : Touch (fun i => i = gh) w5 ((w5.setCell ⟨gh, 1, none⟩ (.int .i64 a1)).setCell ⟨gh, 2, none⟩ (.int .i64 a2)) := ((Touch.refl (fun i => i = gh) _).setCell (x := ⟨gh, 1, none⟩) (fun _ => rfl) _).setCell (x := ⟨gh, 2, none⟩) (fun _ => rfl) _
  have hx6 := (HX5.out.set_ 1 (.int .i64 a1)).set_ 2 (.int .i64 a2)
  simp only [List.setIfInBounds_toArray, List.set_cons_succ, List.set_cons_zero] at hx6
  have Hr6 := Lib.hid (hT6.blk Hr5.out (by omega))
  have HB6 := Lib.hid (HB5.out.trans (hT6.below HB5.out.size (fun k e => by omega)))
  have HS6 := Lib.hid (HS5.out.touch hT6 (fun e => by omega) (fun hne e => by
    have hr0 : R ≠ [] := fun er => hne (by
      have hs : S = [] := by rw [← Hk.out.1, er]; unfold nx; split <;> simp
      rw [hs]; unfold nx; split <;> simp)
    have := Hgl.out hr0
    omega))
  clear hT6 hx5 hy5 HX5 Hr5 HB5 HS5
  generalize (w5.setCell ⟨gh, 1, none⟩ (.int .i64 a1)).setCell ⟨gh, 2, none⟩ (.int .i64 a2) = w6 at *
  have hc6 := hx6.cell
  have HD := Lib.hid (refSDone_any sb g _ _ w6 HS6.out)
  have hc := Hr6.out.cell
  have hf := Hr6.out.frozen
  by_cases hd : k2 = true ∧ S.drop 4 = []
  · have Hv' : Hid (parseV l = (⟨80877102, a1, a2, []⟩, 0)) := Lib.hid (by rw [Hv.out, if_pos hd])
    have hnx : (!(!k2) && (nx k2 (S.drop (4 : Int).toNat) S).isEmpty) = true := by rw [show (4 : Int).toNat = 4 from rfl, hd.1, hd.2]; rfl
    rw [hnx] at HD
    clear hd hnx
    go_wp2_with (go_at_call 58; refine HD.out.mono ?_; rintro e w4 ⟨rfl, rfl⟩)
    have hT := setHel_touch w6 w.heap.size ⟨80877102, a1, a2, []⟩ none 0
    have hbf := setHel_blk ⟨80877102, a1, a2, []⟩ none 0 Hr6.out
    have HB := Lib.hid (HB6.out.trans (hT.below HB6.out.size (fun k hk => by omega)))
    unfold setHel at hbf HB
    unfold helCells at hbf
    dsimp only [List.length_nil] at hbf HB
    have hcf := hbf.cell
    clear hT hbf hc hf hc6 hx6
    refine bodyPost_ret (v := .tuple #[.agg #[.int .i64 80877102, .int .i64 a1, .int .i64 a2, .slice none 0 0], .int .i64 0]) (by simp [results, Tryz.results32, go_sem, hcf]) rfl ?_
    unfold ParseR
    rw [Hv'.out]
    exact ⟨none, 0, by simp [helArg, helCells], ⟨none, 0, [], rfl, Nat.le_refl _, by simp [maxLen], CellsIn.nil, trivial⟩, HB.out⟩
  · have Hv' : Hid (parseV l = (helZero, 4)) := Lib.hid (by rw [Hv.out, if_neg hd])
    have hd' : (!(!k2) && (nx k2 (S.drop (4 : Int).toNat) S).isEmpty) = false := by
      cases hk2 : k2 with
      | false => rfl
      | true =>
        have h2 : S.drop 4 ≠ [] := fun e => hd ⟨hk2, e⟩
        show (!(!true) && (S.drop 4).isEmpty) = false
        simpa using h2
    rw [hd'] at HD
    clear hd hd'
    go_wp2_with (go_at_call 58; refine HD.out.mono ?_; rintro e w4 ⟨rfl, rfl⟩)
    have hT := setHel_touch w6 w.heap.size helZero none 0
    have hbf := setHel_blk helZero none 0 Hr6.out
    have HB := Lib.hid (HB6.out.trans (hT.below HB6.out.size (fun k hk => by omega)))
    unfold setHel helZero at hbf HB
    unfold helCells at hbf
    dsimp only [List.length_nil] at hbf HB
    have hcf := hbf.cell
    clear hT hbf hc hf
    refine bodyPost_ret (v := .tuple #[.agg #[.int .i64 0, .int .i64 0, .int .i64 0, .slice none 0 0], .int .i64 4]) (by simp [results, Tryz.results32, go_sem, hcf]) rfl ?_
    unfold ParseR
    rw [Hv'.out]
    exact ⟨none, 0, by simp [helArg, helCells, helZero], ⟨none, 0, [], rfl, Nat.le_refl _, by simp [maxLen], CellsIn.nil, trivial⟩, HB.out⟩

theorem rparse_any (p : Option Addr) (l : List UInt8) (cap : Nat) (w : World) (hl : l.length ≤ 100000) (hb : BytesIn w p l) :
    Calls Tryz.prog 32 #[.slice p l.length cap] w (ParseR l w) := by
  by_cases h4 : l.length < 4
  · exact rparse_short p l cap w h4
  · have h4' : 4 ≤ l.length := by omega
    by_cases h1 : numV l false 4 = 196608
    · exact rparse_version p l cap w h4' hl hb h1
    · by_cases h2 : numV l false 4 = 80877102
      · exact rparse_cancel p l cap w h4' hl hb h2
      · by_cases h3 : numV l false 4 = 80877103
        · exact rparse_ssl p l cap w h4' hl hb h3
        · exact rparse_kind p l cap w h4' hl hb _ rfl h1 h2 h3

end Go.Proofs.YtacnmdlefonjmaaGreat

/-
  First messages (layer 5): the user; whether two are the same; pairs that may be told.
-/
namespace Go.Proofs.YtacnmdlefonjmaaGreat
open Go.RowKit
set_option linter.unusedVariables false
set_option linter.unusedSimpArgs false

theorem pr_at {S : Nat → Prop} {w : World} {p : Option Addr} {n c k : Nat} {xs : List PrV} (h : SliceS 2 PrS S w [.slice p n c] xs) (hk : k < xs.length) :
    ∃ b o, p = some ⟨b, o, none⟩ ∧ S b ∧ b < w.heap.size ∧ w.cell? ⟨b, o + k * 2, none⟩ = some (.string xs[k].name) ∧ w.cell? ⟨b, o + k * 2 + 1, none⟩ = some (.string xs[k].value) := by
  obtain ⟨b, o, cs, rfl, hS, hb, _, hc, rfl⟩ := h.elem (by omega) k xs[k] (List.getElem?_eq_getElem hk)
  have c0 := hc 0 _ rfl
  rw [Nat.add_zero] at c0
  exact ⟨b, o, rfl, hS, hb, c0, hc 1 _ rfl⟩

def isUser (x : PrV) : Bool := x.name.toList == [117, 115, 101, 114]
def fairV (x : PrV) : Bool := !x.name.toList.isEmpty && (cleanB x.name && cleanB x.value)
def unfairV (x : PrV) : Bool := !fairV x

/-- The first user's value. -/
def userV (L : List PrV) : ByteArray := ((L[aheadG isUser L]?).map PrV.value).getD ⟨#[]⟩
theorem userV_at {L : List PrV} {k : Nat} (hk : k < L.length) (h : aheadG isUser L = k) : userV L = L[k].value := by
  unfold userV
  rw [h, List.getElem?_eq_getElem hk]
  rfl
theorem userV_none {L : List PrV} (h : aheadG isUser L = L.length) : userV L = ⟨#[]⟩ := by
  unfold userV
  rw [h, List.getElem?_eq_none (Nat.le_refl _)]
  rfl

/-- A first message in a block. -/
theorem hel_box {S : Nat → Prop} {w : World} {h : HelV} {p : Option Addr} {c : Nat} (hs : SliceS 2 PrS S w [.slice p h.params.length c] h.params) :
    Blk (w.alloc (.cells (helCells h p c) 42)) w.heap.size 42 (helCells h p c) ∧ SliceS 2 PrS S (w.alloc (.cells (helCells h p c) 42)) [.slice p h.params.length c] h.params ∧ Below w.heap.size w (w.alloc (.cells (helCells h p c) 42)) :=
  ⟨Blk.new _ _ _, hs.below PrS.still ((Below.refl _ _).alloc (Nat.le_refl _) _), (Below.refl _ _).alloc (Nat.le_refl _) _⟩

end Go.Proofs.YtacnmdlefonjmaaGreat

/-
  First messages (layer 5): whether two are the same.
-/
namespace Go.Proofs.YtacnmdlefonjmaaGreat
open Go.RowKit
set_option linter.unusedVariables false
set_option linter.unusedSimpArgs false

def prEq (a b : PrV) : Bool := (a.name.toList == b.name.toList) && (a.value.toList == b.value.toList)
theorem prEq_self (a : PrV) : prEq a a = true := by simp [prEq]
theorem neq_pr (x y : PrV) (w : World) : (binOp .neq 93 (.agg #[.string x.name, .string x.value]) (.agg #[.string y.name, .string y.value])).run Tryz.prog w = .ok (.bool (!prEq x y)) w := by
  have hS : Tryz.prog.underlying 93 = some (.struct (Tryz.prog.fieldsOf 93)) := by kernel_rfl
  have hp : Tryz.prog.stoodInHeld 93 = false := by kernel_rfl
  have u2 := Tryz.underlying9
  have a2 := Tryz.isAgg9
  have z2 := Tryz.sizeOf9
  rw [run_neq_struct, show (10000 : Nat) = 9999 + 1 from rfl, run_equalIn_agg w 9999 93 _ _ hS hp]
  simp only [Program.fieldsOf, Tryz.underlying93]
  unfold prEq
  obtain ⟨x1, x2⟩ := x
  obtain ⟨y1, y2⟩ := y
  go_simp
  by_cases h1 : x1.toList = y1.toList <;> by_cases h2 : x2.toList = y2.toList <;> simp [h1, h2]

/-- Two first messages are the same. -/
def helEq (a b : HelV) : Bool := (a.code == b.code) && ((a.process == b.process) && ((a.secret == b.secret) && listEq prEq a.params b.params))

set_option maxRecDepth 100000 in
set_option maxHeartbeats 4000000 in
theorem helSame_any (S S' : Nat → Prop) (x y : HelV) (p q : Option Addr) (c d : Nat) (w : World) (h1 : SliceS 2 PrS S w [.slice p x.params.length c] x.params) (h2 : SliceS 2 PrS S' w [.slice q y.params.length d] y.params) :
    Calls Tryz.prog 26 #[helArg x p c, helArg y q d] w fun e w' => e = .returned (.bool (helEq x y)) ∧ Below w.heap.size w w' := by
  obtain ⟨-, hlc, hcm⟩ := h1.len
  obtain ⟨-, hld, hdm⟩ := h2.len
  unfold maxLen at hcm hdm
  have He : Hid (helEq x y = ((x.code == y.code) && ((x.process == y.process) && ((x.secret == y.secret) && listEq prEq x.params y.params)))) := Lib.hid rfl
  obtain ⟨dv, hdv⟩ : ∃ dv : Bool, dv = ((x.code == y.code) && ((x.process == y.process) && ((x.secret == y.secret) && ((x.params.length : Int) == (y.params.length : Int))))) := ⟨_, rfl⟩
  have Hd := Lib.hid hdv
  clear hdv
  have hbel : Below w.heap.size w ((w.alloc (.cells (helCells x p c) 42)).alloc (.cells (helCells y q d) 42)) := ((Below.refl _ _).alloc (Nat.le_refl _) _).alloc (by simp) _
  have H1 := Lib.hid (h1.below PrS.still hbel)
  have H2 := Lib.hid (h2.below PrS.still hbel)
  have hb1 : Blk ((w.alloc (.cells (helCells x p c) 42)).alloc (.cells (helCells y q d) 42)) w.heap.size 42 (helCells x p c) := (Blk.new _ _ _).alloc _
  have hb2 : Blk ((w.alloc (.cells (helCells x p c) 42)).alloc (.cells (helCells y q d) 42)) (w.heap.size + 1) 42 (helCells y q d) := by
    have := Blk.new (w.alloc (.cells (helCells x p c) 42)) 42 (helCells y q d)
    simpa using this
  have HB := Lib.hid hbel
  clear h1 h2 hbel
  generalize helEq x y = ev at *
  obtain ⟨xc, xp, xs, xL⟩ := x
  obtain ⟨yc, yp, ys, yL⟩ := y
  unfold helArg helCells at *
  dsimp only at *
  go_enter Tryz.func26, Tryz.ntmps26
  go_upto_region 1 with (fail)
  generalize (w.alloc (.cells #[.int .i64 xc, .int .i64 xp, .int .i64 xs, .slice p xL.length c] 42)).alloc (.cells #[.int .i64 yc, .int .i64 yp, .int .i64 ys, .slice q yL.length d] 42) = w1 at *
  have hc1 := hb1.cell
  have hd1 := hb2.cell
  have Hb1 := Lib.hid hb1
  have Hb2 := Lib.hid hb2
  clear hb1 hb2
  go_cut [0, 1, 33] (fun _ _ v wx => v = .bool (!dv) ∧ wx = w1)
  case first =>
    go_wp2_with fail
    all_goals
      go_meet
      refine ⟨?_, rfl⟩
      rw [Hd.out]
      simp_all [bne]
  case rest =>
    obtain ⟨rfl, rfl⟩ := hcut
    cases dv with
    | false =>
      go_wp2_with fail
      go_ret
      refine ⟨ret_bool ?_, HB.out⟩
      rw [He.out]
      have hd := Hd.out
      cases hk : (xc == yc) with
      | false => rfl
      | true =>
        cases hh : (xp == yp) with
        | false => rfl
        | true =>
          cases hf : (xs == ys) with
          | false => rfl
          | true =>
            rw [hk, hh, hf] at hd
            have hne : xL.length ≠ yL.length := fun e => by rw [e] at hd; simp at hd
            rw [listEq_len hne]
            simp
    | true =>
      simp only [Bool.not_true]
      have hd := Hd.out
      simp only [Bool.true_eq, Bool.and_eq_true] at hd
      obtain ⟨hk, hh, hf, hl⟩ := hd
      rw [hk, hh, hf] at He
      simp only [Bool.true_and] at He
      have hll : xL.length = yL.length := by simp at hl; omega
      have Hll := Lib.hid hll
      clear hk hh hf hl Hd hll
      go_wp2_with fail
      go_loopw [5] (fun i wr => ∃ k r : Nat, k ≤ xL.length ∧ i = .int .i64 k ∧ wr = wc.drewN r ∧ listEq prEq xL yL = listEq prEq (xL.drop k) (yL.drop k)) (fun i _ => xL.length - (intOf i).toNat)
      case atStart => exact ⟨0, 0, Nat.zero_le _, rfl, rfl, rfl⟩
      case round =>
        obtain ⟨k, r, hk, rfl, rfl, he⟩ := hrel
        have Hq := Lib.hid he
        clear he
        have hbr : Below wc.heap.size wc (wc.drewN r) := ((Touch.refl (fun _ => False) wc).drewN r).below (Nat.le_refl _) (fun _ e => e.elim)
        have hc2 : ∀ i, (wc.drewN r).cell? ⟨w.heap.size, i, none⟩ = (#[.int .i64 xc, .int .i64 xp, .int .i64 xs, .slice p xL.length c] : Array Value)[i]? := Hb1.out.cell
        have hd2 : ∀ i, (wc.drewN r).cell? ⟨w.heap.size + 1, i, none⟩ = (#[.int .i64 yc, .int .i64 yp, .int .i64 ys, .slice q yL.length d] : Array Value)[i]? := Hb2.out.cell
        have HB2 := Lib.hid (HB.out.trans (hbr.mono HB.out.size))
        by_cases hlt : k < xL.length
        · have hlt' : k < yL.length := by rw [← Hll.out]; exact hlt
          obtain ⟨b, o, rfl, _, hbl, c0, c1⟩ := pr_at (H1.out.below PrS.still hbr) hlt
          obtain ⟨b', o', rfl, _, hbl', e0, e1⟩ := pr_at (H2.out.below PrS.still hbr) hlt'
          have Hst := Lib.hid (listEq_step (f := prEq) hlt hlt')
          clear hc1 hd1 hbl hbl' hbr
          generalize hX : xL[k] = x at *
          generalize hY : yL[k] = y at *
          clear hX hY
          obtain ⟨wq, hwq⟩ : ∃ wq, wq = wc.drewN r := ⟨_, rfl⟩
          rw [← hwq] at c0 e0 c1 e1 hc2 hd2 HB2 ⊢
          have Hwq := Lib.hid hwq
          clear hwq
          have hlti : (k : Int) < (xL.length : Int) := by omega
          have hlti' : (k : Int) < (yL.length : Int) := by omega
          have hwk : IntKind.i64.wrap ((k : Int) + 1) = (k : Int) + 1 := by
            rw [IntKind.wrap_i64]; omega
          have hgd : ∀ (op : BinOp) (a b : Operand) (xs ys : Array Value) (w0 : World), (eqGuard op 93 a b (.agg xs) (.agg ys)).run Tryz.prog w0 = .ok () w0 := fun op a b xs ys w0 => run_eqGuard_agg w0 op 93 a b xs ys (by kernel_rfl)
          cases hxy : prEq x y with
          | true =>
            rw [hxy, Bool.true_and] at Hst
            have hq := fun w0 => neq_pr x y w0
            rw [hxy, Bool.not_true] at hq
            clear hxy
            obtain ⟨x1, x2⟩ := x
            obtain ⟨y1, y2⟩ := y
            dsimp only at c0 e0 c1 e1 hq
            go_wp2_with fail
            go_quiet (fail)
            go_wp2_with fail
            go_roundw
            case rel => exact ⟨k + 1, r + nq, by omega, by go_num, by rw [Hwq.out, World.drewN_drewN], Hq.out.trans Hst.out⟩
            case measure => simp [intOf]; omega
          | false =>
            rw [hxy, Bool.false_and] at Hst
            have hq := fun w0 => neq_pr x y w0
            rw [hxy, Bool.not_false] at hq
            clear hxy
            obtain ⟨x1, x2⟩ := x
            obtain ⟨y1, y2⟩ := y
            dsimp only at c0 e0 c1 e1 hq
            have Hfin := Lib.hid (Hq.out.trans Hst.out)
            go_wp2_with fail
            go_quiet (fail)
            go_wp2_with fail
            go_ret
            exact ⟨ret_bool (by rw [He.out, Hfin.out]), HB2.out.trans (((Touch.refl (fun _ => False) wq).drewN _).below HB2.out.size (fun _ e => e.elim))⟩
        · obtain rfl : k = xL.length := by omega
          have Hfin := Lib.hid (Hq.out.trans (listEq_end Hll.out))
          clear hc1 hd1
          go_wp2_with fail
          go_ret
          exact ⟨ret_bool (by rw [He.out, Hfin.out]), HB2.out⟩

end Go.Proofs.YtacnmdlefonjmaaGreat

/-
  First messages (layer 5): whether one may be told, both.
-/
namespace Go.Proofs.YtacnmdlefonjmaaGreat
open Go.RowKit
set_option linter.unusedVariables false
set_option linter.unusedSimpArgs false

def unsigV (n : Int) : Bool := decide (0 ≤ n) && rightB n 4
def noneV (h : HelV) : Bool := (h.process == 0) && (h.secret == 0)
/-- Whether a message may be told, but for its pairs. -/
def kindV (h : HelV) : Bool :=
  if h.code = 196608 then noneV h
  else if h.code = 80877103 then noneV h && ((h.params.length : Int) == 0)
  else if h.code = 80877102 then ((h.params.length : Int) == 0) && (unsigV h.process && unsigV h.secret)
  else false
def mayV (h : HelV) : Bool := !(h.params.any unfairV) && kindV h

theorem any_unfair {L : List PrV} {k : Nat} (hk : k < L.length) (h : unfairV L[k] = true) : L.any unfairV = true := List.any_eq_true.2 ⟨_, List.getElem_mem hk, h⟩
theorem any_fair : ∀ {L : List PrV}, (∀ k (hk : k < L.length), unfairV L[k] = false) → L.any unfairV = false := by
  intro L h
  rw [List.any_eq_false]
  intro x hx
  obtain ⟨k, hk, rfl⟩ := List.getElem_of_mem hx
  rw [h k hk]
  decide

set_option maxRecDepth 100000 in
set_option maxHeartbeats 4000000 in
theorem rmay_any (S : Nat → Prop) (h : HelV) (p : Option Addr) (c : Nat) (w : World) (hs : SliceS 2 PrS S w [.slice p h.params.length c] h.params) (hsz : ∀ x ∈ h.params, x.name.size ≤ 100000 ∧ x.value.size ≤ 100000) :
    Calls Tryz.prog 70 #[helArg h p c] w fun e w' => e = .returned (.bool (mayV h)) ∧ Below w.heap.size w w' := by
  obtain ⟨hb, hs1, hw⟩ := hel_box hs
  have Hw := Lib.hid hw
  have Hs1 := Lib.hid hs1
  have Hb := Lib.hid hb
  have Hsz := Lib.hid hsz
  have Hm : Hid (mayV h = (!(h.params.any unfairV) && kindV h)) := Lib.hid rfl
  have Hk : Hid (kindV h = if h.code = 196608 then (h.process == 0) && (h.secret == 0) else if h.code = 80877103 then ((h.process == 0) && (h.secret == 0)) && ((h.params.length : Int) == 0) else if h.code = 80877102 then ((h.params.length : Int) == 0) && ((decide (0 ≤ h.process) && rightB h.process 4) && (decide (0 ≤ h.secret) && rightB h.secret 4)) else false) := Lib.hid rfl
  generalize mayV h = mv at *
  generalize kindV h = kv at *
  obtain ⟨hc0, hc1, hc2, L⟩ := h
  dsimp only at *
  obtain ⟨-, hlc, hcm⟩ := hs.len
  unfold maxLen at hcm
  unfold helArg helCells at *
  dsimp only at *
  clear hs hs1 hb hw hsz
  go_enter Tryz.func70, Tryz.ntmps70
  go_upto_region 1 with (fail)
  have hlt := Hb.out.lt
  generalize w.alloc (.cells #[.int .i64 hc0, .int .i64 hc1, .int .i64 hc2, .slice p L.length c] 42) = w1 at *
  have hc := Hb.out.cell
  go_wp2_with fail
  go_loopw [3] (fun i wr => ∃ k : Nat, k ≤ L.length ∧ i = .int .i64 k ∧ (∀ j (hj : j < L.length), j < k → unfairV L[j] = false) ∧ wr = w1) (fun i _ => L.length - (intOf i).toNat)
  case atStart => exact ⟨0, Nat.zero_le _, rfl, (fun j _ h => by omega), rfl⟩
  case round =>
    obtain ⟨k, hk, rfl, hall, rfl⟩ := hrel
    have Hall := Lib.hid hall
    clear hall
    by_cases hltk : k < L.length
    · obtain ⟨b, o, rfl, hS, hbl, c0, c1⟩ := pr_at Hs1.out hltk
      have hz := Hsz.out L[k] (List.getElem_mem hltk)
      have Hbad := Lib.hid (any_unfair (L := L) hltk)
      have Hgood := Lib.hid (fun h : unfairV L[k] = false => (fun j (hj : j < L.length) (hjk : j < k + 1) => by
        by_cases e : j = k
        · subst e; exact h
        · exact Hall.out j hj (by omega) : ∀ j (hj : j < L.length), j < k + 1 → unfairV L[j] = false))
      have Hx : Hid (unfairV L[k] = !(!L[k].name.toList.isEmpty && (cleanB L[k].name && cleanB L[k].value))) := Lib.hid rfl
      clear hS
      have Hc1 := Lib.hid (cleanR_any L[k].name wr (by unfold maxLen; omega))
      have Hc2 := Lib.hid (cleanR_any L[k].value wr (by unfold maxLen; omega))
      generalize cleanB L[k].name = b1 at *
      generalize cleanB L[k].value = b2 at *
      generalize unfairV L[k] = uf at *
      generalize L[k] = x at *
      have hlti : (k : Int) < (L.length : Int) := by omega
      clear hz
      cases he : x.name.toList.isEmpty with
      | true =>
        have Hb2 := Lib.hid (Hbad.out (by rw [Hx.out, he]; rfl))
        go_wp2_with fail
        go_ret
        exact ⟨ret_bool (by rw [Hm.out, Hb2.out]; rfl), Hw.out⟩
      | false =>
        cases b1 with
        | false =>
          have Hb2 := Lib.hid (Hbad.out (by rw [Hx.out, he]; rfl))
          go_wp2_with fail
          refine Hc1.out.mono ?_
          rintro e w3 ⟨rfl, rfl⟩
          go_wp2_with fail
          go_ret
          exact ⟨ret_bool (by rw [Hm.out, Hb2.out]; rfl), Hw.out⟩
        | true =>
          cases b2 with
          | false =>
            have Hb2 := Lib.hid (Hbad.out (by rw [Hx.out, he]; rfl))
            go_wp2_with fail
            refine Hc1.out.mono ?_
            rintro e w3 ⟨rfl, rfl⟩
            go_wp2_with fail
            refine Hc2.out.mono ?_
            rintro e w3 ⟨rfl, rfl⟩
            go_wp2_with fail
            go_ret
            exact ⟨ret_bool (by rw [Hm.out, Hb2.out]; rfl), Hw.out⟩
          | true =>
            have Hg2 := Lib.hid (Hgood.out (by rw [Hx.out, he]; rfl))
            go_wp2_with fail
            refine Hc1.out.mono ?_
            rintro e w3 ⟨rfl, rfl⟩
            go_wp2_with fail
            refine Hc2.out.mono ?_
            rintro e w3 ⟨rfl, rfl⟩
            go_wp2_with fail
            go_roundw
            case rel => exact ⟨k + 1, by omega, by go_num, Hg2.out, by first | rfl | trivial⟩
            case measure => simp [intOf]; omega
    · obtain rfl : k = L.length := by omega
      have Hun := Lib.hid (any_fair (fun j hj => Hall.out j hj hj))
      rw [Hun.out] at Hm
      clear Hall Hsz
      simp only [Bool.not_false, Bool.true_and] at Hm
      clear hltk hk Hun
      by_cases k1 : hc0 = 196608
      · have Hk2 := Lib.hid (Hk.out.trans (if_pos k1))
        subst k1
        clear Hk
        go_wp2_with fail
        all_goals
          go_ret
          refine ⟨ret_bool ?_, Hw.out⟩
          rw [Hm.out, Hk2.out]
          simp_all [bne]
      · have g1 : (hc0 == 196608) = false := by simpa using k1
        by_cases k2 : hc0 = 80877103
        · have Hk2 := Lib.hid (Hk.out.trans ((if_neg k1).trans (if_pos k2)))
          subst k2
          clear Hk k1
          go_wp2_with fail
          all_goals
            go_ret
            refine ⟨ret_bool ?_, Hw.out⟩
            rw [Hm.out, Hk2.out]
            simp_all [bne]
        · have g2 : (hc0 == 80877103) = false := by simpa using k2
          by_cases k3 : hc0 = 80877102
          · have Hk2 := Lib.hid (Hk.out.trans ((if_neg k1).trans ((if_neg k2).trans (if_pos k3))))
            subst k3
            clear Hk k1 k2
            have Hr1 := Lib.hid (rightR_any hc1 4 wr)
            have Hr2 := Lib.hid (rightR_any hc2 4 wr)
            generalize rightB hc1 4 = r1 at *
            generalize rightB hc2 4 = r2 at *
            by_cases hp : hc1 = 0
            · subst hp
              by_cases hn0 : (L.length : Int) = 0
              · have hnn : ((L.length : Int) == 0) = true := by simpa using hn0
                rw [hnn] at Hk2
                clear hn0
                by_cases q1 : (0 : Int) ≤ 0
                · rw [decide_eq_true q1] at Hk2
                  by_cases q2 : 0 ≤ hc2
                  · rw [decide_eq_true q2] at Hk2
                    cases r1 with
                    | false =>
                      go_wp2_with fail
                      refine Hr1.out.mono ?_
                      rintro e w3 ⟨rfl, rfl⟩
                      go_wp2_with fail
                      go_ret
                      exact ⟨ret_bool (by rw [Hm.out, Hk2.out]; simp), Hw.out⟩
                    | true =>
                      go_wp2_with fail
                      refine Hr1.out.mono ?_
                      rintro e w3 ⟨rfl, rfl⟩
                      go_wp2_with fail
                      refine Hr2.out.mono ?_
                      rintro e w3 ⟨rfl, rfl⟩
                      go_wp2_with fail
                      go_ret
                      exact ⟨ret_bool (by rw [Hm.out, Hk2.out]; simp), Hw.out⟩
                  · rw [decide_eq_false q2] at Hk2
                    go_wp2_with fail
                    all_goals
                      go_ret
                      exact ⟨ret_bool (by rw [Hm.out, Hk2.out]; simp), Hw.out⟩
                · exact absurd (Int.le_refl 0) q1
              · have hnn : ((L.length : Int) == 0) = false := by simpa using hn0
                rw [hnn] at Hk2
                clear hn0
                go_wp2_with fail
                all_goals
                  go_ret
                  exact ⟨ret_bool (by rw [Hm.out, Hk2.out]; simp), Hw.out⟩
            · have hpb : (hc1 == 0) = false := by simpa using hp
              clear hp
              by_cases hn0 : (L.length : Int) = 0
              · have hnn : ((L.length : Int) == 0) = true := by simpa using hn0
                rw [hnn] at Hk2
                clear hn0
                by_cases q1 : 0 ≤ hc1
                · rw [decide_eq_true q1] at Hk2
                  by_cases q2 : 0 ≤ hc2
                  · rw [decide_eq_true q2] at Hk2
                    cases r1 with
                    | false =>
                      go_wp2_with fail
                      refine Hr1.out.mono ?_
                      rintro e w3 ⟨rfl, rfl⟩
                      go_wp2_with fail
                      go_ret
                      exact ⟨ret_bool (by rw [Hm.out, Hk2.out]; simp), Hw.out⟩
                    | true =>
                      go_wp2_with fail
                      refine Hr1.out.mono ?_
                      rintro e w3 ⟨rfl, rfl⟩
                      go_wp2_with fail
                      refine Hr2.out.mono ?_
                      rintro e w3 ⟨rfl, rfl⟩
                      go_wp2_with fail
                      go_ret
                      exact ⟨ret_bool (by rw [Hm.out, Hk2.out]; simp), Hw.out⟩
                  · rw [decide_eq_false q2] at Hk2
                    go_wp2_with fail
                    all_goals
                      go_ret
                      exact ⟨ret_bool (by rw [Hm.out, Hk2.out]; simp), Hw.out⟩
                · rw [decide_eq_false q1] at Hk2
                  go_wp2_with fail
                  all_goals
                    go_ret
                    exact ⟨ret_bool (by rw [Hm.out, Hk2.out]; simp), Hw.out⟩
              · have hnn : ((L.length : Int) == 0) = false := by simpa using hn0
                rw [hnn] at Hk2
                clear hn0
                go_wp2_with fail
                all_goals
                  go_ret
                  exact ⟨ret_bool (by rw [Hm.out, Hk2.out]; simp), Hw.out⟩
          · have g3 : (hc0 == 80877102) = false := by simpa using k3
            have Hk2 := Lib.hid (Hk.out.trans ((if_neg k1).trans ((if_neg k2).trans (if_neg k3))))
            clear Hk k1 k2 k3
            go_wp2_with fail
            all_goals
              go_ret
              exact ⟨ret_bool (by rw [Hm.out, Hk2.out]), Hw.out⟩

end Go.Proofs.YtacnmdlefonjmaaGreat

/-
  First messages (layer 5): the body of a message: plain laws; the program's Build.
-/
namespace Go.Proofs.YtacnmdlefonjmaaGreat
open Go.RowKit
set_option linter.unusedVariables false
set_option linter.unusedSimpArgs false

def prB (x : PrV) : List UInt8 := (x.name.data.toList ++ [0]) ++ (x.value.data.toList ++ [0])
def parsB (L : List PrV) : List UInt8 := (L.map prB).flatten
theorem parsB_take {L : List PrV} {k : Nat} (hk : k < L.length) : parsB (L.take (k + 1)) = parsB (L.take k) ++ prB L[k] := by
  unfold parsB
  rw [List.take_succ_eq_append_getElem hk, List.map_append, List.flatten_append]
  simp
theorem parsB_le (L : List PrV) (k : Nat) : (parsB (L.take k)).length ≤ (parsB L).length := by
  have h : parsB L = parsB (L.take k) ++ parsB (L.drop k) := by
    unfold parsB
    rw [← List.flatten_append, ← List.map_append, List.take_append_drop]
  rw [h, List.length_append]
  omega
theorem parsB_all (L : List PrV) : parsB (L.take L.length) = parsB L := by rw [List.take_length]
theorem parsB_many : ∀ L : List PrV, 2 * L.length ≤ (parsB L).length
  | [] => by simp
  | x :: L => by
    have := parsB_many L
    unfold parsB at *
    rw [List.map_cons, List.flatten_cons, List.length_append, List.length_cons]
    have : 2 ≤ (prB x).length := by unfold prB; simp; omega
    omega

/-- The bytes of a message that may be told. -/
def bodyV (h : HelV) : List UInt8 :=
  if h.code = 80877102 then putV (putV (putV [] h.code 4) h.process 4) h.secret 4
  else if h.code = 196608 then (putV [] h.code 4 ++ parsB h.params) ++ [0]
  else putV [] h.code 4
def buildV (h : HelV) : List UInt8 × Int := if mayV h = true then (bodyV h, 0) else ([], 1)

/-- What a pair's bytes are after so many texts. -/
def pieceB (x : PrV) : Nat → List UInt8
  | 0 => []
  | 1 => x.name.data.toList ++ [0]
  | _ => prB x

/-- What Build leaves. -/
def BuildR (h : HelV) (w : World) (e : Ending) (w' : World) : Prop :=
  ∃ v, e = .returned (.tuple #[v, .int .i64 (buildV h).2]) ∧ OwnBR w.heap.size w' v (buildV h).1 ∧ Below w.heap.size w w'

end Go.Proofs.YtacnmdlefonjmaaGreat

/-
  First messages (layer 5): hello.Build whole.
-/
namespace Go.Proofs.YtacnmdlefonjmaaGreat
open Go.RowKit
set_option linter.unusedVariables false
set_option linter.unusedSimpArgs false

theorem may_code {h : HelV} (hm : mayV h = true) : h.code = 196608 ∨ h.code = 80877102 ∨ h.code = 80877103 := by
  unfold mayV kindV at hm
  by_cases h1 : h.code = 196608
  · exact .inl h1
  · by_cases h2 : h.code = 80877102
    · exact .inr (.inl h2)
    · by_cases h3 : h.code = 80877103
      · exact .inr (.inr h3)
      · rw [if_neg h1, if_neg h3, if_neg h2] at hm
        simp at hm

end Go.Proofs.YtacnmdlefonjmaaGreat

