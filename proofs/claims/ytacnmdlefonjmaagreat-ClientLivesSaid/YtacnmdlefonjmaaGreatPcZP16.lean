/-
  Ground: HeF, FpC.
-/
import Derived.Test.YtacnmdlefonjmaaGreatPcZP11
import Derived.Test.YtacnmdlefonjmaaGreatPcZP10
/-
  First messages (layer 5): the document's Parse.
-/
namespace Go.Proofs.YtacnmdlefonjmaaGreat
open Go.RowKit
set_option linter.unusedVariables false
set_option linter.unusedSimpArgs false

set_option maxRecDepth 100000 in
theorem rparse_short (p : Option Addr) (l : List UInt8) (cap : Nat) (w : World) (h : l.length < 4) :
    Calls Tryz.prog 32 #[.slice p l.length cap] w (ParseR l w) := by
  have hi : ((l.length : Nat) : Int) < 4 := by omega
  have Hv : Hid (parseV l = (helZero, 4)) := Lib.hid (by unfold parseV; rw [if_pos h])
  have Hr : Hid (Blk (w.alloc (.cells helZ 42)) w.heap.size 42 helZ) := Lib.hid (Blk.new _ _ _)
  have HA : Hid (Below w.heap.size w (w.alloc (.cells helZ 42))) := Lib.hid ((Below.refl _ _).alloc (Nat.le_refl _) _)
  clear h
  unfold helZ at Hr HA
  go_enter Tryz.func32, Tryz.ntmps32
  go_upto_region 1 with (fail)
  generalize w.alloc (.cells #[.int .i64 0, .int .i64 0, .int .i64 0, .slice none 0 0] 42) = w0 at *
  have hc := Hr.out.cell
  have hf := Hr.out.frozen
  go_wp2_with fail
  have hT := setHel_touch w0 w.heap.size helZero none 0
  have hbf := setHel_blk helZero none 0 Hr.out
  have HB := Lib.hid (HA.out.trans (hT.below HA.out.size (fun k hk => by omega)))
  unfold setHel helZero at hbf HB
  unfold helCells at hbf
  dsimp only [List.length_nil] at hbf HB
  have hcf := hbf.cell
  clear hT hbf hc hf
  refine bodyPost_ret (v := .tuple #[.agg #[.int .i64 0, .int .i64 0, .int .i64 0, .slice none 0 0], .int .i64 4]) (by simp [results, Tryz.results32, go_sem, hcf]) rfl ?_
  unfold ParseR
  rw [Hv.out]
  exact ⟨none, 0, by simp [helArg, helCells, helZero], ⟨none, 0, [], rfl, Nat.le_refl _, by simp [maxLen], CellsIn.nil, trivial⟩, HB.out⟩

set_option maxRecDepth 100000 in
set_option maxHeartbeats 4000000 in
theorem rparse_kind (p : Option Addr) (l : List UInt8) (cap : Nat) (w : World) (h4 : 4 ≤ l.length) (hl : l.length ≤ 100000) (hb : BytesIn w p l) (code : Int) (h1 : numV l false 4 = code) (n1 : code ≠ 196608) (n2 : code ≠ 80877102) (n3 : code ≠ 80877103) :
    Calls Tryz.prog 32 #[.slice p l.length cap] w (ParseR l w) := by
  have hi : ¬ ((l.length : Nat) : Int) < 4 := by omega
  have hok : numOk l false 4 = true := by unfold numOk; simp [sizedB]; omega
  obtain ⟨R, hR⟩ : ∃ R, l.drop 4 = R := ⟨_, rfl⟩
  have hRl : R.length ≤ 100000 := by rw [← hR, List.length_drop]; omega
  have Hv : Hid (parseV l = (helZero, 9)) := Lib.hid (by unfold parseV; rw [if_neg (by omega), h1]; simp [n1, n2, n3])
  have g1 : (code == 196608) = false := by simpa using n1
  have g2 : (code == 80877102) = false := by simpa using n2
  have g3 : (code == 80877103) = false := by simpa using n3
  clear n1 n2 n3
  have Hr : Hid (Blk (w.alloc (.cells helZ 42)) w.heap.size 42 helZ) := Lib.hid (Blk.new _ _ _)
  have hA : Below w.heap.size w (w.alloc (.cells helZ 42)) := (Below.refl _ _).alloc (Nat.le_refl _) _
  have HA := Lib.hid hA
  have hz : w.heap.size < (w.alloc (.cells helZ 42)).heap.size := by simp
  have HN := Lib.hid (refSNew_any p l cap (w.alloc (.cells helZ 42)) (by omega) ((Touch.of_below (p := fun _ => False) hA).bytesIn hb (fun _ _ _ e => e)))
  have Hc := Lib.hid (And.intro h1 (And.intro hok hR))
  clear hb hA h1 hok hR
  unfold helZ at Hr HA HN hz
  go_enter Tryz.func32, Tryz.ntmps32
  go_upto_region 1 with (fail)
  generalize w.alloc (.cells #[.int .i64 0, .int .i64 0, .int .i64 0, .slice none 0 0] 42) = w0 at *
  go_wp2_with fail
  refine HN.out.mono ?_
  rintro e w1 ⟨sb, g, rfl, hs1, hsb, hg, hT1⟩
  have hz1 := hT1.size
  have HNm := Lib.hid (refSNum_any sb g l false 4 w1 hs1)
  rw [Hc.out.1, Hc.out.2.1] at HNm
  have HB1 := Lib.hid (HA.out.trans (hT1.below HA.out.size (fun k e => e.elim)))
  have Hr1 := Lib.hid (hT1.blk Hr.out (fun e => e))
  clear hs1 hT1 HN HA Hr
  go_wp2_with fail
  refine HNm.out.mono ?_
  rintro e w2 ⟨rfl, hs2, hT2⟩
  have hs2' : RefS w2 sb g (l.drop 4) false := hs2
  rw [Hc.out.2.2] at hs2'
  have hz2 := hT2.size
  have HB2 := Lib.hid (HB1.out.trans (hT2.below HB1.out.size (fun k e => by omega)))
  have Hr2 := Lib.hid (hT2.blk Hr1.out (by omega))
  have HS2 := Lib.hid hs2'
  clear hs2 hs2' hT2 HNm HB1 Hr1
  go_upto_region 5 with (fail)
  have hal : Below w2.heap.size w2 (w2.alloc (.cells #[.int .i64 code, .int .i64 0, .int .i64 0, .slice none 0 0] 42)) := (Below.refl _ _).alloc (Nat.le_refl _) _
  have Hr3 := Lib.hid (Hr2.out.below hal Hr2.out.lt)
  have HB3 := Lib.hid (HB2.out.trans (hal.mono HB2.out.size))
  have HX3 : Hid (Blk (w2.alloc (.cells #[.int .i64 code, .int .i64 0, .int .i64 0, .slice none 0 0] 42)) w2.heap.size 42 #[.int .i64 code, .int .i64 0, .int .i64 0, .slice none 0 0]) := Lib.hid (Blk.new _ _ _)
  have HS3 := Lib.hid (HS2.out.touch (Touch.of_below (p := fun _ => False) hal) (fun e => e) (fun _ e => e))
  have hsl := HS2.out.lt
  have hz3 : w2.heap.size < (w2.alloc (.cells #[.int .i64 code, .int .i64 0, .int .i64 0, .slice none 0 0] 42)).heap.size := by simp
  have hgl : R ≠ [] → g < w2.heap.size := fun e => HS2.out.ltg e
  have Hgl := Lib.hid hgl
  clear hal Hr2 HB2 HS2 hgl
  generalize w2.alloc (.cells #[.int .i64 code, .int .i64 0, .int .i64 0, .slice none 0 0] 42) = w3 at *
  generalize w2.heap.size = gh at *
  have hx3 := HX3.out.cell
  have hc := Hr3.out.cell
  have hf := Hr3.out.frozen
  go_wp2_with fail
  have hT := setHel_touch w3 w.heap.size helZero none 0
  have hbf := setHel_blk helZero none 0 Hr3.out
  have HB := Lib.hid (HB3.out.trans (hT.below HB3.out.size (fun k hk => by omega)))
  unfold setHel helZero at hbf HB
  unfold helCells at hbf
  dsimp only [List.length_nil] at hbf HB
  have hcf := hbf.cell
  clear hT hbf hc hf
  refine bodyPost_ret (v := .tuple #[.agg #[.int .i64 0, .int .i64 0, .int .i64 0, .slice none 0 0], .int .i64 9]) (by simp [results, Tryz.results32, go_sem, hcf]) rfl ?_
  unfold ParseR
  rw [Hv.out]
  exact ⟨none, 0, by simp [helArg, helCells, helZero], ⟨none, 0, [], rfl, Nat.le_refl _, by simp [maxLen], CellsIn.nil, trivial⟩, HB.out⟩

set_option maxRecDepth 100000 in
set_option maxHeartbeats 4000000 in
theorem rparse_ssl (p : Option Addr) (l : List UInt8) (cap : Nat) (w : World) (h4 : 4 ≤ l.length) (hl : l.length ≤ 100000) (hb : BytesIn w p l) (h1 : numV l false 4 = 80877103) :
    Calls Tryz.prog 32 #[.slice p l.length cap] w (ParseR l w) := by
  have hi : ¬ ((l.length : Nat) : Int) < 4 := by omega
  have hok : numOk l false 4 = true := by unfold numOk; simp [sizedB]; omega
  obtain ⟨R, hR⟩ : ∃ R, l.drop 4 = R := ⟨_, rfl⟩
  have hRl : R.length ≤ 100000 := by rw [← hR, List.length_drop]; omega
  have Hv : Hid (parseV l = if R = [] then (⟨80877103, 0, 0, []⟩, 0) else (helZero, 4)) := Lib.hid (by unfold parseV; rw [if_neg (by omega)]; dsimp only; rw [h1, hR]; simp)
  have Hr : Hid (Blk (w.alloc (.cells helZ 42)) w.heap.size 42 helZ) := Lib.hid (Blk.new _ _ _)
  have hA : Below w.heap.size w (w.alloc (.cells helZ 42)) := (Below.refl _ _).alloc (Nat.le_refl _) _
  have HA := Lib.hid hA
  have hz : w.heap.size < (w.alloc (.cells helZ 42)).heap.size := by simp
  have HN := Lib.hid (refSNew_any p l cap (w.alloc (.cells helZ 42)) (by omega) ((Touch.of_below (p := fun _ => False) hA).bytesIn hb (fun _ _ _ e => e)))
  have Hc := Lib.hid (And.intro h1 (And.intro hok hR))
  clear hb hA h1 hok hR
  unfold helZ at Hr HA HN hz
  go_enter Tryz.func32, Tryz.ntmps32
  go_upto_region 1 with (fail)
  generalize w.alloc (.cells #[.int .i64 0, .int .i64 0, .int .i64 0, .slice none 0 0] 42) = w0 at *
  go_wp2_with fail
  refine HN.out.mono ?_
  rintro e w1 ⟨sb, g, rfl, hs1, hsb, hg, hT1⟩
  have hz1 := hT1.size
  have HNm := Lib.hid (refSNum_any sb g l false 4 w1 hs1)
  rw [Hc.out.1, Hc.out.2.1] at HNm
  have HB1 := Lib.hid (HA.out.trans (hT1.below HA.out.size (fun k e => e.elim)))
  have Hr1 := Lib.hid (hT1.blk Hr.out (fun e => e))
  clear hs1 hT1 HN HA Hr
  go_wp2_with fail
  refine HNm.out.mono ?_
  rintro e w2 ⟨rfl, hs2, hT2⟩
  have hs2' : RefS w2 sb g (l.drop 4) false := hs2
  rw [Hc.out.2.2] at hs2'
  have hz2 := hT2.size
  have HB2 := Lib.hid (HB1.out.trans (hT2.below HB1.out.size (fun k e => by omega)))
  have Hr2 := Lib.hid (hT2.blk Hr1.out (by omega))
  have HS2 := Lib.hid hs2'
  clear hs2 hs2' hT2 HNm HB1 Hr1
  go_upto_region 5 with (fail)
  have hal : Below w2.heap.size w2 (w2.alloc (.cells #[.int .i64 80877103, .int .i64 0, .int .i64 0, .slice none 0 0] 42)) := (Below.refl _ _).alloc (Nat.le_refl _) _
  have Hr3 := Lib.hid (Hr2.out.below hal Hr2.out.lt)
  have HB3 := Lib.hid (HB2.out.trans (hal.mono HB2.out.size))
  have HX3 : Hid (Blk (w2.alloc (.cells #[.int .i64 80877103, .int .i64 0, .int .i64 0, .slice none 0 0] 42)) w2.heap.size 42 #[.int .i64 80877103, .int .i64 0, .int .i64 0, .slice none 0 0]) := Lib.hid (Blk.new _ _ _)
  have HS3 := Lib.hid (HS2.out.touch (Touch.of_below (p := fun _ => False) hal) (fun e => e) (fun _ e => e))
  have hsl := HS2.out.lt
  have hz3 : w2.heap.size < (w2.alloc (.cells #[.int .i64 80877103, .int .i64 0, .int .i64 0, .slice none 0 0] 42)).heap.size := by simp
  have hgl : R ≠ [] → g < w2.heap.size := fun e => HS2.out.ltg e
  have Hgl := Lib.hid hgl
  clear hal Hr2 HB2 HS2 hgl
  generalize w2.alloc (.cells #[.int .i64 80877103, .int .i64 0, .int .i64 0, .slice none 0 0] 42) = w3 at *
  generalize w2.heap.size = gh at *
  have hx3 := HX3.out.cell
  have HD := Lib.hid (refSDone_any sb g R false w3 HS3.out)
  have hc := Hr3.out.cell
  have hf := Hr3.out.frozen
  cases hRe : R with
  | nil =>
    rw [hRe] at HD Hv
    have Hv' : Hid (parseV l = (⟨80877103, 0, 0, []⟩, 0)) := Lib.hid (by rw [Hv.out]; simp)
    simp only [List.isEmpty_nil, Bool.not_false, Bool.and_true] at HD
    clear hRe
    go_wp2_with (go_at_call 58; refine HD.out.mono ?_; rintro e w4 ⟨rfl, rfl⟩)
    have hT := setHel_touch w3 w.heap.size ⟨80877103, 0, 0, []⟩ none 0
    have hbf := setHel_blk ⟨80877103, 0, 0, []⟩ none 0 Hr3.out
    have HB := Lib.hid (HB3.out.trans (hT.below HB3.out.size (fun k hk => by omega)))
    unfold setHel at hbf HB
    unfold helCells at hbf
    dsimp only [List.length_nil] at hbf HB
    have hcf := hbf.cell
    clear hT hbf hc hf
    refine bodyPost_ret (v := .tuple #[.agg #[.int .i64 80877103, .int .i64 0, .int .i64 0, .slice none 0 0], .int .i64 0]) (by simp [results, Tryz.results32, go_sem, hcf]) rfl ?_
    unfold ParseR
    rw [Hv'.out]
    exact ⟨none, 0, by simp [helArg, helCells], ⟨none, 0, [], rfl, Nat.le_refl _, by simp [maxLen], CellsIn.nil, trivial⟩, HB.out⟩
  | cons b T =>
    rw [hRe] at HD Hv
    have Hv' : Hid (parseV l = (helZero, 4)) := Lib.hid (by rw [Hv.out]; simp)
    simp only [List.isEmpty_cons, Bool.not_false, Bool.and_false] at HD
    clear hRe
    go_wp2_with (go_at_call 58; refine HD.out.mono ?_; rintro e w4 ⟨rfl, rfl⟩)
    have hT := setHel_touch w3 w.heap.size helZero none 0
    have hbf := setHel_blk helZero none 0 Hr3.out
    have HB := Lib.hid (HB3.out.trans (hT.below HB3.out.size (fun k hk => by omega)))
    unfold setHel helZero at hbf HB
    unfold helCells at hbf
    dsimp only [List.length_nil] at hbf HB
    have hcf := hbf.cell
    clear hT hbf hc hf
    refine bodyPost_ret (v := .tuple #[.agg #[.int .i64 0, .int .i64 0, .int .i64 0, .slice none 0 0], .int .i64 4]) (by simp [results, Tryz.results32, go_sem, hcf]) rfl ?_
    unfold ParseR
    rw [Hv'.out]
    exact ⟨none, 0, by simp [helArg, helCells, helZero], ⟨none, 0, [], rfl, Nat.le_refl _, by simp [maxLen], CellsIn.nil, trivial⟩, HB.out⟩

set_option maxRecDepth 100000 in
set_option maxHeartbeats 4000000 in
theorem rparse_version (p : Option Addr) (l : List UInt8) (cap : Nat) (w : World) (h4 : 4 ≤ l.length) (hl : l.length ≤ 100000) (hb : BytesIn w p l) (h1 : numV l false 4 = 196608) :
    Calls Tryz.prog 32 #[.slice p l.length cap] w (ParseR l w) := by
  have hi : ¬ ((l.length : Nat) : Int) < 4 := by omega
  have hok : numOk l false 4 = true := by unfold numOk; simp [sizedB]; omega
  obtain ⟨R, hR⟩ : ∃ R, l.drop 4 = R := ⟨_, rfl⟩
  have hRl : R.length ≤ 100000 := by rw [← hR, List.length_drop]; omega
  obtain ⟨P, hP⟩ : ∃ P, pairsR (R.length + 1) R false = P := ⟨_, rfl⟩
  have Hv : Hid (parseV l = if P.2.2 = false ∧ P.2.1 = [] then (⟨196608, 0, 0, P.1⟩, 0) else (helZero, 4)) := Lib.hid (by unfold parseV; rw [if_neg (by omega)]; dsimp only; rw [h1, hR, hP]; simp)
  have HPe := Lib.hid (pairsX_eq (R.length + 1) R R false (fun _ => rfl))
  rw [hP] at HPe
  clear hP
  have Hr : Hid (Blk (w.alloc (.cells helZ 42)) w.heap.size 42 helZ) := Lib.hid (Blk.new _ _ _)
  have hA : Below w.heap.size w (w.alloc (.cells helZ 42)) := (Below.refl _ _).alloc (Nat.le_refl _) _
  have HA := Lib.hid hA
  have hz : w.heap.size < (w.alloc (.cells helZ 42)).heap.size := by simp
  have HN := Lib.hid (refSNew_any p l cap (w.alloc (.cells helZ 42)) (by omega) ((Touch.of_below (p := fun _ => False) hA).bytesIn hb (fun _ _ _ e => e)))
  have Hc := Lib.hid (And.intro h1 (And.intro hok hR))
  clear hb hA h1 hok hR
  unfold helZ at Hr HA HN hz
  go_enter Tryz.func32, Tryz.ntmps32
  go_upto_region 1 with (fail)
  generalize w.alloc (.cells #[.int .i64 0, .int .i64 0, .int .i64 0, .slice none 0 0] 42) = w0 at *
  go_wp2_with fail
  refine HN.out.mono ?_
  rintro e w1 ⟨sb, g, rfl, hs1, hsb, hg, hT1⟩
  have hz1 := hT1.size
  have HNm := Lib.hid (refSNum_any sb g l false 4 w1 hs1)
  rw [Hc.out.1, Hc.out.2.1] at HNm
  have HB1 := Lib.hid (HA.out.trans (hT1.below HA.out.size (fun k e => e.elim)))
  have Hr1 := Lib.hid (hT1.blk Hr.out (fun e => e))
  clear hs1 hT1 HN HA Hr
  go_wp2_with fail
  refine HNm.out.mono ?_
  rintro e w2 ⟨rfl, hs2, hT2⟩
  have hs2' : RefS w2 sb g (l.drop 4) false := hs2
  rw [Hc.out.2.2] at hs2'
  have hz2 := hT2.size
  have HB2 := Lib.hid (HB1.out.trans (hT2.below HB1.out.size (fun k e => by omega)))
  have Hr2 := Lib.hid (hT2.blk Hr1.out (by omega))
  have HS2 := Lib.hid hs2'
  clear hs2 hs2' hT2 HNm HB1 Hr1
  go_upto_region 5 with (fail)
  have hal : Below w2.heap.size w2 (w2.alloc (.cells #[.int .i64 196608, .int .i64 0, .int .i64 0, .slice none 0 0] 42)) := (Below.refl _ _).alloc (Nat.le_refl _) _
  have Hr3 := Lib.hid (Hr2.out.below hal Hr2.out.lt)
  have HB3 := Lib.hid (HB2.out.trans (hal.mono HB2.out.size))
  have HX3 : Hid (Blk (w2.alloc (.cells #[.int .i64 196608, .int .i64 0, .int .i64 0, .slice none 0 0] 42)) w2.heap.size 42 #[.int .i64 196608, .int .i64 0, .int .i64 0, .slice none 0 0]) := Lib.hid (Blk.new _ _ _)
  have HS3 := Lib.hid (HS2.out.touch (Touch.of_below (p := fun _ => False) hal) (fun e => e) (fun _ e => e))
  have hsl := HS2.out.lt
  have hz3 : w2.heap.size < (w2.alloc (.cells #[.int .i64 196608, .int .i64 0, .int .i64 0, .slice none 0 0] 42)).heap.size := by simp
  have hgl : R ≠ [] → g < w2.heap.size := fun e => HS2.out.ltg e
  have Hgl := Lib.hid hgl
  clear hal Hr2 HB2 HS2 hgl
  generalize w2.alloc (.cells #[.int .i64 196608, .int .i64 0, .int .i64 0, .slice none 0 0] 42) = w3 at *
  generalize w2.heap.size = gh at *
  have hx3 := HX3.out.cell
  have HPr := Lib.hid (params_any sb g R w3 HS3.out hRl)
  by_cases hd : P.2.2 = false ∧ P.2.1 = []
  · obtain ⟨N, hN⟩ : ∃ N, P.1.length = N := ⟨_, rfl⟩
    have HNn := Lib.hid hN
    have Hv' : Hid (parseV l = (⟨196608, 0, 0, P.1⟩, 0)) := Lib.hid (by rw [Hv.out, if_pos hd])
    have HC : Hid (Calls Tryz.prog 57 #[.pointer (some ⟨sb, 0, none⟩)] w3 fun e w' => ∃ p4 c4, e = .returned (.tuple #[.slice p4 N c4, .bool true]) ∧ OwnPr w3.heap.size w' (.slice p4 N c4) P.1 ∧ Touch (fun i => i = sb) w3 w') := Lib.hid (HPr.out.mono (fun e w' ⟨h1, h2⟩ => by
      obtain ⟨e1, e2, e3⟩ := HPe.out
      rcases h1 with ⟨hb, _⟩ | ⟨_, vo, he, ho⟩
      · rw [e2, hd.1] at hb; cases hb
      · rw [e1] at ho
        rw [e3 hd.1, hd.2] at he
        obtain ⟨pz, cz, ez, _⟩ := ho.slice PrS.still (S' := fun _ => True) (fun _ _ _ => trivial) (fun _ _ => trivial)
        rw [hN] at ez
        subst ez
        exact ⟨pz, cz, he, ho, h2⟩))
    clear hN hd
    go_upto_region 15 with (go_at_call 57; refine HC.out.mono ?_; rintro e w4 ⟨p4, c4, rfl, ho4, hT4⟩; have hz4 := hT4.size; have HO4 := Lib.hid ho4; have HX4 := Lib.hid (hT4.blk HX3.out (by omega)); have Hr4 := Lib.hid (hT4.blk Hr3.out (by omega)); have HB4 := Lib.hid (HB3.out.trans (hT4.below HB3.out.size (fun k e => by omega))); have hx4 := HX4.out.cell; have hy4 := HX4.out.frozen; clear ho4 hT4 hx3)
    have hT5 : Touch (fun i => i = gh) w4 (w4.setCell ⟨gh, 3, none⟩ (.slice p4 N c4)) := (Touch.refl (fun i => i = gh) _).setCell (x := ⟨gh, 3, none⟩) (fun _ => rfl) _
    have hx5 := HX4.out.set_ 3 (.slice p4 N c4)
    simp only [List.setIfInBounds_toArray, List.set_cons_succ, List.set_cons_zero] at hx5
    have Hr5 := Lib.hid (hT5.blk Hr4.out (by omega))
    have HB5 := Lib.hid (HB4.out.trans (hT5.below HB4.out.size (fun k e => by omega)))
    have HO5 := Lib.hid (HO4.out.touch (S' := fun k => w3.heap.size ≤ k) PrS.still hT5 (fun k hk => by have := (HO4.out.row k hk).1; omega) (fun k _ hk _ => ⟨hk, fun e => by omega⟩))
    clear hT5 hx4 hy4 HX4 Hr4 HB4 HO4
    generalize w4.setCell ⟨gh, 3, none⟩ (.slice p4 N c4) = w5 at *
    have hc5 := hx5.cell
    have hc := Hr5.out.cell
    have hf := Hr5.out.frozen
    go_wp2_with fail
    have hT := setHel_touch w5 w.heap.size ⟨196608, 0, 0, P.1⟩ p4 c4
    have hbf := setHel_blk ⟨196608, 0, 0, P.1⟩ p4 c4 Hr5.out
    have HB := Lib.hid (HB5.out.trans (hT.below HB5.out.size (fun k hk => by omega)))
    have HR := Lib.hid (HO5.out.touch (S' := fun k => w3.heap.size ≤ k) PrS.still hT (fun k hk => by have := (HO5.out.row k hk).1; omega) (fun k _ hk _ => ⟨hk, fun e => by omega⟩))
    unfold setHel at hbf HB HR
    unfold helCells at hbf
    dsimp only at hbf HB HR
    rw [HNn.out] at hbf HB HR
    have hcf := hbf.cell
    clear hT hbf hc hf hc5 hx5
    refine bodyPost_ret (v := .tuple #[.agg #[.int .i64 196608, .int .i64 0, .int .i64 0, .slice p4 N c4], .int .i64 0]) (by simp [results, Tryz.results32, go_sem, hcf]) rfl ?_
    unfold ParseR
    rw [Hv'.out]
    dsimp only
    obtain ⟨pz, cz, ez, hzz⟩ := HR.out.slice PrS.still (S' := fun k => w.heap.size ≤ k) (fun k _ hk => by have hk' : w3.heap.size ≤ k := hk; omega) (fun k hk => by have := (HR.out.row k hk).1; omega)
    rw [HNn.out] at ez hzz ⊢
    rw [← ez] at hzz
    refine ⟨p4, c4, ?_, hzz, HB.out⟩
    simp only [helArg, helCells]
    rw [HNn.out]
  · have Hv' : Hid (parseV l = (helZero, 4)) := Lib.hid (by rw [Hv.out, if_neg hd])
    have HC : Hid (Calls Tryz.prog 57 #[.pointer (some ⟨sb, 0, none⟩)] w3 fun e w' => ∃ p4 n4 c4, e = .returned (.tuple #[.slice p4 n4 c4, .bool false]) ∧ Touch (fun i => i = sb) w3 w') := Lib.hid (HPr.out.mono (fun e w' ⟨h1, h2⟩ => by
      obtain ⟨e1, e2, e3⟩ := HPe.out
      rcases h1 with ⟨hb, he⟩ | ⟨hb, vo, he, ho⟩
      · exact ⟨_, _, _, he, h2⟩
      · obtain ⟨pz, cz, ez, _⟩ := ho.slice PrS.still (S' := fun _ => True) (fun _ _ _ => trivial) (fun _ _ => trivial)
        rw [e2] at hb
        rw [e3 hb] at he
        have hne : P.2.1.isEmpty = false := by
          cases hh : P.2.1.isEmpty with
          | false => rfl
          | true => exact absurd ⟨hb, by simpa using hh⟩ hd
        rw [hne, ez] at he
        exact ⟨_, _, _, he, h2⟩))
    clear hd
    go_upto_region 15 with (go_at_call 57; refine HC.out.mono ?_; rintro e w4 ⟨p4, n4, c4, rfl, hT4⟩; have hz4 := hT4.size; have HX4 := Lib.hid (hT4.blk HX3.out (by omega)); have Hr4 := Lib.hid (hT4.blk Hr3.out (by omega)); have HB4 := Lib.hid (HB3.out.trans (hT4.below HB3.out.size (fun k e => by omega))); have hx4 := HX4.out.cell; have hy4 := HX4.out.frozen; clear hT4 hx3)
    have hT5 : Touch (fun i => i = gh) w4 (w4.setCell ⟨gh, 3, none⟩ (.slice p4 n4 c4)) := (Touch.refl (fun i => i = gh) _).setCell (x := ⟨gh, 3, none⟩) (fun _ => rfl) _
    have hx5 := HX4.out.set_ 3 (.slice p4 n4 c4)
    simp only [List.setIfInBounds_toArray, List.set_cons_succ, List.set_cons_zero] at hx5
    have Hr5 := Lib.hid (hT5.blk Hr4.out (by omega))
    have HB5 := Lib.hid (HB4.out.trans (hT5.below HB4.out.size (fun k e => by omega)))
    clear hT5 hx4 hy4 HX4 Hr4 HB4
    generalize w4.setCell ⟨gh, 3, none⟩ (.slice p4 n4 c4) = w5 at *
    have hc5 := hx5.cell
    have hc := Hr5.out.cell
    have hf := Hr5.out.frozen
    go_wp2_with fail
    have hT := setHel_touch w5 w.heap.size helZero none 0
    have hbf := setHel_blk helZero none 0 Hr5.out
    have HB := Lib.hid (HB5.out.trans (hT.below HB5.out.size (fun k hk => by omega)))
    unfold setHel helZero at hbf HB
    unfold helCells at hbf
    dsimp only [List.length_nil] at hbf HB
    have hcf := hbf.cell
    clear hT hbf hc hf
    refine bodyPost_ret (v := .tuple #[.agg #[.int .i64 0, .int .i64 0, .int .i64 0, .slice none 0 0], .int .i64 4]) (by simp [results, Tryz.results32, go_sem, hcf]) rfl ?_
    unfold ParseR
    rw [Hv'.out]
    exact ⟨none, 0, by simp [helArg, helCells, helZero], ⟨none, 0, [], rfl, Nat.le_refl _, by simp [maxLen], CellsIn.nil, trivial⟩, HB.out⟩

set_option maxRecDepth 100000 in
set_option maxHeartbeats 4000000 in
theorem rparse_cancel (p : Option Addr) (l : List UInt8) (cap : Nat) (w : World) (h4 : 4 ≤ l.length) (hl : l.length ≤ 100000) (hb : BytesIn w p l) (h1 : numV l false 4 = 80877102) :
    Calls Tryz.prog 32 #[.slice p l.length cap] w (ParseR l w) := by
  have hi : ¬ ((l.length : Nat) : Int) < 4 := by omega
  have hok : numOk l false 4 = true := by unfold numOk; simp [sizedB]; omega
  obtain ⟨R, hR⟩ : ∃ R, l.drop 4 = R := ⟨_, rfl⟩
  have hRl : R.length ≤ 100000 := by rw [← hR, List.length_drop]; omega
  obtain ⟨S, hS⟩ : ∃ S, nx (numOk R false 4) (R.drop 4) R = S := ⟨_, rfl⟩
  obtain ⟨k1, hk1⟩ : ∃ k, numOk R false 4 = k := ⟨_, rfl⟩
  obtain ⟨k2, hk2⟩ : ∃ k, numOk S (!k1) 4 = k := ⟨_, rfl⟩
  obtain ⟨a1, ha1⟩ : ∃ a, numV R false 4 = a := ⟨_, rfl⟩
  obtain ⟨a2, ha2⟩ : ∃ a, numV S (!k1) 4 = a := ⟨_, rfl⟩
  have Hv : Hid (parseV l = if k2 = true ∧ S.drop 4 = [] then (⟨80877102, a1, a2, []⟩, 0) else (helZero, 4)) := Lib.hid (by
    unfold parseV
    rw [if_neg (by omega)]
    dsimp only
    rw [h1, hR, hk1, ha1]
    cases k1 with
    | true =>
      have hS' : nx true (R.drop 4) [] = S := by rw [← hS, hk1]; rfl
      rw [hS', hk2, ha2]
      simp
    | false =>
      have h2 : k2 = false := by rw [← hk2]; unfold numOk; rfl
      rw [h2]
      simp [numOk])
  have Hk := Lib.hid (And.intro hS (And.intro hk1 (And.intro hk2 (And.intro ha1 ha2))))
  clear hS hk1 hk2 ha1 ha2
  have Hr : Hid (Blk (w.alloc (.cells helZ 42)) w.heap.size 42 helZ) := Lib.hid (Blk.new _ _ _)
  have hA : Below w.heap.size w (w.alloc (.cells helZ 42)) := (Below.refl _ _).alloc (Nat.le_refl _) _
  have HA := Lib.hid hA
  have hz : w.heap.size < (w.alloc (.cells helZ 42)).heap.size := by simp
  have HN := Lib.hid (refSNew_any p l cap (w.alloc (.cells helZ 42)) (by omega) ((Touch.of_below (p := fun _ => False) hA).bytesIn hb (fun _ _ _ e => e)))
  have Hc := Lib.hid (And.intro h1 (And.intro hok hR))
  clear hb hA h1 hok hR
  unfold helZ at Hr HA HN hz
  go_enter Tryz.func32, Tryz.ntmps32
  go_upto_region 1 with (fail)
  generalize w.alloc (.cells #[.int .i64 0, .int .i64 0, .int .i64 0, .slice none 0 0] 42) = w0 at *
  go_wp2_with fail
  refine HN.out.mono ?_
  rintro e w1 ⟨sb, g, rfl, hs1, hsb, hg, hT1⟩
  have hz1 := hT1.size
  have HNm := Lib.hid (refSNum_any sb g l false 4 w1 hs1)
  rw [Hc.out.1, Hc.out.2.1] at HNm
  have HB1 := Lib.hid (HA.out.trans (hT1.below HA.out.size (fun k e => e.elim)))
  have Hr1 := Lib.hid (hT1.blk Hr.out (fun e => e))
  clear hs1 hT1 HN HA Hr
  go_wp2_with fail
  refine HNm.out.mono ?_
  rintro e w2 ⟨rfl, hs2, hT2⟩
  have hs2' : RefS w2 sb g (l.drop 4) false := hs2
  rw [Hc.out.2.2] at hs2'
  have hz2 := hT2.size
  have HB2 := Lib.hid (HB1.out.trans (hT2.below HB1.out.size (fun k e => by omega)))
  have Hr2 := Lib.hid (hT2.blk Hr1.out (by omega))
  have HS2 := Lib.hid hs2'
  clear hs2 hs2' hT2 HNm HB1 Hr1
  go_upto_region 5 with (fail)
  have hal : Below w2.heap.size w2 (w2.alloc (.cells #[.int .i64 80877102, .int .i64 0, .int .i64 0, .slice none 0 0] 42)) := (Below.refl _ _).alloc (Nat.le_refl _) _
  have Hr3 := Lib.hid (Hr2.out.below hal Hr2.out.lt)
  have HB3 := Lib.hid (HB2.out.trans (hal.mono HB2.out.size))
  have HX3 : Hid (Blk (w2.alloc (.cells #[.int .i64 80877102, .int .i64 0, .int .i64 0, .slice none 0 0] 42)) w2.heap.size 42 #[.int .i64 80877102, .int .i64 0, .int .i64 0, .slice none 0 0]) := Lib.hid (Blk.new _ _ _)
  have HS3 := Lib.hid (HS2.out.touch (Touch.of_below (p := fun _ => False) hal) (fun e => e) (fun _ e => e))
  have hsl := HS2.out.lt
  have hz3 : w2.heap.size < (w2.alloc (.cells #[.int .i64 80877102, .int .i64 0, .int .i64 0, .slice none 0 0] 42)).heap.size := by simp
  have hgl : R ≠ [] → g < w2.heap.size := fun e => HS2.out.ltg e
  have Hgl := Lib.hid hgl
  clear hal Hr2 HB2 HS2 hgl
  generalize w2.alloc (.cells #[.int .i64 80877102, .int .i64 0, .int .i64 0, .slice none 0 0] 42) = w3 at *
  generalize w2.heap.size = gh at *
  have hx3 := HX3.out.cell
  have HN1 := Lib.hid (refSNum_any sb g R false 4 w3 HS3.out)
  rw [Hk.out.2.2.2.1, Hk.out.2.1] at HN1
  go_wp2_with fail
  refine HN1.out.mono ?_
  rintro e w4 ⟨rfl, hs4, hT4⟩
  have hs4' : RefS w4 sb g (nx (numOk R false 4) (R.drop 4) R) (!k1) := by rw [Hk.out.2.1]; exact hs4
  rw [Hk.out.1] at hs4'
  have hz4 := hT4.size
  have HN2 := Lib.hid (refSNum_any sb g S (!k1) 4 w4 hs4')
  rw [Hk.out.2.2.2.2, Hk.out.2.2.1] at HN2
  have HX4 := Lib.hid (hT4.blk HX3.out (by omega))
  have Hr4 := Lib.hid (hT4.blk Hr3.out (by omega))
  have HB4 := Lib.hid (HB3.out.trans (hT4.below HB3.out.size (fun k e => by omega)))
  clear hs4 hs4' hT4 hx3 HN1
  go_wp2_with fail
  refine HN2.out.mono ?_
  rintro e w5 ⟨rfl, hs5, hT5⟩
  have hz5 := hT5.size
  have HX5 := Lib.hid (hT5.blk HX4.out (by omega))
  have Hr5 := Lib.hid (hT5.blk Hr4.out (by omega))
  have HB5 := Lib.hid (HB4.out.trans (hT5.below HB4.out.size (fun k e => by omega)))
  have HS5 := Lib.hid hs5
  have hx5 := HX5.out.cell
  have hy5 := HX5.out.frozen
  clear hs5 hT5 HN2 HX4 Hr4 HB4
  go_upto_region 14 with (fail)
  have hT6 : Touch (fun i => i = gh) w5 ((w5.setCell ⟨gh, 1, none⟩ (.int .i64 a1)).setCell ⟨gh, 2, none⟩ (.int .i64 a2)) := ((Touch.refl (fun i => i = gh) _).setCell (x := ⟨gh, 1, none⟩) (fun _ => rfl) _).setCell (x := ⟨gh, 2, none⟩) (fun _ => rfl) _
  have hx6 := (HX5.out.set_ 1 (.int .i64 a1)).set_ 2 (.int .i64 a2)
  simp only [List.setIfInBounds_toArray, List.set_cons_succ, List.set_cons_zero] at hx6
  have Hr6 := Lib.hid (hT6.blk Hr5.out (by omega))
  have HB6 := Lib.hid (HB5.out.trans (hT6.below HB5.out.size (fun k e => by omega)))
  have HS6 := Lib.hid (HS5.out.touch hT6 (fun e => by omega) (fun hne e => by
    have hr0 : R ≠ [] := fun er => hne (by
      have hs : S = [] := by rw [← Hk.out.1, er]; unfold nx; split <;> simp
      rw [hs]; unfold nx; split <;> simp)
    have := Hgl.out hr0
    omega))
  clear hT6 hx5 hy5 HX5 Hr5 HB5 HS5
  generalize (w5.setCell ⟨gh, 1, none⟩ (.int .i64 a1)).setCell ⟨gh, 2, none⟩ (.int .i64 a2) = w6 at *
  have hc6 := hx6.cell
  have HD := Lib.hid (refSDone_any sb g _ _ w6 HS6.out)
  have hc := Hr6.out.cell
  have hf := Hr6.out.frozen
  by_cases hd : k2 = true ∧ S.drop 4 = []
  · have Hv' : Hid (parseV l = (⟨80877102, a1, a2, []⟩, 0)) := Lib.hid (by rw [Hv.out, if_pos hd])
    have hnx : (!(!k2) && (nx k2 (S.drop (4 : Int).toNat) S).isEmpty) = true := by rw [show (4 : Int).toNat = 4 from rfl, hd.1, hd.2]; rfl
    rw [hnx] at HD
    clear hd hnx
    go_wp2_with (go_at_call 58; refine HD.out.mono ?_; rintro e w4 ⟨rfl, rfl⟩)
    have hT := setHel_touch w6 w.heap.size ⟨80877102, a1, a2, []⟩ none 0
    have hbf := setHel_blk ⟨80877102, a1, a2, []⟩ none 0 Hr6.out
    have HB := Lib.hid (HB6.out.trans (hT.below HB6.out.size (fun k hk => by omega)))
    unfold setHel at hbf HB
    unfold helCells at hbf
    dsimp only [List.length_nil] at hbf HB
    have hcf := hbf.cell
    clear hT hbf hc hf hc6 hx6
    refine bodyPost_ret (v := .tuple #[.agg #[.int .i64 80877102, .int .i64 a1, .int .i64 a2, .slice none 0 0], .int .i64 0]) (by simp [results, Tryz.results32, go_sem, hcf]) rfl ?_
    unfold ParseR
    rw [Hv'.out]
    exact ⟨none, 0, by simp [helArg, helCells], ⟨none, 0, [], rfl, Nat.le_refl _, by simp [maxLen], CellsIn.nil, trivial⟩, HB.out⟩
  · have Hv' : Hid (parseV l = (helZero, 4)) := Lib.hid (by rw [Hv.out, if_neg hd])
    have hd' : (!(!k2) && (nx k2 (S.drop (4 : Int).toNat) S).isEmpty) = false := by
      cases hk2 : k2 with
      | false => rfl
      | true =>
        have h2 : S.drop 4 ≠ [] := fun e => hd ⟨hk2, e⟩
        show (!(!true) && (S.drop 4).isEmpty) = false
        simpa using h2
    rw [hd'] at HD
    clear hd hd'
    go_wp2_with (go_at_call 58; refine HD.out.mono ?_; rintro e w4 ⟨rfl, rfl⟩)
    have hT := setHel_touch w6 w.heap.size helZero none 0
    have hbf := setHel_blk helZero none 0 Hr6.out
    have HB := Lib.hid (HB6.out.trans (hT.below HB6.out.size (fun k hk => by omega)))
    unfold setHel helZero at hbf HB
    unfold helCells at hbf
    dsimp only [List.length_nil] at hbf HB
    have hcf := hbf.cell
    clear hT hbf hc hf
    refine bodyPost_ret (v := .tuple #[.agg #[.int .i64 0, .int .i64 0, .int .i64 0, .slice none 0 0], .int .i64 4]) (by simp [results, Tryz.results32, go_sem, hcf]) rfl ?_
    unfold ParseR
    rw [Hv'.out]
    exact ⟨none, 0, by simp [helArg, helCells, helZero], ⟨none, 0, [], rfl, Nat.le_refl _, by simp [maxLen], CellsIn.nil, trivial⟩, HB.out⟩

theorem rparse_any (p : Option Addr) (l : List UInt8) (cap : Nat) (w : World) (hl : l.length ≤ 100000) (hb : BytesIn w p l) :
    Calls Tryz.prog 32 #[.slice p l.length cap] w (ParseR l w) := by
  by_cases h4 : l.length < 4
  · exact rparse_short p l cap w h4
  · have h4' : 4 ≤ l.length := by omega
    by_cases h1 : numV l false 4 = 196608
    · exact rparse_version p l cap w h4' hl hb h1
    · by_cases h2 : numV l false 4 = 80877102
      · exact rparse_cancel p l cap w h4' hl hb h2
      · by_cases h3 : numV l false 4 = 80877103
        · exact rparse_ssl p l cap w h4' hl hb h3
        · exact rparse_kind p l cap w h4' hl hb _ rfl h1 h2 h3

end Go.Proofs.YtacnmdlefonjmaaGreat

/-
  Messages of clients (layer 6): Decode, the document's.
-/
namespace Go.Proofs.YtacnmdlefonjmaaGreat
open Go.RowKit
set_option linter.unusedVariables false
set_option linter.unusedSimpArgs false

set_option maxRecDepth 100000 in
set_option maxHeartbeats 4000000 in
theorem rdec_any (k : Int) (h0 : 0 ≤ k) (h1 : k < 256) (p : Option Addr) (l : List UInt8) (cap : Nat) (w : World) (hl : l.length ≤ 100000) (hb : BytesIn w p l) :
    Calls Tryz.prog 33 #[.agg #[.int .u8 k, .slice p l.length cap]] w (DecR k l w) := by
  have H1 := Lib.hid (DeI.start w #[.int .u8 k, .slice p l.length cap])
  have HK := Lib.hid (fun w0 : World => rknown_any k w0)
  have HU := Lib.hid (fun h : knownV k = 0 => dec_unknown (L := l) h)
  have HO := Lib.hid (fun h : knownV k = 2 => dec_other (L := l) h)
  have HQ := Lib.hid (fun (L' : List UInt8) (f : FoV) (b : Bool) (h1 : knownV k = 1) h2 h3 => @dec_bad k l L' f b h1 h2 h3)
  have HG := Lib.hid (fun (f : FoV) (h1 : knownV k = 1) h2 => @dec_ok k l f h1 h2)
  have Hb1 : Hid (BytesIn ((w.alloc (.cells #[.int .u8 k, .slice p l.length cap] 73)).alloc (.cells foZ 46)) p l) := Lib.hid ((((Touch.refl (fun _ => False) w).alloc _).alloc _).bytesIn hb (fun _ _ _ e => e))
  unfold foZ at H1 Hb1
  clear hb
  go_enter Tryz.func33, Tryz.ntmps33
  go_upto_region 1 with (fail)
  generalize (w.alloc (.cells #[.int .u8 k, .slice p l.length cap] 73)).alloc (.cells #[.int .u8 0, .int .u8 0, .string ⟨#[]⟩, .string ⟨#[]⟩, .string ⟨#[]⟩, .slice none 0 0, .slice none 0 0, .slice none 0 0, .slice none 0 0, .int .i64 0] 46) = w1 at *
  have c1 := H1.out.m.cell
  go_wp2_with fail
  refine (HK.out w1).mono ?_
  rintro e w2 ⟨rfl, hb⟩
  have H2 : Hid (DeI w w2 #[.int .u8 k, .slice p l.length cap]) := Lib.hid (by rw [← hb]; exact H1.out)
  have Hb2 : Hid (BytesIn w2 p l) := Lib.hid (by rw [← hb]; exact Hb1.out)
  clear hb c1 Hb1 H1 HK
  generalize hkv : knownV k = kv at *
  have Hkv := Lib.hid hkv
  clear hkv
  by_cases hk0 : kv = 0
  · subst hk0
    have Hd := Lib.hid (HU.out rfl)
    clear HO HQ HG HU
    have c2 : ∀ i, w2.cell? ⟨w.heap.size + 1, i, none⟩ = (#[.int .u8 0, .int .u8 0, .string ⟨#[]⟩, .string ⟨#[]⟩, .string ⟨#[]⟩, .slice none 0 0, .slice none 0 0, .slice none 0 0, .slice none 0 0, .int .i64 0] : Array Value)[i]? := H2.out.r.cell
    have f2 := H2.out.r.frozen
    go_wp2_with fail
    obtain ⟨hbf, hl', hB⟩ := H2.out.done (FoL.zero (fun _ => False) w2 0) (fun _ e => e.elim)
    have HH := Lib.hid (And.intro hl' hB)
    clear hl' hB c2 f2
    unfold setTen foCells foZero foNil at hbf
    unfold setTen at HH
    dsimp only [List.length_nil] at hbf
    have hcf := hbf.cell
    clear hbf
    refine bodyPost_ret (v := .tuple #[.agg #[.int .u8 0, .int .u8 0, .string ⟨#[]⟩, .string ⟨#[]⟩, .string ⟨#[]⟩, .slice none 0 0, .slice none 0 0, .slice none 0 0, .slice none 0 0, .int .i64 0], .int .i64 4]) (by simp [results, Tryz.results33, go_sem, hcf]) rfl ?_
    unfold DecR
    rw [Hd.out]
    exact ⟨foNil, rfl, HH.out.1, HH.out.2⟩
  by_cases hk2 : kv = 2
  · subst hk2
    have Hd := Lib.hid (HO.out rfl)
    clear HO HQ HG HU
    have c2 : ∀ i, w2.cell? ⟨w.heap.size + 1, i, none⟩ = (#[.int .u8 0, .int .u8 0, .string ⟨#[]⟩, .string ⟨#[]⟩, .string ⟨#[]⟩, .slice none 0 0, .slice none 0 0, .slice none 0 0, .slice none 0 0, .int .i64 0] : Array Value)[i]? := H2.out.r.cell
    have f2 := H2.out.r.frozen
    go_wp2_with fail
    obtain ⟨hbf, hl', hB⟩ := H2.out.done (FoL.zero (fun _ => False) w2 0) (fun _ e => e.elim)
    have HH := Lib.hid (And.intro hl' hB)
    clear hl' hB c2 f2
    unfold setTen foCells foZero foNil at hbf
    unfold setTen at HH
    dsimp only [List.length_nil] at hbf
    have hcf := hbf.cell
    clear hbf
    refine bodyPost_ret (v := .tuple #[.agg #[.int .u8 0, .int .u8 0, .string ⟨#[]⟩, .string ⟨#[]⟩, .string ⟨#[]⟩, .slice none 0 0, .slice none 0 0, .slice none 0 0, .slice none 0 0, .int .i64 0], .int .i64 9]) (by simp [results, Tryz.results33, go_sem, hcf]) rfl ?_
    unfold DecR
    rw [Hd.out]
    exact ⟨foNil, rfl, HH.out.1, HH.out.2⟩
  have hk1 : kv = 1 := by
    rw [← Hkv.out] at hk0 hk2 ⊢
    unfold knownV at hk0 hk2 ⊢
    split at hk0
    · rename_i h; rw [if_pos h]
    · rename_i h; rw [if_neg h] at hk2; split at hk0
      · rename_i h'; rw [if_pos h'] at hk2; exact absurd rfl hk2
      · exact absurd rfl hk0
  subst hk1
  have Hq := Lib.hid (fun L' f b => HQ.out L' f b rfl)
  have Hg := Lib.hid (fun f => HG.out f rfl)
  clear HO HQ HG HU hk0 hk2
  have c2 := H2.out.m.cell
  have HN := Lib.hid (refSNew_any p l cap w2 (by omega) Hb2.out)
  go_upto_region 7 with (go_at_call 55; refine HN.out.mono ?_; rintro e w3 ⟨sb, g, rfl, hs, hsb, hg, hT⟩; have H3 := Lib.hid (H2.out.step hT (fun _ e => e.elim)); have Hs3 := Lib.hid hs; have hz3 := hT.size; clear hs hT HN c2)
  have hw2 := H2.out.r.lt
  have hsl := Hs3.out.lt
  have H4 := Lib.hid H3.out
  have Hs4 := Lib.hid Hs3.out
  clear H3 Hs3 H2 Hb2
  generalize w3 = w4 at *
  have c4 := H4.out.m.cell
  have HM := Lib.hid (frmsg_any sb g l false w4 Hs4.out hl k)
  unfold frmsgR foArg foCells at HM
  go_upto_region 8 with (go_at_call 60; refine HM.out.mono ?_; rintro e w5 ⟨f, a, L', b', rfl, hfl, hs, hq, hT⟩; have H5 := Lib.hid (H4.out.step hT (fun j e => by omega)); have Hs5 := Lib.hid hs; have Hfl5 := Lib.hid hfl; have HQ := Lib.hid hq; have hz5 := hT.size; clear hs hT hfl hq HM c4 H4 Hs4)
  obtain ⟨fk, fw, fn, fp, ft, fo, ff, fr, fc, fm⟩ := f
  obtain ⟨apo, aco, apf, acf, apr, acr, app, acp⟩ := a
  dsimp only
  have hw5 := H5.out.r.lt
  have hal : Below w5.heap.size w5 (w5.alloc (.cells #[.int .u8 fk, .int .u8 fw, .string fn, .string fp, .string ft, .slice apo fo.length aco, .slice apf ff.length acf, .slice apr fr.length acr, .slice app fc.length acp, .int .i64 fm] 46)) := (Below.refl _ _).alloc (Nat.le_refl _) _
  have H6 := Lib.hid (H5.out.bstep hal)
  have Hs6 := Lib.hid (Hs5.out.touch (Touch.of_below (p := fun _ => False) hal) (fun e => e) (fun _ e => e))
  have Hf6 : Hid (Blk (w5.alloc (.cells #[.int .u8 fk, .int .u8 fw, .string fn, .string fp, .string ft, .slice apo fo.length aco, .slice apf ff.length acf, .slice apr fr.length acr, .slice app fc.length acp, .int .i64 fm] 46)) w5.heap.size 46 #[.int .u8 fk, .int .u8 fw, .string fn, .string fp, .string ft, .slice apo fo.length aco, .slice apf ff.length acf, .slice apr fr.length acr, .slice app fc.length acp, .int .i64 fm]) := Lib.hid (Blk.new _ _ _)
  have Hfl6 := Lib.hid (Hfl5.out.below hal)
  have hz6 : w5.heap.size < (w5.alloc (.cells #[.int .u8 fk, .int .u8 fw, .string fn, .string fp, .string ft, .slice apo fo.length aco, .slice apf ff.length acf, .slice apr fr.length acr, .slice app fc.length acp, .int .i64 fm] 46)).heap.size := by simp
  clear hal H5 Hs5 Hfl5
  generalize w5.alloc (.cells #[.int .u8 fk, .int .u8 fw, .string fn, .string fp, .string ft, .slice apo fo.length aco, .slice apf ff.length acf, .slice apr fr.length acr, .slice app fc.length acp, .int .i64 fm] 46) = w6 at *
  generalize w5.heap.size = gf at *
  have f6 := Hf6.out.cell
  have HD := Lib.hid (refSDone_any sb g L' b' w6 Hs6.out)
  generalize hem : (!b' && L'.isEmpty) = em at *
  cases em with
  | false =>
    have Hd := Lib.hid (Hq.out _ _ _ HQ.out hem)
    have c2 : ∀ i, w6.cell? ⟨w.heap.size + 1, i, none⟩ = (#[.int .u8 0, .int .u8 0, .string ⟨#[]⟩, .string ⟨#[]⟩, .string ⟨#[]⟩, .slice none 0 0, .slice none 0 0, .slice none 0 0, .slice none 0 0, .int .i64 0] : Array Value)[i]? := H6.out.r.cell
    have f2 := H6.out.r.frozen
    clear hem
    go_wp2_with (go_at_call 58; refine HD.out.mono ?_; rintro e w7 ⟨rfl, rfl⟩)
    obtain ⟨hbf, hl', hB⟩ := H6.out.done (FoL.zero (fun _ => False) _ 0) (fun _ e => e.elim)
    have HH := Lib.hid (And.intro hl' hB)
    clear hl' hB c2 f2
    unfold setTen foCells foZero foNil at hbf
    unfold setTen at HH
    dsimp only [List.length_nil] at hbf
    have hcf := hbf.cell
    clear hbf
    refine bodyPost_ret (v := .tuple #[.agg #[.int .u8 0, .int .u8 0, .string ⟨#[]⟩, .string ⟨#[]⟩, .string ⟨#[]⟩, .slice none 0 0, .slice none 0 0, .slice none 0 0, .slice none 0 0, .int .i64 0], .int .i64 4]) (by simp [results, Tryz.results33, go_sem, hcf]) rfl ?_
    unfold DecR
    rw [Hd.out]
    exact ⟨foNil, rfl, HH.out.1, HH.out.2⟩
  | true =>
    have hb' : b' = false := by cases b' <;> simp at hem ⊢
    subst hb'
    have hL' : L' = [] := by cases L' <;> simp at hem ⊢
    subst hL'
    clear hem
    have hrd := (HQ.out.1 rfl).2
    have hsm := readP_small hrd
    have hfk : fk = k := hsm.kind
    have hfb : FoB ⟨fk, fw, fn, fp, ft, fo, ff, fr, fc, fm⟩ := ⟨by rw [← hfk] at h0; exact h0, by rw [← hfk] at h1; exact h1, hsm.what.1, hsm.what.2⟩
    have HC := Lib.hid (rcheck_any _ ⟨fk, fw, fn, fp, ft, fo, ff, fr, fc, fm⟩ ⟨apo, aco, apf, acf, apr, acr, app, acp⟩ w6 Hfl6.out hfb (by have := hsm.name; dsimp only at this ⊢; simp [maxLen]; omega) (by have := hsm.portal; dsimp only at this ⊢; simp [maxLen]; omega) (by have := hsm.text; dsimp only at this ⊢; simp [maxLen]; omega))
    have Hd := Lib.hid (Hg.out _ HQ.out)
    clear hrd hsm hfk hfb HQ Hq Hg
    unfold foArg foCells at HC
    dsimp only at HC
    generalize hcv : checkF ⟨fk, fw, fn, fp, ft, fo, ff, fr, fc, fm⟩ = cv at *
    clear hcv
    by_cases hc0 : cv = 0
    · subst hc0
      have Hd' : Hid (decF k l = (⟨fk, fw, fn, fp, ft, fo, ff, fr, fc, fm⟩, 0)) := Lib.hid (by rw [Hd.out, if_pos rfl])
      clear Hd
      go_upto_region 10 with (first | (go_at_call 58; refine HD.out.mono ?_; rintro e w7 ⟨rfl, rfl⟩) | (go_at_call 61; refine HC.out.mono ?_; rintro e w7 ⟨rfl, hb⟩))
      have H7 := Lib.hid (H6.out.bstep hb)
      have Hf7 := Lib.hid (Hf6.out.below hb Hf6.out.lt)
      have Hfl7 := Lib.hid (Hfl6.out.below hb)
      clear hb f6 H6 Hs6 Hfl6 Hf6 HD HC
      have c2 : ∀ i, w7.cell? ⟨w.heap.size + 1, i, none⟩ = (#[.int .u8 0, .int .u8 0, .string ⟨#[]⟩, .string ⟨#[]⟩, .string ⟨#[]⟩, .slice none 0 0, .slice none 0 0, .slice none 0 0, .slice none 0 0, .int .i64 0] : Array Value)[i]? := H7.out.r.cell
      have f2 := H7.out.r.frozen
      have f7 := Hf7.out.cell
      go_wp2_with fail
      obtain ⟨hbf, hl', hB⟩ := H7.out.done Hfl7.out (fun j hj => ⟨by omega, by omega⟩)
      have HH := Lib.hid (And.intro hl' hB)
      clear hl' hB c2 f2 f7
      unfold setTen foCells at hbf
      unfold setTen at HH
      dsimp only at hbf HH
      have hcf := hbf.cell
      clear hbf
      refine bodyPost_ret (v := .tuple #[.agg #[.int .u8 fk, .int .u8 fw, .string fn, .string fp, .string ft, .slice apo fo.length aco, .slice apf ff.length acf, .slice apr fr.length acr, .slice app fc.length acp, .int .i64 fm], .int .i64 0]) (by simp [results, Tryz.results33, go_sem, hcf]) rfl ?_
      unfold DecR
      rw [Hd'.out]
      exact ⟨⟨apo, aco, apf, acf, apr, acr, app, acp⟩, rfl, HH.out.1, HH.out.2⟩
    · have Hd' : Hid (decF k l = (foZero 0, 4)) := Lib.hid (by rw [Hd.out, if_neg hc0])
      clear Hd
      have hci : (cv != 0) = true := by simpa using hc0
      go_upto_region 9 with (first | (go_at_call 58; refine HD.out.mono ?_; rintro e w7 ⟨rfl, rfl⟩) | (go_at_call 61; refine HC.out.mono ?_; rintro e w7 ⟨rfl, hb⟩))
      have H7 := Lib.hid (H6.out.bstep hb)
      clear hb f6 H6 Hs6 Hfl6 Hf6 HD HC
      have Hd := Hd'
      clear Hd'
      have c2 : ∀ i, w7.cell? ⟨w.heap.size + 1, i, none⟩ = (#[.int .u8 0, .int .u8 0, .string ⟨#[]⟩, .string ⟨#[]⟩, .string ⟨#[]⟩, .slice none 0 0, .slice none 0 0, .slice none 0 0, .slice none 0 0, .int .i64 0] : Array Value)[i]? := H7.out.r.cell
      have f2 := H7.out.r.frozen
      go_wp2_with fail
      obtain ⟨hbf, hl', hB⟩ := H7.out.done (FoL.zero (fun _ => False) _ 0) (fun _ e => e.elim)
      have HH := Lib.hid (And.intro hl' hB)
      clear hl' hB c2 f2
      unfold setTen foCells foZero foNil at hbf
      unfold setTen at HH
      dsimp only [List.length_nil] at hbf
      have hcf := hbf.cell
      clear hbf
      refine bodyPost_ret (v := .tuple #[.agg #[.int .u8 0, .int .u8 0, .string ⟨#[]⟩, .string ⟨#[]⟩, .string ⟨#[]⟩, .slice none 0 0, .slice none 0 0, .slice none 0 0, .slice none 0 0, .int .i64 0], .int .i64 4]) (by simp [results, Tryz.results33, go_sem, hcf]) rfl ?_
      unfold DecR
      rw [Hd.out]
      exact ⟨foNil, rfl, HH.out.1, HH.out.2⟩

end Go.Proofs.YtacnmdlefonjmaaGreat

