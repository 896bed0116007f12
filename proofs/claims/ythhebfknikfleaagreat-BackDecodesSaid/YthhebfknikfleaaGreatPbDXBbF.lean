/-
  Messages of servers (layer 7): as many things as are told: values, columns, numbers: the program's.
-/
import Derived.Test.YthhebfknikfleaaGreatPbDP18
namespace Go.Proofs.YthhebfknikfleaaGreat
open Go.RowKit
set_option linter.unusedVariables false
set_option linter.unusedSimpArgs false

/-- The number that is read by a closure. -/
theorem rdInt_any (sb g : Nat) (L : List UInt8) (bad : Bool) (rb : Nat) (w : World) (h : ScanO w sb g L bad) (hb : Blk w rb 124 #[.pointer (some ⟨sb, 0, none⟩)]) :
    Calls Tryz.prog 117 #[.pointer (some ⟨rb, 0, none⟩)] w fun e w' => ∃ x L' b', e = .returned (.int .i64 x) ∧ ScanO w' sb g L' b' ∧ StepO L bad (numP 4) x L' b' ∧ Touch (fun i => i = sb) w w' := by
  have hc := hb.cell
  obtain ⟨t1, L1, b1, hq, ht, hc1⟩ := bsNum_o h 4 4 (by decide)
  have HQ := Lib.hid hq
  have HC := Lib.hid hc1
  clear hq ht hc1 hb h
  go_enter Tryz.func117, Tryz.ntmps117
  go_wp2_with fail
  refine HC.out.mono ?_
  rintro e w2 ⟨rfl, hs, hT⟩
  have HH := Lib.hid (And.intro hs hT)
  clear hs hT
  go_wp2_with fail
  go_ret
  exact ⟨t1, L1, b1, rfl, HH.out.1, HQ.out, HH.out.2⟩

/-- What is read: as many as are told. -/
def manyCeR (sb g : Nat) (L : List UInt8) (bad : Bool) (w : World) (e : Ending) (w' : World) : Prop :=
  ∃ v xs L' bad', e = .returned v ∧ OwnC w.heap.size w' v xs ∧ xs.length ≤ 65536 ∧ ScanO w' sb g L' bad' ∧ StepO L bad (countP cellP) xs L' bad' ∧ Touch (fun i => i = sb) w w'

set_option maxRecDepth 100000 in
set_option maxHeartbeats 4000000 in
theorem manyCe_any (sb g : Nat) (L : List UInt8) (bad : Bool) (w : World) (h : ScanO w sb g L bad) (hL : L.length ≤ 100000) :
    Calls Tryz.prog 112 #[.agg #[.pointer (some ⟨sb, 0, none⟩)], .func (.func 113) #[.agg #[.pointer (some ⟨sb, 0, none⟩)]] #[]] w (manyCeR sb g L bad w) := by
  have hsb := h.lt
  have Hg := Lib.hid (fun e : L ≠ [] => h.ltg e)
  have hal : Below w.heap.size w (w.alloc (.cells #[.pointer (some ⟨sb, 0, none⟩)] 124)) := (Below.refl _ _).alloc (Nat.le_refl _) _
  have HA := Lib.hid hal
  have H0 := Lib.hid (h.touch (Touch.of_below (p := fun _ => False) hal) (fun e => e) (fun _ e => e))
  have Hk := Lib.hid (Blk.new w 124 #[.pointer (some ⟨sb, 0, none⟩)])
  have hz1 : w.heap.size ≤ (w.alloc (.cells #[.pointer (some ⟨sb, 0, none⟩)] 124)).heap.size := by simp
  have hk1 := Hk.out.lt
  clear h hal
  go_enter Tryz.func112, Tryz.ntmps112
  go_upto_region 1 with (fail)
  generalize w.alloc (.cells #[.pointer (some ⟨sb, 0, none⟩)] 124) = w1 at *
  have hc1 := Hk.out.cell
  obtain ⟨nx1, L1, b1, hq, ht, hc⟩ := bsNum_o H0.out 2 2 (by decide)
  obtain ⟨nn, hnn, hnb⟩ := num16 L bad
  have hnx : nx1 = (nn : Int) := by rw [ht]; exact hnn
  have HQ := Lib.hid hq
  have hL1 := hq.2.2
  have HNE := Lib.hid (fun e => hq.neB e)
  have HC := Lib.hid hc
  rw [hnx] at HC HQ
  clear hq hc ht hnn hnx
  go_wp2_with fail
  refine HC.out.mono ?_
  rintro e w2 ⟨rfl, hs2, hT2⟩
  have hz2 := hT2.size
  have HS2 := Lib.hid hs2
  have HT2 := Lib.hid hT2
  have Hk2 := Lib.hid (hT2.blk Hk.out (by omega))
  clear hs2 hT2 hc1 HC
  go_wp2_with fail
  go_loopw [5, 6] (fun v i wr => ∃ (m : Nat) (T : List UInt8) (b : Bool) (xs : List CeV), xs.length + m = nn ∧ i = .int .i64 (m : Int) ∧ MnI cellP (manyP cellP nn L1) b1 m T b xs ∧ (T ≠ [] → L ≠ []) ∧ T.length ≤ L1.length ∧ OwnC w1.heap.size wr v xs ∧ ScanO wr sb g T b ∧ Touch (fun i => i = sb) w1 wr ∧ Blk wr w.heap.size 124 #[.pointer (some ⟨sb, 0, none⟩)]) (fun _ i _ => (intOf i).toNat)
  case atStart => exact ⟨nn, L1, b1, [], by simp, rfl, MnI.start nn, HNE.out, Nat.le_refl _, OwnS.empty _, HS2.out, HT2.out, Hk2.out⟩
  case round =>
    obtain ⟨m, T, b, xs, hm6, rfl, hI, hTL, hTl, ho, hs, hT, hk⟩ := hrel
    have hzr := hT.size
    have HI := Lib.hid hI
    have HTL := Lib.hid hTL
    have Ho := Lib.hid ho
    have HS := Lib.hid hs
    have HT := Lib.hid hT
    have Hrow := Lib.hid ho.row
    have Hfin := Lib.hid (fun hm : m = 0 ∨ b = true => MnI.fin HQ.out rfl hI hm hTl)
    have Hkr := Lib.hid hk
    have hcr := hk.cell
    clear hI hTL ho hs hT hk
    cases m with
    | zero =>
      have Hst := Lib.hid (Hfin.out (.inl rfl))
      go_wp2_with fail
      go_ret
      exact ⟨_, xs, T, b, rfl, ((Ho.out.base hz1).touch (S' := fun k => w.heap.size ≤ k) CeS.still (Touch.refl (fun _ => False) _) (fun _ _ e => e) (fun k _ hk _ => ⟨by have hk' : w1.heap.size ≤ k := hk; omega, fun e => e⟩)), by omega, HS.out, Hst.out, (Touch.of_below (p := fun i => i = sb) HA.out).trans HT.out⟩
    | succ m =>
      obtain ⟨mi, hmi⟩ : ∃ mi : Int, ((m + 1 : Nat) : Int) = mi := ⟨_, rfl⟩
      rw [hmi]
      have hpos : 0 < mi := by omega
      have hwm : IntKind.i64.wrap (mi - 1) = (m : Int) := by rw [IntKind.wrap_i64]; omega
      have Hmi := Lib.hid hmi
      clear hmi
      have HBd := Lib.hid (scanBad_any sb g T b wr HS.out)
      cases b with
      | true =>
        have Hst := Lib.hid (Hfin.out (.inr rfl))
        go_wp2_with fail
        refine HBd.out.mono ?_
        rintro e w3 ⟨rfl, rfl⟩
        go_wp2_with fail
        go_ret
        exact ⟨_, xs, T, true, rfl, ((Ho.out.base hz1).touch (S' := fun k => w.heap.size ≤ k) CeS.still (Touch.refl (fun _ => False) _) (fun _ _ e => e) (fun k _ hk _ => ⟨by have hk' : w1.heap.size ≤ k := hk; omega, fun e => e⟩)), by omega, HS.out, Hst.out, (Touch.of_below (p := fun i => i = sb) HA.out).trans HT.out⟩
      | false =>
        clear Hfin
        have HOne := Lib.hid (rdCell_any sb g T false wr HS.out (by omega))
        go_wp2_with fail
        refine HBd.out.mono ?_
        rintro e w3 ⟨rfl, rfl⟩
        go_wp2_with fail
        refine HOne.out.mono ?_
        rintro e w4 ⟨⟨x4, y4⟩, p4, c4, L4, b4, rfl, hby4, hs4, hq4, hT4⟩
        have hz4 := hT4.size
        have HO4 := Lib.hid (Ho.out.touch (S' := fun k => w1.heap.size ≤ k) CeS.still hT4 (fun k hk => by have := (Hrow.out k hk).1; omega) (fun k _ hk _ => ⟨hk, fun e => by have hk' : w1.heap.size ≤ k := hk; omega⟩))
        have HT4 := Lib.hid (HT.out.trans hT4)
        have hxr : xs.length + 1 ≤ 1000000 := by omega
        have HS4 := Lib.hid hs4
        have HI4 := Lib.hid (HI.out.step hq4)
        have HTL4 : Hid (L4 ≠ [] → L ≠ []) := Lib.hid (fun e => HTL.out (hq4.neB e))
        have hTl4 : L4.length ≤ L1.length := Nat.le_trans hq4.2.2 hTl
        have Hk4 := Lib.hid (hT4.blk Hkr.out (by omega))
        have hal : Below w4.heap.size w4 (w4.alloc (.cells #[.bool x4, .slice p4 y4.length c4] 83)) := (Below.refl _ _).alloc (Nat.le_refl _) _
        have Ho5 := Lib.hid (HO4.out.below' CeS.still hal)
        have Hnw := Lib.hid (SliceS.new1 (S := fun k => w1.heap.size ≤ k ∧ rowOf u5 ≠ some k) (S' := fun k => w1.heap.size ≤ k ∧ rowOf u5 ≠ some k) CeS.still w4 83 #[.bool x4, .slice p4 y4.length c4] ⟨x4, y4⟩ ⟨p4, c4, rfl, BytesS.still _ _ _ _ _ _ hby4 (Kept.mono w4 (fun k _ hk => (⟨by have hk' : wr.heap.size ≤ k := hk; omega, fun e => by have hk' : wr.heap.size ≤ k := hk; have := (Hrow.out _ e).2; omega⟩ : w1.heap.size ≤ k ∧ rowOf u5 ≠ some k)))⟩ rfl (fun k _ h => h) ⟨by omega, fun e => by have := (Hrow.out _ e).2; omega⟩)
        have HAl := Lib.hid hal
        have hwz : w1.heap.size ≤ (w4.alloc (.cells #[.bool x4, .slice p4 y4.length c4] 83)).heap.size := by rw [World.size_alloc]; omega
        clear hal hs4 hT4 hq4 hcr hby4
        generalize y4.length = ny4 at *
        go_wp2_with (at_builtin; refine step_appendC _ rfl (.tmp 20) (.tmp 23) rfl w1.heap.size u5 xs rfl Ho5.out (some ⟨w4.heap.size, 0, none⟩) 1 1 [⟨x4, y4⟩] rfl Hnw.out (by simpa using hxr) hwz ?_; intro v5 w5 ho5 hg5 hn5; have Ho6 := Lib.hid ho5; have HT6 := Lib.hid ((HT4.out.trans (Touch.of_below HAl.out)).then (Touch.of_row hg5) (fun i hi e => by have := (Hrow.out i e.symm).1; omega)); have HS6 := Lib.hid ((HS4.out.touch (Touch.of_below (p := fun _ => False) HAl.out) (fun e => e) (fun _ e => e)).touch (Touch.of_row hg5) (fun e => by have := (Hrow.out _ e.symm).1; omega) (fun hne e => by have := (Hrow.out _ e.symm).1; have := Hg.out (HTL4.out hne); omega)); have Hk6 := Lib.hid ((Hk4.out.alloc _).grown hg5 (fun e => by have := (Hrow.out _ e.symm).1; omega)); clear ho5 hg5 hn5)
        go_roundw
        case rel => exact ⟨m, L4, b4, xs ++ [⟨x4, y4⟩], by simp; omega, by first | rfl | trivial, HI4.out, HTL4.out, hTl4, Ho6.out, HS6.out, HT6.out, Hk6.out⟩
        case measure => have := Hmi.out; simp [intOf]; omega

/-- What is read: as many as are told. -/
def manyCoR (sb g : Nat) (L : List UInt8) (bad : Bool) (w : World) (e : Ending) (w' : World) : Prop :=
  ∃ v xs L' bad', e = .returned v ∧ OwnCo w.heap.size w' v xs ∧ xs.length ≤ 65536 ∧ ScanO w' sb g L' bad' ∧ StepO L bad (countP coRd) xs L' bad' ∧ Touch (fun i => i = sb) w w'

set_option maxRecDepth 100000 in
set_option maxHeartbeats 4000000 in
theorem manyCo_any (sb g : Nat) (L : List UInt8) (bad : Bool) (w : World) (h : ScanO w sb g L bad) (hL : L.length ≤ 100000) :
    Calls Tryz.prog 114 #[.agg #[.pointer (some ⟨sb, 0, none⟩)], .func (.func 115) #[.agg #[.pointer (some ⟨sb, 0, none⟩)]] #[]] w (manyCoR sb g L bad w) := by
  have hsb := h.lt
  have Hg := Lib.hid (fun e : L ≠ [] => h.ltg e)
  have hal : Below w.heap.size w (w.alloc (.cells #[.pointer (some ⟨sb, 0, none⟩)] 124)) := (Below.refl _ _).alloc (Nat.le_refl _) _
  have HA := Lib.hid hal
  have H0 := Lib.hid (h.touch (Touch.of_below (p := fun _ => False) hal) (fun e => e) (fun _ e => e))
  have Hk := Lib.hid (Blk.new w 124 #[.pointer (some ⟨sb, 0, none⟩)])
  have hz1 : w.heap.size ≤ (w.alloc (.cells #[.pointer (some ⟨sb, 0, none⟩)] 124)).heap.size := by simp
  have hk1 := Hk.out.lt
  clear h hal
  go_enter Tryz.func114, Tryz.ntmps114
  go_upto_region 1 with (fail)
  generalize w.alloc (.cells #[.pointer (some ⟨sb, 0, none⟩)] 124) = w1 at *
  have hc1 := Hk.out.cell
  obtain ⟨nx1, L1, b1, hq, ht, hc⟩ := bsNum_o H0.out 2 2 (by decide)
  obtain ⟨nn, hnn, hnb⟩ := num16 L bad
  have hnx : nx1 = (nn : Int) := by rw [ht]; exact hnn
  have HQ := Lib.hid hq
  have hL1 := hq.2.2
  have HNE := Lib.hid (fun e => hq.neB e)
  have HC := Lib.hid hc
  rw [hnx] at HC HQ
  clear hq hc ht hnn hnx
  go_wp2_with fail
  refine HC.out.mono ?_
  rintro e w2 ⟨rfl, hs2, hT2⟩
  have hz2 := hT2.size
  have HS2 := Lib.hid hs2
  have HT2 := Lib.hid hT2
  have Hk2 := Lib.hid (hT2.blk Hk.out (by omega))
  clear hs2 hT2 hc1 HC
  go_wp2_with fail
  go_loopw [5, 6] (fun v i wr => ∃ (m : Nat) (T : List UInt8) (b : Bool) (xs : List CoV), xs.length + m = nn ∧ i = .int .i64 (m : Int) ∧ MnI coRd (manyP coRd nn L1) b1 m T b xs ∧ (T ≠ [] → L ≠ []) ∧ T.length ≤ L1.length ∧ OwnCo w1.heap.size wr v xs ∧ ScanO wr sb g T b ∧ Touch (fun i => i = sb) w1 wr ∧ Blk wr w.heap.size 124 #[.pointer (some ⟨sb, 0, none⟩)]) (fun _ i _ => (intOf i).toNat)
  case atStart => exact ⟨nn, L1, b1, [], by simp, rfl, MnI.start nn, HNE.out, Nat.le_refl _, OwnS.empty _, HS2.out, HT2.out, Hk2.out⟩
  case round =>
    obtain ⟨m, T, b, xs, hm6, rfl, hI, hTL, hTl, ho, hs, hT, hk⟩ := hrel
    have hzr := hT.size
    have HI := Lib.hid hI
    have HTL := Lib.hid hTL
    have Ho := Lib.hid ho
    have HS := Lib.hid hs
    have HT := Lib.hid hT
    have Hrow := Lib.hid ho.row
    have Hfin := Lib.hid (fun hm : m = 0 ∨ b = true => MnI.fin HQ.out rfl hI hm hTl)
    have Hkr := Lib.hid hk
    have hcr := hk.cell
    clear hI hTL ho hs hT hk
    cases m with
    | zero =>
      have Hst := Lib.hid (Hfin.out (.inl rfl))
      go_wp2_with fail
      go_ret
      exact ⟨_, xs, T, b, rfl, ((Ho.out.base hz1).touch (S' := fun k => w.heap.size ≤ k) CoS.still (Touch.refl (fun _ => False) _) (fun _ _ e => e) (fun k _ hk _ => ⟨by have hk' : w1.heap.size ≤ k := hk; omega, fun e => e⟩)), by omega, HS.out, Hst.out, (Touch.of_below (p := fun i => i = sb) HA.out).trans HT.out⟩
    | succ m =>
      obtain ⟨mi, hmi⟩ : ∃ mi : Int, ((m + 1 : Nat) : Int) = mi := ⟨_, rfl⟩
      rw [hmi]
      have hpos : 0 < mi := by omega
      have hwm : IntKind.i64.wrap (mi - 1) = (m : Int) := by rw [IntKind.wrap_i64]; omega
      have Hmi := Lib.hid hmi
      clear hmi
      have HBd := Lib.hid (scanBad_any sb g T b wr HS.out)
      cases b with
      | true =>
        have Hst := Lib.hid (Hfin.out (.inr rfl))
        go_wp2_with fail
        refine HBd.out.mono ?_
        rintro e w3 ⟨rfl, rfl⟩
        go_wp2_with fail
        go_ret
        exact ⟨_, xs, T, true, rfl, ((Ho.out.base hz1).touch (S' := fun k => w.heap.size ≤ k) CoS.still (Touch.refl (fun _ => False) _) (fun _ _ e => e) (fun k _ hk _ => ⟨by have hk' : w1.heap.size ≤ k := hk; omega, fun e => e⟩)), by omega, HS.out, Hst.out, (Touch.of_below (p := fun i => i = sb) HA.out).trans HT.out⟩
      | false =>
        clear Hfin
        have HOne := Lib.hid (rdCol_any sb g T false wr HS.out (by omega))
        go_wp2_with fail
        refine HBd.out.mono ?_
        rintro e w3 ⟨rfl, rfl⟩
        go_wp2_with fail
        refine HOne.out.mono ?_
        rintro e w4 ⟨⟨n4, t4, a4, o4, s4, m4, f4⟩, L4, b4, rfl, hn4, hs4, hq4, hT4⟩
        have hz4 := hT4.size
        have HO4 := Lib.hid (Ho.out.touch (S' := fun k => w1.heap.size ≤ k) CoS.still hT4 (fun k hk => by have := (Hrow.out k hk).1; omega) (fun k _ hk _ => ⟨hk, fun e => by have hk' : w1.heap.size ≤ k := hk; omega⟩))
        have HT4 := Lib.hid (HT.out.trans hT4)
        have hxr : xs.length + 1 ≤ 1000000 := by omega
        have HS4 := Lib.hid hs4
        have HI4 := Lib.hid (HI.out.step hq4)
        have HTL4 : Hid (L4 ≠ [] → L ≠ []) := Lib.hid (fun e => HTL.out (hq4.neB e))
        have hTl4 : L4.length ≤ L1.length := Nat.le_trans hq4.2.2 hTl
        have Hk4 := Lib.hid (hT4.blk Hkr.out (by omega))
        have hal : Below w4.heap.size w4 (w4.alloc (.cells #[.string n4, .int .i64 t4, .int .i64 a4, .int .i64 o4, .int .i64 s4, .int .i64 m4, .int .i64 f4] 79)) := (Below.refl _ _).alloc (Nat.le_refl _) _
        have Ho5 := Lib.hid (HO4.out.below' CoS.still hal)
        have Hnw := Lib.hid (SliceS.new1 (S := fun k => w1.heap.size ≤ k ∧ rowOf u5 ≠ some k) (S' := fun k => w1.heap.size ≤ k ∧ rowOf u5 ≠ some k) CoS.still w4 79 #[.string n4, .int .i64 t4, .int .i64 a4, .int .i64 o4, .int .i64 s4, .int .i64 m4, .int .i64 f4] ⟨n4, t4, a4, o4, s4, m4, f4⟩ ⟨rfl, (by have h : n4.size ≤ T.length := hn4; show n4.size ≤ maxLen; unfold maxLen; omega)⟩ rfl (fun k _ h => h) ⟨by omega, fun e => by have := (Hrow.out _ e).2; omega⟩)
        have HAl := Lib.hid hal
        have hwz : w1.heap.size ≤ (w4.alloc (.cells #[.string n4, .int .i64 t4, .int .i64 a4, .int .i64 o4, .int .i64 s4, .int .i64 m4, .int .i64 f4] 79)).heap.size := by rw [World.size_alloc]; omega
        clear hal hs4 hT4 hq4 hcr hn4
        go_wp2_with (at_builtin; refine step_appendCo _ rfl (.tmp 20) (.tmp 23) rfl w1.heap.size u5 xs rfl Ho5.out (some ⟨w4.heap.size, 0, none⟩) 1 1 [⟨n4, t4, a4, o4, s4, m4, f4⟩] rfl Hnw.out (by simpa using hxr) hwz ?_; intro v5 w5 ho5 hg5 hn5; have Ho6 := Lib.hid ho5; have HT6 := Lib.hid ((HT4.out.trans (Touch.of_below HAl.out)).then (Touch.of_row hg5) (fun i hi e => by have := (Hrow.out i e.symm).1; omega)); have HS6 := Lib.hid ((HS4.out.touch (Touch.of_below (p := fun _ => False) HAl.out) (fun e => e) (fun _ e => e)).touch (Touch.of_row hg5) (fun e => by have := (Hrow.out _ e.symm).1; omega) (fun hne e => by have := (Hrow.out _ e.symm).1; have := Hg.out (HTL4.out hne); omega)); have Hk6 := Lib.hid ((Hk4.out.alloc _).grown hg5 (fun e => by have := (Hrow.out _ e.symm).1; omega)); clear ho5 hg5 hn5)
        go_roundw
        case rel => exact ⟨m, L4, b4, xs ++ [⟨n4, t4, a4, o4, s4, m4, f4⟩], by simp; omega, by first | rfl | trivial, HI4.out, HTL4.out, hTl4, Ho6.out, HS6.out, HT6.out, Hk6.out⟩
        case measure => have := Hmi.out; simp [intOf]; omega

/-- What is read: as many as are told. -/
def manyInR (sb g : Nat) (L : List UInt8) (bad : Bool) (w : World) (e : Ending) (w' : World) : Prop :=
  ∃ v xs L' bad', e = .returned v ∧ OwnI w.heap.size w' v xs ∧ xs.length ≤ 65536 ∧ ScanO w' sb g L' bad' ∧ StepO L bad (countP (numP 4)) xs L' bad' ∧ Touch (fun i => i = sb) w w'

set_option maxRecDepth 100000 in
set_option maxHeartbeats 4000000 in
theorem manyIn_any (sb g : Nat) (L : List UInt8) (bad : Bool) (rb : Nat) (w : World) (h : ScanO w sb g L bad) (hL : L.length ≤ 100000) (hb : Blk w rb 124 #[.pointer (some ⟨sb, 0, none⟩)]) (hrs : rb ≠ sb) :
    Calls Tryz.prog 116 #[.agg #[.pointer (some ⟨sb, 0, none⟩)], .func (.func 117) #[] #[.pointer (some ⟨rb, 0, none⟩)]] w (manyInR sb g L bad w) := by
  have hsb := h.lt
  have Hg := Lib.hid (fun e : L ≠ [] => h.ltg e)
  have hal : Below w.heap.size w (w.alloc (.cells #[.pointer (some ⟨sb, 0, none⟩)] 124)) := (Below.refl _ _).alloc (Nat.le_refl _) _
  have HA := Lib.hid hal
  have H0 := Lib.hid (h.touch (Touch.of_below (p := fun _ => False) hal) (fun e => e) (fun _ e => e))
  have Hk := Lib.hid (Blk.new w 124 #[.pointer (some ⟨sb, 0, none⟩)])
  have hrb := hb.lt
  have Hb1 := Lib.hid (hb.alloc (.cells #[.pointer (some ⟨sb, 0, none⟩)] 124))
  clear hb
  have hz1 : w.heap.size ≤ (w.alloc (.cells #[.pointer (some ⟨sb, 0, none⟩)] 124)).heap.size := by simp
  have hk1 := Hk.out.lt
  clear h hal
  go_enter Tryz.func116, Tryz.ntmps116
  go_upto_region 1 with (fail)
  generalize w.alloc (.cells #[.pointer (some ⟨sb, 0, none⟩)] 124) = w1 at *
  have hc1 := Hk.out.cell
  obtain ⟨nx1, L1, b1, hq, ht, hc⟩ := bsNum_o H0.out 2 2 (by decide)
  obtain ⟨nn, hnn, hnb⟩ := num16 L bad
  have hnx : nx1 = (nn : Int) := by rw [ht]; exact hnn
  have HQ := Lib.hid hq
  have hL1 := hq.2.2
  have HNE := Lib.hid (fun e => hq.neB e)
  have HC := Lib.hid hc
  rw [hnx] at HC HQ
  clear hq hc ht hnn hnx
  go_wp2_with fail
  refine HC.out.mono ?_
  rintro e w2 ⟨rfl, hs2, hT2⟩
  have hz2 := hT2.size
  have HS2 := Lib.hid hs2
  have HT2 := Lib.hid hT2
  have Hk2 := Lib.hid (hT2.blk Hk.out (by omega))
  have Hb2 := Lib.hid (hT2.blk Hb1.out (by omega))
  clear hs2 hT2 hc1 HC
  go_wp2_with fail
  go_loopw [5, 6] (fun v i wr => ∃ (m : Nat) (T : List UInt8) (b : Bool) (xs : List Int), xs.length + m = nn ∧ i = .int .i64 (m : Int) ∧ MnI (numP 4) (manyP (numP 4) nn L1) b1 m T b xs ∧ (T ≠ [] → L ≠ []) ∧ T.length ≤ L1.length ∧ OwnI w1.heap.size wr v xs ∧ ScanO wr sb g T b ∧ Touch (fun i => i = sb) w1 wr ∧ Blk wr w.heap.size 124 #[.pointer (some ⟨sb, 0, none⟩)] ∧ Blk wr rb 124 #[.pointer (some ⟨sb, 0, none⟩)]) (fun _ i _ => (intOf i).toNat)
  case atStart => exact ⟨nn, L1, b1, [], by simp, rfl, MnI.start nn, HNE.out, Nat.le_refl _, OwnS.empty _, HS2.out, HT2.out, Hk2.out, Hb2.out⟩
  case round =>
    obtain ⟨m, T, b, xs, hm6, rfl, hI, hTL, hTl, ho, hs, hT, hk, hbr⟩ := hrel
    have hzr := hT.size
    have HI := Lib.hid hI
    have HTL := Lib.hid hTL
    have Ho := Lib.hid ho
    have HS := Lib.hid hs
    have HT := Lib.hid hT
    have Hrow := Lib.hid ho.row
    have Hfin := Lib.hid (fun hm : m = 0 ∨ b = true => MnI.fin HQ.out rfl hI hm hTl)
    have Hkr := Lib.hid hk
    have hcr := hk.cell
    have Hbr := Lib.hid hbr
    clear hI hTL ho hs hT hk hbr
    cases m with
    | zero =>
      have Hst := Lib.hid (Hfin.out (.inl rfl))
      go_wp2_with fail
      go_ret
      exact ⟨_, xs, T, b, rfl, ((Ho.out.base hz1).touch (S' := fun k => w.heap.size ≤ k) IntU.still (Touch.refl (fun _ => False) _) (fun _ _ e => e) (fun k _ hk _ => ⟨by have hk' : w1.heap.size ≤ k := hk; omega, fun e => e⟩)), by omega, HS.out, Hst.out, (Touch.of_below (p := fun i => i = sb) HA.out).trans HT.out⟩
    | succ m =>
      obtain ⟨mi, hmi⟩ : ∃ mi : Int, ((m + 1 : Nat) : Int) = mi := ⟨_, rfl⟩
      rw [hmi]
      have hpos : 0 < mi := by omega
      have hwm : IntKind.i64.wrap (mi - 1) = (m : Int) := by rw [IntKind.wrap_i64]; omega
      have Hmi := Lib.hid hmi
      clear hmi
      have HBd := Lib.hid (scanBad_any sb g T b wr HS.out)
      cases b with
      | true =>
        have Hst := Lib.hid (Hfin.out (.inr rfl))
        go_wp2_with fail
        refine HBd.out.mono ?_
        rintro e w3 ⟨rfl, rfl⟩
        go_wp2_with fail
        go_ret
        exact ⟨_, xs, T, true, rfl, ((Ho.out.base hz1).touch (S' := fun k => w.heap.size ≤ k) IntU.still (Touch.refl (fun _ => False) _) (fun _ _ e => e) (fun k _ hk _ => ⟨by have hk' : w1.heap.size ≤ k := hk; omega, fun e => e⟩)), by omega, HS.out, Hst.out, (Touch.of_below (p := fun i => i = sb) HA.out).trans HT.out⟩
      | false =>
        clear Hfin
        have HOne := Lib.hid (rdInt_any sb g T false rb wr HS.out Hbr.out)
        go_wp2_with fail
        refine HBd.out.mono ?_
        rintro e w3 ⟨rfl, rfl⟩
        go_wp2_with fail
        refine HOne.out.mono ?_
        rintro e w4 ⟨x4, L4, b4, rfl, hs4, hq4, hT4⟩
        have hz4 := hT4.size
        have HO4 := Lib.hid (Ho.out.touch (S' := fun k => w1.heap.size ≤ k) IntU.still hT4 (fun k hk => by have := (Hrow.out k hk).1; omega) (fun k _ hk _ => ⟨hk, fun e => by have hk' : w1.heap.size ≤ k := hk; omega⟩))
        have HT4 := Lib.hid (HT.out.trans hT4)
        have hxr : xs.length + 1 ≤ 1000000 := by omega
        have HS4 := Lib.hid hs4
        have HI4 := Lib.hid (HI.out.step hq4)
        have HTL4 : Hid (L4 ≠ [] → L ≠ []) := Lib.hid (fun e => HTL.out (hq4.neB e))
        have hTl4 : L4.length ≤ L1.length := Nat.le_trans hq4.2.2 hTl
        have Hk4 := Lib.hid (hT4.blk Hkr.out (by omega))
        have Hb4 := Lib.hid (hT4.blk Hbr.out (by omega))
        have hal : Below w4.heap.size w4 (w4.alloc (.cells #[.int .i64 x4] 3)) := (Below.refl _ _).alloc (Nat.le_refl _) _
        have Ho5 := Lib.hid (HO4.out.below' IntU.still hal)
        have Hnw := Lib.hid (SliceS.new1 (S := fun k => w1.heap.size ≤ k ∧ rowOf u5 ≠ some k) (S' := fun k => w1.heap.size ≤ k ∧ rowOf u5 ≠ some k) IntU.still w4 3 #[.int .i64 x4] x4 rfl rfl (fun k _ h => h) ⟨by omega, fun e => by have := (Hrow.out _ e).2; omega⟩)
        have HAl := Lib.hid hal
        have hwz : w1.heap.size ≤ (w4.alloc (.cells #[.int .i64 x4] 3)).heap.size := by rw [World.size_alloc]; omega
        clear hal hs4 hT4 hq4 hcr
        go_wp2_with (at_builtin; refine step_appendI _ rfl (.tmp 20) (.tmp 23) rfl w1.heap.size u5 xs rfl Ho5.out (some ⟨w4.heap.size, 0, none⟩) 1 1 [x4] rfl Hnw.out (by simpa using hxr) hwz ?_; intro v5 w5 ho5 hg5 hn5; have Ho6 := Lib.hid ho5; have HT6 := Lib.hid ((HT4.out.trans (Touch.of_below HAl.out)).then (Touch.of_row hg5) (fun i hi e => by have := (Hrow.out i e.symm).1; omega)); have HS6 := Lib.hid ((HS4.out.touch (Touch.of_below (p := fun _ => False) HAl.out) (fun e => e) (fun _ e => e)).touch (Touch.of_row hg5) (fun e => by have := (Hrow.out _ e.symm).1; omega) (fun hne e => by have := (Hrow.out _ e.symm).1; have := Hg.out (HTL4.out hne); omega)); have Hk6 := Lib.hid ((Hk4.out.alloc _).grown hg5 (fun e => by have := (Hrow.out _ e.symm).1; omega)); have Hb6 := Lib.hid ((Hb4.out.alloc _).grown hg5 (fun e => by have := (Hrow.out _ e.symm).1; omega)); clear ho5 hg5 hn5)
        go_roundw
        case rel => exact ⟨m, L4, b4, xs ++ [x4], by simp; omega, by first | rfl | trivial, HI4.out, HTL4.out, hTl4, Ho6.out, HS6.out, HT6.out, Hk6.out, Hb6.out⟩
        case measure => have := Hmi.out; simp [intOf]; omega

end Go.Proofs.YthhebfknikfleaaGreat
