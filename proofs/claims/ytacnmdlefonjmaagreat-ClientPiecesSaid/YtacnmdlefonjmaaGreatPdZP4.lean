/-
  Ground: FoT, FoU, IdxI, IdxC, IdxS.
-/
import Derived.Test.YtacnmdlefonjmaaGreatPdZP3
import Derived.Test.YtacnmdlefonjmaaGreatPdZP1
import Derived.Test.YtacnmdlefonjmaaGreatPdZP2
/-
  Messages of clients (layer 6): values that are read: the program's and the document's.
-/
namespace Go.Proofs.YtacnmdlefonjmaaGreat
open Go.RowKit
set_option linter.unusedVariables false
set_option linter.unusedSimpArgs false

abbrev OwnC (B : Nat) (w : World) (v : Value) (xs : List CeV) : Prop := OwnS B 115 2 CeS (fun k => B ≤ k) w v xs
theorem Tryz.info115 : (Tryz.prog.info? 115).map (fun i => (i.zero, i.size, i.bytes)) = some (some (.agg #[.bool false, .slice none 0 0]), 2, 32) := by kernel_rfl
theorem info_ce : ∃ i z, Tryz.prog.info? 115 = some i ∧ i.zero = some z ∧ i.size = 2 ∧ i.bytes = 32 ∧ z.cells.size = 2 := by
  obtain ⟨i0, hi, hz0, hz1, hz2⟩ := info_parts Tryz.info115
  exact ⟨i0, _, hi, hz0, hz1, hz2, rfl⟩

/-- A value behind values. -/
theorem step_appendC {ops : Array Oper} {rest : List Oper} {o : Oper} {a : Act} {Q : Exit → Act → World → Prop} (w : World) (hgd : o.guard = none) (s y : Operand)
    (ho : o.op = .call { callee := .builtin .append, args := #[s, y], argTypes := #[44, 44] })
    (B : Nat) (v : Value) (xs : List CeV) (hsv : a.eval s = v) (hown : OwnC B w v xs) (p : Option Addr) (n c : Nat) (ys : List CeV) (hx : a.eval y = .slice p n c) (hs : SliceS 2 CeS (fun k => B ≤ k ∧ rowOf v ≠ some k) w [.slice p n c] ys)
    (hroom : xs.length + ys.length ≤ 1000000) (hbase : B ≤ w.heap.size)
    (h : ∀ v' w', OwnC B w' v' (xs ++ ys) → w.grownBy w' (rowOf v) → (∀ k, rowOf v' = some k → rowOf v = some k ∨ w.heap.size ≤ k) → wpList Tryz.prog ops Q rest (a.put o.dst v') w') : wpList Tryz.prog ops Q (o :: rest) a w :=
  wpList_append_S w hgd s y 44 44 ho B 115 115 2 32 Tryz.underlying44 Tryz.underlying44 info_ce CeS CeS.still CeS.one (fun k => B ≤ k) v xs hsv hown p n c ys hx hs
    (by omega) (by simp only [maxLen]; omega) hbase h

structure CeI (R : Option (List CeV × List UInt8)) (l1 : Nat) (bad1 : Bool) (m : Nat) (T : List UInt8) (b : Bool) (xs : List CeV) : Prop where
  good : b = false → bad1 = false ∧ R = (cellsP m T).map (fun q => (xs ++ q.1, q.2))
  bad : b = true → bad1 = true ∨ R = none
  len : T.length + xs.length ≤ l1 + (if b = true then 1 else 0)
theorem numP4 (L : List UInt8) : numP 4 L = if numOk L false 4 = true then some (numV L false 4, L.drop 4) else none := rfl
section
variable {R : Option (List CeV × List UInt8)} {l1 : Nat} {bad1 : Bool} {m : Nat} {T T1 T2 : List UInt8} {xs : List CeV}
theorem CeI.null (h : CeI R l1 bad1 (m + 1) T false xs) (hok : numOk T false 4 = true) (hn : numV T false 4 = 4294967295) : CeI R l1 bad1 m (T.drop 4) false (xs ++ [⟨true, []⟩]) := by
  obtain ⟨h1, h2⟩ := h.good rfl
  have hl := h.len
  simp only [Bool.false_eq_true, if_false, Nat.add_zero] at hl
  have : 4 ≤ T.length := by unfold numOk at hok; simp at hok; omega
  refine ⟨fun _ => ⟨h1, ?_⟩, (fun e => by cases e), by simp; omega⟩
  rw [h2, cellsP, cellP, numP4, if_pos hok]
  simp only [Option.bind_some]
  rw [if_pos hn]
  simp only [Option.bind_some]
  cases cellsP m (T.drop 4) with
  | none => rfl
  | some q => simp
theorem CeI.take (h : CeI R l1 bad1 (m + 1) T false xs) (hn : numV T false 4 ≠ 4294967295) (hT1 : numOk T false 4 = true → T1 = T.drop 4) (hl1 : T1.length ≤ T.length) (hT2 : takeOk T1 (!numOk T false 4) (numV T false 4) = true → T2 = T1.drop (numV T false 4).toNat) (hl2 : T2.length ≤ T1.length) :
    CeI R l1 bad1 m T2 (!takeOk T1 (!numOk T false 4) (numV T false 4)) (xs ++ [⟨false, takeV T1 (!numOk T false 4) (numV T false 4)⟩]) := by
  obtain ⟨h1, h2⟩ := h.good rfl
  have hl := h.len
  simp only [Bool.false_eq_true, if_false, Nat.add_zero] at hl
  cases hok : numOk T false 4 with
  | false =>
    have hto : takeOk T1 (!false) (numV T false 4) = false := by unfold takeOk; simp
    rw [hto]
    refine ⟨(fun e => by cases e), fun _ => .inr ?_, by simp; omega⟩
    rw [h2, cellsP, cellP, numP4, if_neg (by rw [hok]; decide)]
    rfl
  | true =>
    have hT1' := hT1 hok
    have h4 : 4 ≤ T.length := by unfold numOk at hok; simp at hok; omega
    have hl4 : T1.length + 4 ≤ T.length := by rw [hT1', List.length_drop]; omega
    rw [hok] at hT2
    simp only [Bool.not_true] at hT2 ⊢
    cases hto : takeOk T1 false (numV T false 4) with
    | true =>
      have hT2' := hT2 hto
      refine ⟨fun _ => ⟨h1, ?_⟩, (fun e => by cases e), by simp; omega⟩
      rw [h2, cellsP, cellP, numP4, if_pos hok]
      simp only [Option.bind_some]
      rw [if_neg hn, ← hT1', takeP, if_pos hto]
      simp only [Option.bind_some]
      rw [← hT2']
      cases cellsP m T2 with
      | none => rfl
      | some q => simp
    | false =>
      refine ⟨(fun e => by cases e), fun _ => .inr ?_, by simp; omega⟩
      rw [h2, cellsP, cellP, numP4, if_pos hok]
      simp only [Option.bind_some]
      rw [if_neg hn, ← hT1', takeP, if_neg (by rw [hto]; decide)]
      rfl
end
theorem CeI.fin {L L1 : List UInt8} {bad : Bool} {l1 : Nat} {n : Nat} {m : Nat} {T : List UInt8} {b : Bool} {xs : List CeV}
    (h : CeI (cellsP n L1) l1 (!numOk L bad 2) m T b xs) (hn : numV L bad 2 = n) (hL1 : numOk L bad 2 = true → L1 = L.drop 2) (hm : m = 0 ∨ b = true) (hT : T.length ≤ L.length) : StepO L bad rowQ xs T b := by
  refine ⟨fun hb => ?_, fun hb => ?_, hT⟩
  · subst hb
    obtain ⟨h1, h2⟩ := h.good rfl
    have hok : numOk L bad 2 = true := by simpa using h1
    have hbf : bad = false := by unfold numOk at hok; simp at hok; exact hok.1.1
    subst hbf
    rcases hm with rfl | hb
    · refine ⟨rfl, ?_⟩
      unfold rowQ
      rw [numP2, if_pos hok]
      simp only [Option.bind_some]
      rw [hn, Int.toNat_natCast, ← hL1 hok, h2]
      simp [cellsP]
    · cases hb
  · rcases h.bad hb with h1 | h1
    · cases bad with
      | true => exact .inl rfl
      | false =>
        right
        have hok : numOk L false 2 = false := by simpa using h1
        unfold rowQ
        rw [numP2, if_neg (by rw [hok]; decide)]
        rfl
    · cases bad with
      | true => exact .inl rfl
      | false =>
        right
        unfold rowQ
        rw [numP2]
        by_cases hok : numOk L false 2 = true
        · rw [if_pos hok]
          simp only [Option.bind_some]
          rw [hn, Int.toNat_natCast, ← hL1 hok]
          exact h1
        · rw [if_neg hok]
          rfl
theorem nx_drop (ok : Bool) (T E : List UInt8) (k : Nat) (hE : E = [] ∨ E = T) : (ok = true → nx ok (T.drop k) E = T.drop k) ∧ (nx ok (T.drop k) E).length ≤ T.length ∧ (nx ok (T.drop k) E ≠ [] → T ≠ []) := by
  cases ok with
  | true =>
    refine ⟨fun _ => rfl, by unfold nx; simp, ?_⟩
    intro h e
    subst e
    exact h (by unfold nx; simp)
  | false =>
    refine ⟨(fun e => by cases e), ?_, ?_⟩
    · rcases hE with rfl | rfl <;> simp [nx]
    · intro h e
      subst e
      rcases hE with rfl | rfl <;> exact h rfl
theorem num16 (L : List UInt8) (bad : Bool) : ∃ nn : Nat, numV L bad 2 = (nn : Int) ∧ nn ≤ 65536 := by
  unfold numV
  split
  · have hb := be_bd (L.take (2 : Int).toNat)
    have hl : (L.take (2 : Int).toNat).length ≤ 2 := by rw [List.length_take]; exact Nat.min_le_left _ _
    obtain ⟨q, hq⟩ := Int.eq_ofNat_of_zero_le hb.1
    have h2 : be (L.take (2 : Int).toNat) < 65536 := by
      have h3 : (256 : Int) ^ (L.take (2 : Int).toNat).length ≤ 65536 := by
        generalize (L.take (2 : Int).toNat).length = q at hl
        have : q = 0 ∨ q = 1 ∨ q = 2 := by omega
        rcases this with rfl | rfl | rfl <;> decide
      omega
    exact ⟨q, hq, by omega⟩
  · exact ⟨0, rfl, by omega⟩

/-- What is read of values. -/
def frowR (sb g : Nat) (L : List UInt8) (bad : Bool) (w : World) (e : Ending) (w' : World) : Prop :=
  ∃ v xs L' bad', e = .returned v ∧ OwnC w.heap.size w' v xs ∧ ScanO w' sb g L' bad' ∧ StepO L bad rowQ xs L' bad' ∧ Touch (fun i => i = sb) w w'

set_option maxRecDepth 100000 in
set_option maxHeartbeats 4000000 in
theorem frow_any (sb g : Nat) (L : List UInt8) (bad : Bool) (w : World) (h : ScanO w sb g L bad) (hL : L.length ≤ 100000) :
    Calls Tryz.prog 100 #[.agg #[.pointer (some ⟨sb, 0, none⟩)]] w (frowR sb g L bad w) := by
  have hsb := h.lt
  have Hg := Lib.hid (fun e : L ≠ [] => h.ltg e)
  have hal : Below w.heap.size w (w.alloc (.cells #[.pointer (some ⟨sb, 0, none⟩)] 140)) := (Below.refl _ _).alloc (Nat.le_refl _) _
  have HA := Lib.hid hal
  have H0 := Lib.hid (h.touch (Touch.of_below (p := fun _ => False) hal) (fun e => e) (fun _ e => e))
  have Hk := Lib.hid (Blk.new w 140 #[.pointer (some ⟨sb, 0, none⟩)])
  have hz1 : w.heap.size ≤ (w.alloc (.cells #[.pointer (some ⟨sb, 0, none⟩)] 140)).heap.size := by simp
  have hk1 := Hk.out.lt
  clear h hal
  go_enter Tryz.func100, Tryz.ntmps100
  go_upto_region 1 with (fail)
  generalize w.alloc (.cells #[.pointer (some ⟨sb, 0, none⟩)] 140) = w1 at *
  have hc1 := Hk.out.cell
  have Hn := Lib.hid (scanNum_any sb g L bad 2 w1 H0.out)
  obtain ⟨nn, hnn, hnb⟩ := num16 L bad
  rw [hnn] at Hn
  have HNN := Lib.hid hnn
  have hL1 := nx_drop (numOk L bad 2) L [] 2 (.inl rfl)
  obtain ⟨L1, hL1e⟩ : ∃ L1, nx (numOk L bad 2) (L.drop (2 : Int).toNat) [] = L1 := ⟨_, rfl⟩
  rw [hL1e] at Hn
  rw [show nx (numOk L bad 2) (L.drop 2) [] = L1 from hL1e] at hL1
  have HL1 := Lib.hid hL1
  clear hnn hL1 hL1e
  go_wp2_with fail
  refine Hn.out.mono ?_
  rintro e w2 ⟨rfl, hs2, hT2⟩
  have hz2 := hT2.size
  have HS2 := Lib.hid hs2
  have HT2 := Lib.hid hT2
  clear hs2 Hn
  have Hk2 := Lib.hid (hT2.blk Hk.out (by omega))
  clear hT2 hc1
  go_wp2_with fail
  go_loopw [3, 4] (fun v i wr => ∃ (m : Nat) (T : List UInt8) (b : Bool) (xs : List CeV), m ≤ 65536 ∧ i = .int .i64 (m : Int) ∧ CeI (cellsP nn L1) L1.length (!numOk L bad 2) m T b xs ∧ (T ≠ [] → L ≠ []) ∧ T.length ≤ L1.length ∧ OwnC w1.heap.size wr v xs ∧ ScanO wr sb g T b ∧ Touch (fun i => i = sb) w1 wr ∧ Blk wr w.heap.size 140 #[.pointer (some ⟨sb, 0, none⟩)]) (fun _ i _ => (intOf i).toNat)
  case atStart => exact ⟨nn, L1, !numOk L bad 2, [], hnb, rfl, ⟨fun e => ⟨e, by cases cellsP nn L1 <;> simp⟩, fun e => .inl e, by simp⟩, HL1.out.2.2, Nat.le_refl _, OwnS.empty _, HS2.out, HT2.out, Hk2.out⟩
  case round =>
    obtain ⟨m, T, b, xs, hm6, rfl, hI, hTL, hTl, ho, hs, hT, hk⟩ := hrel
    have hzr := hT.size
    have HI := Lib.hid hI
    have HTL := Lib.hid hTL
    have Ho := Lib.hid ho
    have HS := Lib.hid hs
    have HT := Lib.hid hT
    have Hrow := Lib.hid ho.row
    have hxl := hI.len
    have hxl2 : xs.length ≤ 100002 := by have := HL1.out.2.1; split at hxl <;> omega
    have hTc : T.length ≤ 100000 := by have := HL1.out.2.1; omega
    have Hfin := Lib.hid (fun hm : m = 0 ∨ b = true => hI.fin HNN.out (fun e => HL1.out.1 e) hm (by have := HL1.out.2.1; omega))
    have Hkr := Lib.hid hk
    have hcr := hk.cell
    clear hI hTL ho hs hT hxl hk
    cases m with
    | zero =>
      have Hst := Lib.hid (Hfin.out (.inl rfl))
      go_wp2_with fail
      go_ret
      exact ⟨_, xs, T, b, rfl, ((Ho.out.base hz1).touch (S' := fun k => w.heap.size ≤ k) CeS.still (Touch.refl (fun _ => False) _) (fun _ _ e => e) (fun k _ hk _ => ⟨by have hk' : w1.heap.size ≤ k := hk; omega, fun e => e⟩)), HS.out, Hst.out, (Touch.of_below (p := fun i => i = sb) HA.out).trans HT.out⟩
    | succ m =>
      obtain ⟨mi, hmi⟩ : ∃ mi : Int, ((m + 1 : Nat) : Int) = mi := ⟨_, rfl⟩
      rw [hmi]
      have hpos : 0 < mi := by omega
      have hwm : IntKind.i64.wrap (mi - 1) = (m : Int) := by rw [IntKind.wrap_i64]; omega
      have Hmi := Lib.hid hmi
      clear hmi
      have HBd := Lib.hid (scanBad_any sb g T b wr HS.out)
      cases b with
      | true =>
        have Hst := Lib.hid (Hfin.out (.inr rfl))
        go_wp2_with fail
        refine HBd.out.mono ?_
        rintro e w3 ⟨rfl, rfl⟩
        go_wp2_with fail
        go_ret
        exact ⟨_, xs, T, true, rfl, ((Ho.out.base hz1).touch (S' := fun k => w.heap.size ≤ k) CeS.still (Touch.refl (fun _ => False) _) (fun _ _ e => e) (fun k _ hk _ => ⟨by have hk' : w1.heap.size ≤ k := hk; omega, fun e => e⟩)), HS.out, Hst.out, (Touch.of_below (p := fun i => i = sb) HA.out).trans HT.out⟩
      | false =>
        go_wp2_with fail
        refine HBd.out.mono ?_
        rintro e w3 ⟨rfl, rfl⟩
        have HN := Lib.hid (scanNum_any sb g T false 4 wr HS.out)
        go_wp2_with fail
        refine HN.out.mono ?_
        rintro e w4 ⟨rfl, hs4, hT4⟩
        have hz4 := hT4.size
        have hT1 := nx_drop (numOk T false 4) T [] 4 (.inl rfl)
        obtain ⟨T1, hT1e⟩ : ∃ T1, nx (numOk T false 4) (T.drop (4 : Int).toNat) [] = T1 := ⟨_, rfl⟩
        rw [hT1e] at hs4
        rw [show nx (numOk T false 4) (T.drop 4) [] = T1 from hT1e] at hT1
        have Ho4 := Ho.out.touch (S' := fun k => w1.heap.size ≤ k) CeS.still hT4 (fun k hk => by have := (Hrow.out k hk).1; omega) (fun k _ hk _ => ⟨hk, fun e => by omega⟩)
        have HO4 := Lib.hid Ho4
        have HT4 := Lib.hid (HT.out.trans hT4)
        have hxr : xs.length + 1 ≤ 1000000 := by omega
        have HS4 := Lib.hid hs4
        have HT1 := Lib.hid hT1
        have Hk4 := Lib.hid (hT4.blk Hkr.out (by omega))
        have hc4 := Hk4.out.cell
        clear hs4 hT4 hT1 hT1e Ho4 hcr
        by_cases hnull : numV T false 4 = 4294967295
        · have hok : numOk T false 4 = true := by
            cases e : numOk T false 4 with
            | true => rfl
            | false =>
              unfold numV at hnull
              rw [if_neg (by rw [e]; decide)] at hnull
              cases hnull
          have HI5 := Lib.hid (HI.out.null hok hnull)
          have hd := HT1.out.1 hok
          have HTL5 : Hid (T1 ≠ [] → L ≠ []) := Lib.hid (fun e => HTL.out (HT1.out.2.2 e))
          have hTl5 : T1.length ≤ L1.length := by have := HT1.out.2.1; omega
          rw [hok] at HS4
          have HI6 : Hid (CeI (cellsP nn L1) L1.length (!numOk L bad 2) m T1 false (xs ++ [⟨true, []⟩])) := Lib.hid (by
            have hh := HI5.out
            have e4 : T.drop 4 = T1 := hd.symm
            rw [e4] at hh
            exact hh)
          have hal : Below w4.heap.size w4 (w4.alloc (.cells #[.bool true, .slice none 0 0] 115)) := (Below.refl _ _).alloc (Nat.le_refl _) _
          have Ho5 := Lib.hid (HO4.out.below' CeS.still hal)
          have Hnw := Lib.hid (SliceS.new1 (S := fun k => w1.heap.size ≤ k ∧ rowOf u3 ≠ some k) (S' := fun k => w1.heap.size ≤ k ∧ rowOf u3 ≠ some k) CeS.still w4 115 #[.bool true, .slice none 0 0] ⟨true, []⟩ ⟨none, 0, rfl, none, 0, rfl, Nat.le_refl _, by simp [maxLen], BytesIn.nil _ _, fun h => absurd rfl h⟩ rfl (fun k _ h => h) ⟨by omega, fun e => by have := (Hrow.out _ e).2; omega⟩)
          have HAl := Lib.hid hal
          have hwz : w1.heap.size ≤ (w4.alloc (.cells #[.bool true, .slice none 0 0] 115)).heap.size := by rw [World.size_alloc]; omega
          rw [hnull]
          clear hal hnull hok hd HI5
          go_wp2_with (at_builtin; refine step_appendC _ rfl (.tmp 24) (.tmp 26) rfl w1.heap.size u3 xs rfl Ho5.out (some ⟨w4.heap.size, 0, none⟩) 1 1 [⟨true, []⟩] rfl Hnw.out (by simpa using hxr) hwz ?_; intro v5 w5 ho5 hg5 hn5; have Ho6 := Lib.hid ho5; have HT6 := Lib.hid ((HT4.out.trans (Touch.of_below HAl.out)).then (Touch.of_row hg5) (fun i hi e => by have := (Hrow.out i e.symm).1; omega)); have HS6 := Lib.hid ((HS4.out.touch (Touch.of_below (p := fun _ => False) HAl.out) (fun e => e) (fun _ e => e)).touch (Touch.of_row hg5) (fun e => by have := (Hrow.out _ e.symm).1; omega) (fun hne e => by have := (Hrow.out _ e.symm).1; have := Hg.out (HTL5.out hne); omega)); have Hk6 := Lib.hid ((Hk4.out.alloc _).grown hg5 (fun e => by have := (Hrow.out _ e.symm).1; omega)); clear ho5 hg5 hn5)
          go_roundw
          case rel => exact ⟨m, T1, false, xs ++ [⟨true, []⟩], by omega, by first | rfl | trivial, HI6.out, HTL5.out, hTl5, Ho6.out, HS6.out, HT6.out, Hk6.out⟩
          case measure => have := Hmi.out; simp [intOf]; omega
        · have hnb2 : (numV T false 4 == 4294967295) = false := by simpa using hnull
          have Hnull := Lib.hid hnull
          have Htk := Lib.hid (scanTake_any sb g T1 (!numOk T false 4) (numV T false 4) w4 HS4.out (by have := HT1.out.2.1; omega))
          have hT2 := nx_drop (takeOk T1 (!numOk T false 4) (numV T false 4)) T1 [] (numV T false 4).toNat (.inl rfl)
          obtain ⟨T2, hT2e⟩ : ∃ T2, nx (takeOk T1 (!numOk T false 4) (numV T false 4)) (T1.drop (numV T false 4).toNat) [] = T2 := ⟨_, rfl⟩
          rw [hT2e] at hT2 Htk
          have HI6 := Lib.hid (HI.out.take Hnull.out (fun e => HT1.out.1 e) HT1.out.2.1 (fun e => hT2.1 e) hT2.2.1)
          have HTL5 : Hid (T2 ≠ [] → L ≠ []) := Lib.hid (fun e => HTL.out (HT1.out.2.2 (hT2.2.2 e)))
          have hTl5 : T2.length ≤ L1.length := by have := HT1.out.2.1; have := hT2.2.1; omega
          obtain ⟨b2, hb2⟩ : ∃ b2, (!takeOk T1 (!numOk T false 4) (numV T false 4)) = b2 := ⟨_, rfl⟩
          obtain ⟨tv, htv⟩ : ∃ tv, takeV T1 (!numOk T false 4) (numV T false 4) = tv := ⟨_, rfl⟩
          rw [hb2, htv] at Htk HI6
          generalize numV T false 4 = nv at *
          clear hT2 hT2e hb2 htv hnull
          go_wp2_with fail
          refine Htk.out.mono ?_
          rintro e w6 ⟨v6, rfl, ho6, hs6, hT6⟩
          have hz6 := hT6.size
          obtain ⟨p6, c6, hv6, hby⟩ := ho6.bytesS (S := fun k => w1.heap.size ≤ k ∧ rowOf u3 ≠ some k) (fun k hk => ⟨by omega, fun e => by have := (Hrow.out _ e).2; omega⟩)
          subst hv6
          have HO6 := Lib.hid (HO4.out.touch (S' := fun k => w1.heap.size ≤ k) CeS.still hT6 (fun k hk => by have := (Hrow.out k hk).1; omega) (fun k _ hk _ => ⟨hk, fun e => by omega⟩))
          have hal : Below w6.heap.size w6 (w6.alloc (.cells #[.bool false, .slice p6 tv.length c6] 115)) := (Below.refl _ _).alloc (Nat.le_refl _) _
          have Ho7 := Lib.hid (HO6.out.below' CeS.still hal)
          have Hnw := Lib.hid (SliceS.new1 (S := fun k => w1.heap.size ≤ k ∧ rowOf u3 ≠ some k) (S' := fun k => w1.heap.size ≤ k ∧ rowOf u3 ≠ some k) CeS.still w6 115 #[.bool false, .slice p6 tv.length c6] ⟨false, tv⟩ ⟨p6, c6, rfl, hby⟩ rfl (fun k _ h => h) ⟨by omega, fun e => by have := (Hrow.out _ e).2; omega⟩)
          have HAl := Lib.hid hal
          have HS7 := Lib.hid hs6
          have HT7 := Lib.hid (HT4.out.trans hT6)
          have hwz : w1.heap.size ≤ (w6.alloc (.cells #[.bool false, .slice p6 tv.length c6] 115)).heap.size := by rw [World.size_alloc]; omega
          have Hk7 := Lib.hid (hT6.blk Hk4.out (by omega))
          clear hal hs6 hT6 ho6 hby hc4
          generalize tv.length = ntv at *
          go_wp2_with (at_builtin; refine step_appendC _ rfl (.tmp 28) (.tmp 34) rfl w1.heap.size u3 xs rfl Ho7.out (some ⟨w6.heap.size, 0, none⟩) 1 1 [⟨false, tv⟩] rfl Hnw.out (by simpa using hxr) hwz ?_; intro v8 w8 ho8 hg8 hn8; have Ho9 := Lib.hid ho8; have HT9 := Lib.hid ((HT7.out.trans (Touch.of_below HAl.out)).then (Touch.of_row hg8) (fun i hi e => by have := (Hrow.out i e.symm).1; omega)); have HS9 := Lib.hid ((HS7.out.touch (Touch.of_below (p := fun _ => False) HAl.out) (fun e => e) (fun _ e => e)).touch (Touch.of_row hg8) (fun e => by have := (Hrow.out _ e.symm).1; omega) (fun hne e => by have := (Hrow.out _ e.symm).1; have := Hg.out (HTL5.out hne); omega)); have Hk9 := Lib.hid ((Hk7.out.alloc _).grown hg8 (fun e => by have := (Hrow.out _ e.symm).1; omega)); clear ho8 hg8 hn8)
          go_roundw
          case rel => exact ⟨m, T2, b2, xs ++ [⟨false, tv⟩], by omega, by first | rfl | trivial, HI6.out, HTL5.out, hTl5, Ho9.out, HS9.out, HT9.out, Hk9.out⟩
          case measure => have := Hmi.out; simp [intOf]; omega

/-- What is read of values. -/
def frrowR (sb g : Nat) (L : List UInt8) (bad : Bool) (w : World) (e : Ending) (w' : World) : Prop :=
  ∃ v xs L' bad', e = .returned v ∧ OwnC w.heap.size w' v xs ∧ RefS w' sb g L' bad' ∧ StepO L bad rowQ xs L' bad' ∧ Touch (fun i => i = sb) w w'

set_option maxRecDepth 100000 in
set_option maxHeartbeats 4000000 in
theorem frrow_any (sb g : Nat) (L : List UInt8) (bad : Bool) (w : World) (h : RefS w sb g L bad) (hL : L.length ≤ 100000) :
    Calls Tryz.prog 78 #[.pointer (some ⟨sb, 0, none⟩)] w (frrowR sb g L bad w) := by
  have hsb := h.lt
  have Hg := Lib.hid (fun e : L ≠ [] => h.ltgF e)
  have H0 := Lib.hid h
  have HA := Lib.hid (Below.refl w.heap.size w)
  have hz1 : w.heap.size ≤ w.heap.size := Nat.le_refl _
  clear h
  go_enter Tryz.func78, Tryz.ntmps78
  go_upto_region 1 with (fail)
  have Hn := Lib.hid (refSNum_any sb g L bad 2 w H0.out)
  obtain ⟨nn, hnn, hnb⟩ := num16 L bad
  rw [hnn] at Hn
  have HNN := Lib.hid hnn
  have hL1 := nx_drop (numOk L bad 2) L L 2 (.inr rfl)
  obtain ⟨L1, hL1e⟩ : ∃ L1, nx (numOk L bad 2) (L.drop (2 : Int).toNat) L = L1 := ⟨_, rfl⟩
  rw [hL1e] at Hn
  rw [show nx (numOk L bad 2) (L.drop 2) L = L1 from hL1e] at hL1
  have HL1 := Lib.hid hL1
  clear hnn hL1 hL1e
  go_wp2_with fail
  refine Hn.out.mono ?_
  rintro e w2 ⟨rfl, hs2, hT2⟩
  have hz2 := hT2.size
  have HS2 := Lib.hid hs2
  have HT2 := Lib.hid hT2
  clear hs2 Hn
  clear hT2
  go_wp2_with fail
  go_loopw [3, 4] (fun v i wr => ∃ (m : Nat) (T : List UInt8) (b : Bool) (xs : List CeV), m ≤ 65536 ∧ i = .int .i64 (m : Int) ∧ CeI (cellsP nn L1) L1.length (!numOk L bad 2) m T b xs ∧ (T ≠ [] → L ≠ []) ∧ T.length ≤ L1.length ∧ OwnC w.heap.size wr v xs ∧ RefS wr sb g T b ∧ Touch (fun i => i = sb) w wr) (fun _ i _ => (intOf i).toNat)
  case atStart => exact ⟨nn, L1, !numOk L bad 2, [], hnb, rfl, ⟨fun e => ⟨e, by cases cellsP nn L1 <;> simp⟩, fun e => .inl e, by simp⟩, HL1.out.2.2, Nat.le_refl _, OwnS.empty _, HS2.out, HT2.out⟩
  case round =>
    obtain ⟨m, T, b, xs, hm6, rfl, hI, hTL, hTl, ho, hs, hT⟩ := hrel
    have hzr := hT.size
    have HI := Lib.hid hI
    have HTL := Lib.hid hTL
    have Ho := Lib.hid ho
    have HS := Lib.hid hs
    have HT := Lib.hid hT
    have Hrow := Lib.hid ho.row
    have hxl := hI.len
    have hxl2 : xs.length ≤ 100002 := by have := HL1.out.2.1; split at hxl <;> omega
    have hTc : T.length ≤ 100000 := by have := HL1.out.2.1; omega
    have Hfin := Lib.hid (fun hm : m = 0 ∨ b = true => hI.fin HNN.out (fun e => HL1.out.1 e) hm (by have := HL1.out.2.1; omega))
    obtain ⟨pq, cq, hcr⟩ := hs.cellsF
    clear hI hTL ho hs hT hxl
    cases m with
    | zero =>
      have Hst := Lib.hid (Hfin.out (.inl rfl))
      go_wp2_with fail
      go_ret
      exact ⟨_, xs, T, b, rfl, Ho.out.base hz1, HS.out, Hst.out, (Touch.of_below (p := fun i => i = sb) HA.out).trans HT.out⟩
    | succ m =>
      obtain ⟨mi, hmi⟩ : ∃ mi : Int, ((m + 1 : Nat) : Int) = mi := ⟨_, rfl⟩
      rw [hmi]
      have hpos : 0 < mi := by omega
      have hwm : IntKind.i64.wrap (mi - 1) = (m : Int) := by rw [IntKind.wrap_i64]; omega
      have Hmi := Lib.hid hmi
      clear hmi
      cases b with
      | true =>
        have Hst := Lib.hid (Hfin.out (.inr rfl))
        go_wp2_with fail
        go_ret
        exact ⟨_, xs, T, true, rfl, Ho.out.base hz1, HS.out, Hst.out, HT.out⟩
      | false =>
        have HN := Lib.hid (refSNum_any sb g T false 4 wr HS.out)
        go_wp2_with fail
        refine HN.out.mono ?_
        rintro e w4 ⟨rfl, hs4, hT4⟩
        have hz4 := hT4.size
        have hT1 := nx_drop (numOk T false 4) T T 4 (.inr rfl)
        obtain ⟨T1, hT1e⟩ : ∃ T1, nx (numOk T false 4) (T.drop (4 : Int).toNat) T = T1 := ⟨_, rfl⟩
        rw [hT1e] at hs4
        rw [show nx (numOk T false 4) (T.drop 4) T = T1 from hT1e] at hT1
        have Ho4 := Ho.out.touch (S' := fun k => w.heap.size ≤ k) CeS.still hT4 (fun k hk => by have := (Hrow.out k hk).1; omega) (fun k _ hk _ => ⟨hk, fun e => by omega⟩)
        have HO4 := Lib.hid Ho4
        have HT4 := Lib.hid (HT.out.trans hT4)
        have hxr : xs.length + 1 ≤ 1000000 := by omega
        have HS4 := Lib.hid hs4
        have HT1 := Lib.hid hT1
        clear hs4 hT4 hT1 hT1e Ho4 hcr
        by_cases hnull : numV T false 4 = 4294967295
        · have hok : numOk T false 4 = true := by
            cases e : numOk T false 4 with
            | true => rfl
            | false =>
              unfold numV at hnull
              rw [if_neg (by rw [e]; decide)] at hnull
              cases hnull
          have HI5 := Lib.hid (HI.out.null hok hnull)
          have hd := HT1.out.1 hok
          have HTL5 : Hid (T1 ≠ [] → L ≠ []) := Lib.hid (fun e => HTL.out (HT1.out.2.2 e))
          have hTl5 : T1.length ≤ L1.length := by have := HT1.out.2.1; omega
          rw [hok] at HS4
          have HI6 : Hid (CeI (cellsP nn L1) L1.length (!numOk L bad 2) m T1 false (xs ++ [⟨true, []⟩])) := Lib.hid (by
            have hh := HI5.out
            have e4 : T.drop 4 = T1 := hd.symm
            rw [e4] at hh
            exact hh)
          have hal : Below w4.heap.size w4 (w4.alloc (.cells #[.bool true, .slice none 0 0] 115)) := (Below.refl _ _).alloc (Nat.le_refl _) _
          have Ho5 := Lib.hid (HO4.out.below' CeS.still hal)
          have Hnw := Lib.hid (SliceS.new1 (S := fun k => w.heap.size ≤ k ∧ rowOf u3 ≠ some k) (S' := fun k => w.heap.size ≤ k ∧ rowOf u3 ≠ some k) CeS.still w4 115 #[.bool true, .slice none 0 0] ⟨true, []⟩ ⟨none, 0, rfl, none, 0, rfl, Nat.le_refl _, by simp [maxLen], BytesIn.nil _ _, fun h => absurd rfl h⟩ rfl (fun k _ h => h) ⟨by omega, fun e => by have := (Hrow.out _ e).2; omega⟩)
          have HAl := Lib.hid hal
          have hwz : w.heap.size ≤ (w4.alloc (.cells #[.bool true, .slice none 0 0] 115)).heap.size := by rw [World.size_alloc]; omega
          rw [hnull]
          clear hal hnull hok hd HI5
          go_wp2_with (at_builtin; refine step_appendC _ rfl (.tmp 23) (.tmp 25) rfl w.heap.size u3 xs rfl Ho5.out (some ⟨w4.heap.size, 0, none⟩) 1 1 [⟨true, []⟩] rfl Hnw.out (by simpa using hxr) hwz ?_; intro v5 w5 ho5 hg5 hn5; have Ho6 := Lib.hid ho5; have HT6 := Lib.hid ((HT4.out.trans (Touch.of_below HAl.out)).then (Touch.of_row hg5) (fun i hi e => by have := (Hrow.out i e.symm).1; omega)); have HS6 := Lib.hid ((HS4.out.touch (Touch.of_below (p := fun _ => False) HAl.out) (fun e => e) (fun _ e => e)).touch (Touch.of_row hg5) (fun e => by have := (Hrow.out _ e.symm).1; omega) (fun hne e => by have := (Hrow.out _ e.symm).1; have := Hg.out (HTL5.out hne); omega)); clear ho5 hg5 hn5)
          go_roundw
          case rel => exact ⟨m, T1, false, xs ++ [⟨true, []⟩], by omega, by first | rfl | trivial, HI6.out, HTL5.out, hTl5, Ho6.out, HS6.out, HT6.out⟩
          case measure => have := Hmi.out; simp [intOf]; omega
        · have hnb2 : (numV T false 4 == 4294967295) = false := by simpa using hnull
          have Hnull := Lib.hid hnull
          have Htk := Lib.hid (refSTake_any sb g T1 (!numOk T false 4) (numV T false 4) w4 HS4.out (by have := HT1.out.2.1; omega))
          have hT2 := nx_drop (takeOk T1 (!numOk T false 4) (numV T false 4)) T1 T1 (numV T false 4).toNat (.inr rfl)
          obtain ⟨T2, hT2e⟩ : ∃ T2, nx (takeOk T1 (!numOk T false 4) (numV T false 4)) (T1.drop (numV T false 4).toNat) T1 = T2 := ⟨_, rfl⟩
          rw [hT2e] at hT2 Htk
          have HI6 := Lib.hid (HI.out.take Hnull.out (fun e => HT1.out.1 e) HT1.out.2.1 (fun e => hT2.1 e) hT2.2.1)
          have HTL5 : Hid (T2 ≠ [] → L ≠ []) := Lib.hid (fun e => HTL.out (HT1.out.2.2 (hT2.2.2 e)))
          have hTl5 : T2.length ≤ L1.length := by have := HT1.out.2.1; have := hT2.2.1; omega
          obtain ⟨b2, hb2⟩ : ∃ b2, (!takeOk T1 (!numOk T false 4) (numV T false 4)) = b2 := ⟨_, rfl⟩
          obtain ⟨tv, htv⟩ : ∃ tv, takeV T1 (!numOk T false 4) (numV T false 4) = tv := ⟨_, rfl⟩
          rw [hb2, htv] at Htk HI6
          generalize numV T false 4 = nv at *
          clear hT2 hT2e hb2 htv hnull
          go_wp2_with fail
          refine Htk.out.mono ?_
          rintro e w6 ⟨v6, rfl, ho6, hs6, hT6⟩
          have hz6 := hT6.size
          obtain ⟨p6, c6, hv6, hby⟩ := ho6.bytesS (S := fun k => w.heap.size ≤ k ∧ rowOf u3 ≠ some k) (fun k hk => ⟨by omega, fun e => by have := (Hrow.out _ e).2; omega⟩)
          subst hv6
          have HO6 := Lib.hid (HO4.out.touch (S' := fun k => w.heap.size ≤ k) CeS.still hT6 (fun k hk => by have := (Hrow.out k hk).1; omega) (fun k _ hk _ => ⟨hk, fun e => by omega⟩))
          have hal : Below w6.heap.size w6 (w6.alloc (.cells #[.bool false, .slice p6 tv.length c6] 115)) := (Below.refl _ _).alloc (Nat.le_refl _) _
          have Ho7 := Lib.hid (HO6.out.below' CeS.still hal)
          have Hnw := Lib.hid (SliceS.new1 (S := fun k => w.heap.size ≤ k ∧ rowOf u3 ≠ some k) (S' := fun k => w.heap.size ≤ k ∧ rowOf u3 ≠ some k) CeS.still w6 115 #[.bool false, .slice p6 tv.length c6] ⟨false, tv⟩ ⟨p6, c6, rfl, hby⟩ rfl (fun k _ h => h) ⟨by omega, fun e => by have := (Hrow.out _ e).2; omega⟩)
          have HAl := Lib.hid hal
          have HS7 := Lib.hid hs6
          have HT7 := Lib.hid (HT4.out.trans hT6)
          have hwz : w.heap.size ≤ (w6.alloc (.cells #[.bool false, .slice p6 tv.length c6] 115)).heap.size := by rw [World.size_alloc]; omega

          clear hal hs6 hT6 ho6 hby
          generalize tv.length = ntv at *
          go_wp2_with (at_builtin; refine step_appendC _ rfl (.tmp 27) (.tmp 32) rfl w.heap.size u3 xs rfl Ho7.out (some ⟨w6.heap.size, 0, none⟩) 1 1 [⟨false, tv⟩] rfl Hnw.out (by simpa using hxr) hwz ?_; intro v8 w8 ho8 hg8 hn8; have Ho9 := Lib.hid ho8; have HT9 := Lib.hid ((HT7.out.trans (Touch.of_below HAl.out)).then (Touch.of_row hg8) (fun i hi e => by have := (Hrow.out i e.symm).1; omega)); have HS9 := Lib.hid ((HS7.out.touch (Touch.of_below (p := fun _ => False) HAl.out) (fun e => e) (fun _ e => e)).touch (Touch.of_row hg8) (fun e => by have := (Hrow.out _ e.symm).1; omega) (fun hne e => by have := (Hrow.out _ e.symm).1; have := Hg.out (HTL5.out hne); omega)); clear ho8 hg8 hn8)
          go_roundw
          case rel => exact ⟨m, T2, b2, xs ++ [⟨false, tv⟩], by omega, by first | rfl | trivial, HI6.out, HTL5.out, hTl5, Ho9.out, HS9.out, HT9.out⟩
          case measure => have := Hmi.out; simp [intOf]; omega

end Go.Proofs.YtacnmdlefonjmaaGreat

/-
  Messages of clients (layer 6): what a body says, by its code: a plain law, and steps put together.
-/
namespace Go.Proofs.YtacnmdlefonjmaaGreat
open Go.RowKit
set_option linter.unusedVariables false
set_option linter.unusedSimpArgs false

def foZero (k : Int) : FoV := ⟨k, 0, ⟨#[]⟩, ⟨#[]⟩, ⟨#[]⟩, [], [], [], [], 0⟩
/-- What a body says, by its code, and what is left behind it. -/
def readP (k : Int) (L : List UInt8) : Option (FoV × List UInt8) :=
  if k = 80 then (textQ L).bind fun a => (textQ a.2).bind fun b => (listQ 4 b.2).bind fun c => some ({ foZero k with name := a.1, text := b.1, oids := c.1 }, c.2)
  else if k = 66 then (textQ L).bind fun a => (textQ a.2).bind fun b => (listQ 2 b.2).bind fun c => (rowQ c.2).bind fun d => (listQ 2 d.2).bind fun e =>
    some ({ foZero k with portal := a.1, name := b.1, formats := c.1, params := d.1, results := e.1 }, e.2)
  else if k = 67 ∨ k = 68 then (numP 1 L).bind fun a => (textQ a.2).bind fun b => some ((if a.1 = 83 then { foZero k with what := a.1, name := b.1 } else { foZero k with what := a.1, portal := b.1 }), b.2)
  else if k = 69 then (textQ L).bind fun a => (numP 4 a.2).bind fun b => some ({ foZero k with portal := a.1, max := signedV b.1 4 }, b.2)
  else if k = 81 then (textQ L).bind fun a => some ({ foZero k with text := a.1 }, a.2)
  else some (foZero k, L)

section
variable {α β : Type} {L L1 L2 : List UInt8} {bad b1 b2 : Bool}
theorem StepO.bind {P : List UInt8 → Option (α × List UInt8)} {Q : α → List UInt8 → Option (β × List UInt8)} {x : α} {y : β}
    (h : StepO L bad P x L1 b1) (k : StepO L1 b1 (Q x) y L2 b2) : StepO L bad (fun L => (P L).bind fun a => Q a.1 a.2) y L2 b2 := by
  obtain ⟨h1, h2, h3⟩ := h
  obtain ⟨k1, k2, k3⟩ := k
  refine ⟨fun e => ?_, fun e => ?_, Nat.le_trans k3 h3⟩
  · obtain ⟨e1, q⟩ := k1 e
    obtain ⟨e0, p⟩ := h1 e1
    exact ⟨e0, by show (P L).bind _ = _; rw [p]; exact q⟩
  · cases hb : b1 with
    | true =>
      rcases h2 hb with e0 | p
      · exact .inl e0
      · exact .inr (by show (P L).bind _ = _; rw [p]; rfl)
    | false =>
      obtain ⟨e0, p⟩ := h1 hb
      rcases k2 e with e1 | q
      · rw [hb] at e1; cases e1
      · exact .inr (by show (P L).bind _ = _; rw [p]; exact q)
theorem StepO.ret (x : α) : StepO L bad (fun L => some (x, L)) x L bad := ⟨fun e => ⟨e, rfl⟩, fun e => .inl e, Nat.le_refl _⟩
theorem StepO.of_eq {P Q : List UInt8 → Option (α × List UInt8)} {x : α} (h : StepO L bad P x L1 b1) (e : ∀ l, Q l = P l) : StepO L bad Q x L1 b1 :=
  ⟨fun a => ⟨(h.1 a).1, (e L).trans (h.1 a).2⟩, fun a => (h.2.1 a).imp id fun q => (e L).trans q, h.2.2⟩
theorem StepO.num {E : List UInt8} (hE : E = [] ∨ E = L) (z : Nat) : StepO L bad (numP z) (numV L bad z) (nx (numOk L bad z) (L.drop (z : Int).toNat) E) (!numOk L bad z) := by
  have hn := nx_drop (numOk L bad z) L E (z : Int).toNat hE
  refine ⟨fun e => ?_, fun e => ?_, hn.2.1⟩
  · have e1 : numOk L bad z = true := by simpa using e
    have e0 : bad = false := by unfold numOk at e1; simp only [Bool.and_eq_true, Bool.not_eq_true'] at e1; exact e1.1.1
    subst e0
    exact ⟨rfl, by rw [hn.1 e1]; unfold numP; rw [if_pos e1]; rfl⟩
  · have e1 : numOk L bad z = false := by simpa using e
    cases bad with
    | true => exact .inl rfl
    | false => exact .inr (by unfold numP; rw [if_neg (by rw [e1]; exact Bool.false_ne_true)])
theorem StepO.text {E : List UInt8} (hE : E = [] ∨ E = L) : StepO L bad textQ (textV L bad) (nx (textOk L bad) (L.drop ((Lib.indexByte L 0).toNat + 1)) E) (!textOk L bad) := by
  have hn := nx_drop (textOk L bad) L E ((Lib.indexByte L 0).toNat + 1) hE
  refine ⟨fun e => ?_, fun e => ?_, hn.2.1⟩
  · have e1 : textOk L bad = true := by simpa using e
    have e0 : bad = false := by unfold textOk at e1; simp only [Bool.and_eq_true, Bool.not_eq_true'] at e1; exact e1.1
    subst e0
    exact ⟨rfl, by rw [hn.1 e1]; unfold textQ; rw [if_pos e1]⟩
  · have e1 : textOk L bad = false := by simpa using e
    cases bad with
    | true => exact .inl rfl
    | false => exact .inr (by unfold textQ; rw [if_neg (by rw [e1]; exact Bool.false_ne_true)])
end

section
variable {L L1 L2 L3 L4 L5 : List UInt8} {bad b1 b2 b3 b4 b5 : Bool}
theorem readP_P {n t : ByteArray} {o : List Int} (h1 : StepO L bad textQ n L1 b1) (h2 : StepO L1 b1 textQ t L2 b2) (h3 : StepO L2 b2 (listQ 4) o L3 b3) :
    StepO L bad (readP 80) { foZero 80 with name := n, text := t, oids := o } L3 b3 :=
  (h1.bind (Q := fun n l => (textQ l).bind fun b => (listQ 4 b.2).bind fun c => some ({ foZero 80 with name := n, text := b.1, oids := c.1 }, c.2))
    (h2.bind (Q := fun t l => (listQ 4 l).bind fun c => some ({ foZero 80 with name := n, text := t, oids := c.1 }, c.2))
      (h3.bind (Q := fun o l => some ({ foZero 80 with name := n, text := t, oids := o }, l)) (StepO.ret _)))).of_eq fun l => by unfold readP; rw [if_pos rfl]
theorem readP_B {p n : ByteArray} {fs rs : List Int} {cs : List CeV} (h1 : StepO L bad textQ p L1 b1) (h2 : StepO L1 b1 textQ n L2 b2) (h3 : StepO L2 b2 (listQ 2) fs L3 b3)
    (h4 : StepO L3 b3 rowQ cs L4 b4) (h5 : StepO L4 b4 (listQ 2) rs L5 b5) :
    StepO L bad (readP 66) { foZero 66 with portal := p, name := n, formats := fs, params := cs, results := rs } L5 b5 :=
  (h1.bind (Q := fun p l => (textQ l).bind fun b => (listQ 2 b.2).bind fun c => (rowQ c.2).bind fun d => (listQ 2 d.2).bind fun e => some ({ foZero 66 with portal := p, name := b.1, formats := c.1, params := d.1, results := e.1 }, e.2))
    (h2.bind (Q := fun n l => (listQ 2 l).bind fun c => (rowQ c.2).bind fun d => (listQ 2 d.2).bind fun e => some ({ foZero 66 with portal := p, name := n, formats := c.1, params := d.1, results := e.1 }, e.2))
      (h3.bind (Q := fun fs l => (rowQ l).bind fun d => (listQ 2 d.2).bind fun e => some ({ foZero 66 with portal := p, name := n, formats := fs, params := d.1, results := e.1 }, e.2))
        (h4.bind (Q := fun cs l => (listQ 2 l).bind fun e => some ({ foZero 66 with portal := p, name := n, formats := fs, params := cs, results := e.1 }, e.2))
          (h5.bind (Q := fun rs l => some ({ foZero 66 with portal := p, name := n, formats := fs, params := cs, results := rs }, l)) (StepO.ret _)))))).of_eq
    fun l => by unfold readP; rw [if_neg (by decide), if_pos rfl]
theorem readP_C {k x : Int} (hk : k = 67 ∨ k = 68) {n : ByteArray} (h1 : StepO L bad (numP 1) x L1 b1) (h2 : StepO L1 b1 textQ n L2 b2) :
    StepO L bad (readP k) (if x = 83 then { foZero k with what := x, name := n } else { foZero k with what := x, portal := n }) L2 b2 :=
  (h1.bind (Q := fun x l => (textQ l).bind fun b => some ((if x = 83 then { foZero k with what := x, name := b.1 } else { foZero k with what := x, portal := b.1 }), b.2))
    (h2.bind (Q := fun n l => some ((if x = 83 then { foZero k with what := x, name := n } else { foZero k with what := x, portal := n }), l)) (StepO.ret _))).of_eq
    fun l => by unfold readP; rw [if_neg (by omega), if_neg (by omega), if_pos hk]
theorem readP_E {x : Int} {n : ByteArray} (h1 : StepO L bad textQ n L1 b1) (h2 : StepO L1 b1 (numP 4) x L2 b2) :
    StepO L bad (readP 69) { foZero 69 with portal := n, max := signedV x 4 } L2 b2 :=
  (h1.bind (Q := fun n l => (numP 4 l).bind fun b => some ({ foZero 69 with portal := n, max := signedV b.1 4 }, b.2))
    (h2.bind (Q := fun x l => some ({ foZero 69 with portal := n, max := signedV x 4 }, l)) (StepO.ret _))).of_eq
    fun l => by unfold readP; rw [if_neg (by decide), if_neg (by decide), if_neg (by decide), if_pos rfl]
theorem readP_Q {n : ByteArray} (h1 : StepO L bad textQ n L1 b1) : StepO L bad (readP 81) { foZero 81 with text := n } L1 b1 :=
  (h1.bind (Q := fun n l => some ({ foZero 81 with text := n }, l)) (StepO.ret _)).of_eq
    fun l => by unfold readP; rw [if_neg (by decide), if_neg (by decide), if_neg (by decide), if_neg (by decide), if_pos rfl]
theorem readP_other {k : Int} (h1 : k ≠ 80) (h2 : k ≠ 66) (h3 : ¬ (k = 67 ∨ k = 68)) (h4 : k ≠ 69) (h5 : k ≠ 81) : StepO L bad (readP k) (foZero k) L bad :=
  (StepO.ret (foZero k)).of_eq fun l => by unfold readP; rw [if_neg h1, if_neg h2, if_neg h3, if_neg h4, if_neg h5]
end

end Go.Proofs.YtacnmdlefonjmaaGreat

/-
  slices.IndexFunc and ContainsFunc at ints, whatever the function handed in: its contract is a premise.
-/
namespace Go.Proofs.YtacnmdlefonjmaaGreat
open Go.RowKit
set_option linter.unusedVariables false
set_option linter.unusedSimpArgs false

set_option maxRecDepth 100000 in
set_option maxHeartbeats 4000000 in
theorem indexInt2 (K : FuncId) (u v : Value) (P : Int → Bool) (S : Nat → Prop) (p : Option Addr) (n c : Nat) (L : List Int) (w : World) (h : SliceS 1 IntU S w [.slice p n c] L)
    (hE : ∀ (args : Array Value) (w0 : World), (callFunc K args).run Tryz.prog w0 = .ok (.enter K args) w0) (hK : ∀ (x : Int) (w0 : World), Below w.heap.size w w0 →  Calls Tryz.prog K #[.int .i64 x, u, v] w0 fun e w' => e = .returned (.bool (P x)) ∧ Below w0.heap.size w0 w') :
    Calls Tryz.prog 126 #[.slice p n c, .func (.func K) #[] #[u, v]] w fun e w' => ∃ r, e = .returned (.int .i64 r) ∧ IdxG P L r ∧ Below w.heap.size w w' := by
  have H := Lib.hid h
  have HK := Lib.hid hK
  obtain ⟨rfl, hlc, hcm⟩ := h.len
  unfold maxLen at hcm
  clear h hK
  go_enter Tryz.func126, Tryz.ntmps126
  go_wp2_with fail
  go_loopw [5, 8] (fun _ i wr => ∃ k : Nat, k ≤ L.length ∧ i = .int .i64 k ∧ k ≤ aheadG P L ∧ Below w.heap.size w wr) (fun _ i _ => L.length - (intOf i).toNat)
  case atStart => exact ⟨0, Nat.zero_le _, rfl, Nat.zero_le _, Below.refl _ _⟩
  case round =>
    obtain ⟨k, hk, rfl, hka, hb⟩ := hrel
    have hsz := hb.size
    have Hb := Lib.hid hb
    have Hka := Lib.hid hka
    clear hka
    by_cases hlt : k < L.length
    · obtain ⟨b, o, rfl, hS, hbl, c0⟩ := int_at (H.out.below IntU.still hb) hlt
      have Hgo := Lib.hid (aheadG_go P L k hlt)
      have Hat := Lib.hid (aheadG_at P L k hlt)
      clear hb hS
      generalize L[k] = x at *
      have Hc := Lib.hid (HK.out x  wr Hb.out)
      have hlti : (k : Int) < (L.length : Int) := by omega
      go_wp2_with fail
      refine Hc.out.mono ?_
      rintro e w1 ⟨rfl, hb1⟩
      have Hb1 := Lib.hid (Hb.out.trans (hb1.mono hsz))
      clear hb1
      cases hP : P x with
      | false =>
        have Hn := Lib.hid (Hgo.out Hka.out hP)
        clear hP
        go_wp2_with fail
        go_roundw
        case rel => exact ⟨k + 1, by omega, by go_num, Hn.out, Hb1.out⟩
        case measure => simp [intOf]; omega
      | true =>
        have Hn := Lib.hid (Hat.out Hka.out hP)
        clear hP
        go_wp2_with fail
        go_ret
        exact ⟨_, rfl, .inl ⟨by rw [Hn.out], by rw [Hn.out]; exact hlt⟩, Hb1.out⟩
    · obtain rfl : k = L.length := by omega
      have Hn := Lib.hid (Nat.le_antisymm (aheadG_le P L) Hka.out)
      go_wp2
      go_ret
      exact ⟨_, rfl, .inr ⟨rfl, Hn.out⟩, Hb.out⟩

set_option maxRecDepth 100000 in
theorem containsInt2 (K : FuncId) (u v : Value) (P : Int → Bool) (S : Nat → Prop) (p : Option Addr) (n c : Nat) (L : List Int) (w : World) (h : SliceS 1 IntU S w [.slice p n c] L)
    (hE : ∀ (args : Array Value) (w0 : World), (callFunc K args).run Tryz.prog w0 = .ok (.enter K args) w0) (hK : ∀ (x : Int) (w0 : World), Below w.heap.size w w0 →  Calls Tryz.prog K #[.int .i64 x, u, v] w0 fun e w' => e = .returned (.bool (P x)) ∧ Below w0.heap.size w0 w') :
    Calls Tryz.prog 117 #[.slice p n c, .func (.func K) #[] #[u, v]] w fun e w' => e = .returned (.bool (L.any P)) ∧ Below w.heap.size w w' := by
  have H := Lib.hid (indexInt2 K u v P S p n c L w h hE hK)
  clear h hK
  go_enter Tryz.func117, Tryz.ntmps117
  go_wp2_with fail
  refine H.out.mono ?_
  rintro e w1 ⟨r, rfl, hr, hb⟩
  have Hr := Lib.hid hr.any
  have Hb := Lib.hid hb
  clear hb hr
  go_wp2
  go_ret
  exact ⟨ret_bool Hr.out, Hb.out⟩

end Go.Proofs.YtacnmdlefonjmaaGreat

/-
  slices.IndexFunc and ContainsFunc at values, whatever the function handed in: its contract is a premise.
-/
namespace Go.Proofs.YtacnmdlefonjmaaGreat
open Go.RowKit
set_option linter.unusedVariables false
set_option linter.unusedSimpArgs false

set_option maxRecDepth 100000 in
set_option maxHeartbeats 4000000 in
theorem indexCe (K : FuncId) (P : CeV → Bool) (S : Nat → Prop) (p : Option Addr) (n c : Nat) (L : List CeV) (w : World) (h : SliceS 2 CeS S w [.slice p n c] L)
    (hE : ∀ (args : Array Value) (w0 : World), (callFunc K args).run Tryz.prog w0 = .ok (.enter K args) w0) (hK : ∀ (x : CeV) (q : Option Addr) (d : Nat) (w0 : World), Below w.heap.size w w0 →  Calls Tryz.prog K #[.agg #[.bool x.null, .slice q x.bytes.length d]] w0 fun e w' => e = .returned (.bool (P x)) ∧ Below w0.heap.size w0 w') :
    Calls Tryz.prog 84 #[.slice p n c, .func (.func K) #[] #[]] w fun e w' => ∃ r, e = .returned (.int .i64 r) ∧ IdxG P L r ∧ Below w.heap.size w w' := by
  have H := Lib.hid h
  have HK := Lib.hid hK
  obtain ⟨rfl, hlc, hcm⟩ := h.len
  unfold maxLen at hcm
  clear h hK
  go_enter Tryz.func84, Tryz.ntmps84
  go_wp2_with fail
  go_loopw [5, 8] (fun _ i wr => ∃ k : Nat, k ≤ L.length ∧ i = .int .i64 k ∧ k ≤ aheadG P L ∧ Below w.heap.size w wr) (fun _ i _ => L.length - (intOf i).toNat)
  case atStart => exact ⟨0, Nat.zero_le _, rfl, Nat.zero_le _, Below.refl _ _⟩
  case round =>
    obtain ⟨k, hk, rfl, hka, hb⟩ := hrel
    have hsz := hb.size
    have Hb := Lib.hid hb
    have Hka := Lib.hid hka
    clear hka
    by_cases hlt : k < L.length
    · obtain ⟨b, o, q, d, rfl, hS, hbl, c0, c1, hq⟩ := ce_at (H.out.below CeS.still hb) hlt
      have Hgo := Lib.hid (aheadG_go P L k hlt)
      have Hat := Lib.hid (aheadG_at P L k hlt)
      clear hb hS
      generalize L[k] = x at *
      have Hc := Lib.hid (HK.out x q d wr Hb.out)
      have hlti : (k : Int) < (L.length : Int) := by omega
      go_wp2_with fail
      refine Hc.out.mono ?_
      rintro e w1 ⟨rfl, hb1⟩
      have Hb1 := Lib.hid (Hb.out.trans (hb1.mono hsz))
      clear hb1
      cases hP : P x with
      | false =>
        have Hn := Lib.hid (Hgo.out Hka.out hP)
        clear hP
        go_wp2_with fail
        go_roundw
        case rel => exact ⟨k + 1, by omega, by go_num, Hn.out, Hb1.out⟩
        case measure => simp [intOf]; omega
      | true =>
        have Hn := Lib.hid (Hat.out Hka.out hP)
        clear hP
        go_wp2_with fail
        go_ret
        exact ⟨_, rfl, .inl ⟨by rw [Hn.out], by rw [Hn.out]; exact hlt⟩, Hb1.out⟩
    · obtain rfl : k = L.length := by omega
      have Hn := Lib.hid (Nat.le_antisymm (aheadG_le P L) Hka.out)
      go_wp2
      go_ret
      exact ⟨_, rfl, .inr ⟨rfl, Hn.out⟩, Hb.out⟩

set_option maxRecDepth 100000 in
theorem containsCe (K : FuncId) (P : CeV → Bool) (S : Nat → Prop) (p : Option Addr) (n c : Nat) (L : List CeV) (w : World) (h : SliceS 2 CeS S w [.slice p n c] L)
    (hE : ∀ (args : Array Value) (w0 : World), (callFunc K args).run Tryz.prog w0 = .ok (.enter K args) w0) (hK : ∀ (x : CeV) (q : Option Addr) (d : Nat) (w0 : World), Below w.heap.size w w0 →  Calls Tryz.prog K #[.agg #[.bool x.null, .slice q x.bytes.length d]] w0 fun e w' => e = .returned (.bool (P x)) ∧ Below w0.heap.size w0 w') :
    Calls Tryz.prog 64 #[.slice p n c, .func (.func K) #[] #[]] w fun e w' => e = .returned (.bool (L.any P)) ∧ Below w.heap.size w w' := by
  have H := Lib.hid (indexCe K P S p n c L w h hE hK)
  clear h hK
  go_enter Tryz.func64, Tryz.ntmps64
  go_wp2_with fail
  refine H.out.mono ?_
  rintro e w1 ⟨r, rfl, hr, hb⟩
  have Hr := Lib.hid hr.any
  have Hb := Lib.hid hb
  clear hb hr
  go_wp2
  go_ret
  exact ⟨ret_bool Hr.out, Hb.out⟩

end Go.Proofs.YtacnmdlefonjmaaGreat

/-
  slices.IndexFunc and ContainsFunc at texts, whatever the function handed in: its contract is a premise.
-/
namespace Go.Proofs.YtacnmdlefonjmaaGreat
open Go.RowKit
set_option linter.unusedVariables false
set_option linter.unusedSimpArgs false

/-- A text, whatever its size. -/
def StrU : Rd ByteArray := fun _ _ cs s => cs = [.string s]
theorem StrU.still : Still StrU := fun _ _ _ _ _ _ h _ => h
theorem str_at {S : Nat → Prop} {w : World} {p : Option Addr} {n c k : Nat} {xs : List ByteArray} (h : SliceS 1 StrU S w [.slice p n c] xs) (hk : k < xs.length) :
    ∃ b o, p = some ⟨b, o, none⟩ ∧ S b ∧ b < w.heap.size ∧ w.cell? ⟨b, o + k, none⟩ = some (.string xs[k]) := by
  obtain ⟨b, o, cs, rfl, hS, hb, _, hc, rfl⟩ := h.elem (by omega) k xs[k] (List.getElem?_eq_getElem hk)
  have c0 := hc 0 _ rfl
  rw [Nat.add_zero, Nat.mul_one] at c0
  exact ⟨b, o, rfl, hS, hb, c0⟩

set_option maxRecDepth 100000 in
set_option maxHeartbeats 4000000 in
theorem indexStr (K : FuncId) (P : ByteArray → Bool) (S : Nat → Prop) (p : Option Addr) (n c : Nat) (L : List ByteArray) (w : World) (h : SliceS 1 StrU S w [.slice p n c] L)
    (hE : ∀ (args : Array Value) (w0 : World), (callFunc K args).run Tryz.prog w0 = .ok (.enter K args) w0) (hK : ∀ (x : ByteArray) (w0 : World), Below w.heap.size w w0 →  Calls Tryz.prog K #[.string x] w0 fun e w' => e = .returned (.bool (P x)) ∧ Below w0.heap.size w0 w') :
    Calls Tryz.prog 127 #[.slice p n c, .func (.func K) #[] #[]] w fun e w' => ∃ r, e = .returned (.int .i64 r) ∧ IdxG P L r ∧ Below w.heap.size w w' := by
  have H := Lib.hid h
  have HK := Lib.hid hK
  obtain ⟨rfl, hlc, hcm⟩ := h.len
  unfold maxLen at hcm
  clear h hK
  go_enter Tryz.func127, Tryz.ntmps127
  go_wp2_with fail
  go_loopw [5, 8] (fun _ i wr => ∃ k : Nat, k ≤ L.length ∧ i = .int .i64 k ∧ k ≤ aheadG P L ∧ Below w.heap.size w wr) (fun _ i _ => L.length - (intOf i).toNat)
  case atStart => exact ⟨0, Nat.zero_le _, rfl, Nat.zero_le _, Below.refl _ _⟩
  case round =>
    obtain ⟨k, hk, rfl, hka, hb⟩ := hrel
    have hsz := hb.size
    have Hb := Lib.hid hb
    have Hka := Lib.hid hka
    clear hka
    by_cases hlt : k < L.length
    · obtain ⟨b, o, rfl, hS, hbl, c0⟩ := str_at (H.out.below StrU.still hb) hlt
      have Hgo := Lib.hid (aheadG_go P L k hlt)
      have Hat := Lib.hid (aheadG_at P L k hlt)
      clear hb hS
      generalize L[k] = x at *
      have Hc := Lib.hid (HK.out x  wr Hb.out)
      have hlti : (k : Int) < (L.length : Int) := by omega
      go_wp2_with fail
      refine Hc.out.mono ?_
      rintro e w1 ⟨rfl, hb1⟩
      have Hb1 := Lib.hid (Hb.out.trans (hb1.mono hsz))
      clear hb1
      cases hP : P x with
      | false =>
        have Hn := Lib.hid (Hgo.out Hka.out hP)
        clear hP
        go_wp2_with fail
        go_roundw
        case rel => exact ⟨k + 1, by omega, by go_num, Hn.out, Hb1.out⟩
        case measure => simp [intOf]; omega
      | true =>
        have Hn := Lib.hid (Hat.out Hka.out hP)
        clear hP
        go_wp2_with fail
        go_ret
        exact ⟨_, rfl, .inl ⟨by rw [Hn.out], by rw [Hn.out]; exact hlt⟩, Hb1.out⟩
    · obtain rfl : k = L.length := by omega
      have Hn := Lib.hid (Nat.le_antisymm (aheadG_le P L) Hka.out)
      go_wp2
      go_ret
      exact ⟨_, rfl, .inr ⟨rfl, Hn.out⟩, Hb.out⟩

set_option maxRecDepth 100000 in
theorem containsStr (K : FuncId) (P : ByteArray → Bool) (S : Nat → Prop) (p : Option Addr) (n c : Nat) (L : List ByteArray) (w : World) (h : SliceS 1 StrU S w [.slice p n c] L)
    (hE : ∀ (args : Array Value) (w0 : World), (callFunc K args).run Tryz.prog w0 = .ok (.enter K args) w0) (hK : ∀ (x : ByteArray) (w0 : World), Below w.heap.size w w0 →  Calls Tryz.prog K #[.string x] w0 fun e w' => e = .returned (.bool (P x)) ∧ Below w0.heap.size w0 w') :
    Calls Tryz.prog 120 #[.slice p n c, .func (.func K) #[] #[]] w fun e w' => e = .returned (.bool (L.any P)) ∧ Below w.heap.size w w' := by
  have H := Lib.hid (indexStr K P S p n c L w h hE hK)
  clear h hK
  go_enter Tryz.func120, Tryz.ntmps120
  go_wp2_with fail
  refine H.out.mono ?_
  rintro e w1 ⟨r, rfl, hr, hb⟩
  have Hr := Lib.hid hr.any
  have Hb := Lib.hid hb
  clear hb hr
  go_wp2
  go_ret
  exact ⟨ret_bool Hr.out, Hb.out⟩

end Go.Proofs.YtacnmdlefonjmaaGreat

