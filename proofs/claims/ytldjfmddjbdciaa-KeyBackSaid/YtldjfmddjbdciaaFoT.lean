/-
  Messages of clients (layer 6): values that are read: the program's and the document's.
-/
import Derived.Test.YtldjfmddjbdciaaFoS
namespace Go.Proofs.Ytldjfmddjbdciaa
open Go.RowKit
set_option linter.unusedVariables false
set_option linter.unusedSimpArgs false

abbrev OwnC (B : Nat) (w : World) (v : Value) (xs : List CeV) : Prop := OwnS B 71 2 CeS (fun k => B ≤ k) w v xs
theorem Try.info71 : (Try.prog.info? 71).map (fun i => (i.zero, i.size, i.bytes)) = some (some (.agg #[.bool false, .slice none 0 0]), 2, 32) := by kernel_rfl
theorem info_ce : ∃ i z, Try.prog.info? 71 = some i ∧ i.zero = some z ∧ i.size = 2 ∧ i.bytes = 32 ∧ z.cells.size = 2 := by
  obtain ⟨i0, hi, hz0, hz1, hz2⟩ := info_parts Try.info71
  exact ⟨i0, _, hi, hz0, hz1, hz2, rfl⟩

/-- A value behind values. -/
theorem step_appendC {ops : Array Oper} {rest : List Oper} {o : Oper} {a : Act} {Q : Exit → Act → World → Prop} (w : World) (hgd : o.guard = none) (s y : Operand)
    (ho : o.op = .call { callee := .builtin .append, args := #[s, y], argTypes := #[42, 42] })
    (B : Nat) (v : Value) (xs : List CeV) (hsv : a.eval s = v) (hown : OwnC B w v xs) (p : Option Addr) (n c : Nat) (ys : List CeV) (hx : a.eval y = .slice p n c) (hs : SliceS 2 CeS (fun k => B ≤ k ∧ rowOf v ≠ some k) w [.slice p n c] ys)
    (hroom : xs.length + ys.length ≤ 1000000) (hbase : B ≤ w.heap.size)
    (h : ∀ v' w', OwnC B w' v' (xs ++ ys) → w.grownBy w' (rowOf v) → (∀ k, rowOf v' = some k → rowOf v = some k ∨ w.heap.size ≤ k) → wpList Try.prog ops Q rest (a.put o.dst v') w') : wpList Try.prog ops Q (o :: rest) a w :=
  wpList_append_S w hgd s y 42 42 ho B 71 71 2 32 Try.underlying42 Try.underlying42 info_ce CeS CeS.still CeS.one (fun k => B ≤ k) v xs hsv hown p n c ys hx hs
    (by omega) (by simp only [maxLen]; omega) hbase h

structure CeI (R : Option (List CeV × List UInt8)) (l1 : Nat) (bad1 : Bool) (m : Nat) (T : List UInt8) (b : Bool) (xs : List CeV) : Prop where
  good : b = false → bad1 = false ∧ R = (cellsP m T).map (fun q => (xs ++ q.1, q.2))
  bad : b = true → bad1 = true ∨ R = none
  len : T.length + xs.length ≤ l1 + (if b = true then 1 else 0)
theorem numP4 (L : List UInt8) : numP 4 L = if numOk L false 4 = true then some (numV L false 4, L.drop 4) else none := rfl
section
variable {R : Option (List CeV × List UInt8)} {l1 : Nat} {bad1 : Bool} {m : Nat} {T T1 T2 : List UInt8} {xs : List CeV}
theorem CeI.null (h : CeI R l1 bad1 (m + 1) T false xs) (hok : numOk T false 4 = true) (hn : numV T false 4 = 4294967295) : CeI R l1 bad1 m (T.drop 4) false (xs ++ [⟨true, []⟩]) := by
  obtain ⟨h1, h2⟩ := h.good rfl
  have hl := h.len
  simp only [Bool.false_eq_true, if_false, Nat.add_zero] at hl
  have : 4 ≤ T.length := by unfold numOk at hok; simp at hok; omega
  refine ⟨fun _ => ⟨h1, ?_⟩, (fun e => by cases e), by simp; omega⟩
  rw [h2, cellsP, cellP, numP4, if_pos hok]
  simp only [Option.bind_some]
  rw [if_pos hn]
  simp only [Option.bind_some]
  cases cellsP m (T.drop 4) with
  | none => rfl
  | some q => simp
theorem CeI.take (h : CeI R l1 bad1 (m + 1) T false xs) (hn : numV T false 4 ≠ 4294967295) (hT1 : numOk T false 4 = true → T1 = T.drop 4) (hl1 : T1.length ≤ T.length) (hT2 : takeOk T1 (!numOk T false 4) (numV T false 4) = true → T2 = T1.drop (numV T false 4).toNat) (hl2 : T2.length ≤ T1.length) :
    CeI R l1 bad1 m T2 (!takeOk T1 (!numOk T false 4) (numV T false 4)) (xs ++ [⟨false, takeV T1 (!numOk T false 4) (numV T false 4)⟩]) := by
  obtain ⟨h1, h2⟩ := h.good rfl
  have hl := h.len
  simp only [Bool.false_eq_true, if_false, Nat.add_zero] at hl
  cases hok : numOk T false 4 with
  | false =>
    have hto : takeOk T1 (!false) (numV T false 4) = false := by unfold takeOk; simp
    rw [hto]
    refine ⟨(fun e => by cases e), fun _ => .inr ?_, by simp; omega⟩
    rw [h2, cellsP, cellP, numP4, if_neg (by rw [hok]; decide)]
    rfl
  | true =>
    have hT1' := hT1 hok
    have h4 : 4 ≤ T.length := by unfold numOk at hok; simp at hok; omega
    have hl4 : T1.length + 4 ≤ T.length := by rw [hT1', List.length_drop]; omega
    rw [hok] at hT2
    simp only [Bool.not_true] at hT2 ⊢
    cases hto : takeOk T1 false (numV T false 4) with
    | true =>
      have hT2' := hT2 hto
      refine ⟨fun _ => ⟨h1, ?_⟩, (fun e => by cases e), by simp; omega⟩
      rw [h2, cellsP, cellP, numP4, if_pos hok]
      simp only [Option.bind_some]
      rw [if_neg hn, ← hT1', takeP, if_pos hto]
      simp only [Option.bind_some]
      rw [← hT2']
      cases cellsP m T2 with
      | none => rfl
      | some q => simp
    | false =>
      refine ⟨(fun e => by cases e), fun _ => .inr ?_, by simp; omega⟩
      rw [h2, cellsP, cellP, numP4, if_pos hok]
      simp only [Option.bind_some]
      rw [if_neg hn, ← hT1', takeP, if_neg (by rw [hto]; decide)]
      rfl
end
theorem CeI.fin {L L1 : List UInt8} {bad : Bool} {l1 : Nat} {n : Nat} {m : Nat} {T : List UInt8} {b : Bool} {xs : List CeV}
    (h : CeI (cellsP n L1) l1 (!numOk L bad 2) m T b xs) (hn : numV L bad 2 = n) (hL1 : numOk L bad 2 = true → L1 = L.drop 2) (hm : m = 0 ∨ b = true) (hT : T.length ≤ L.length) : StepO L bad rowQ xs T b := by
  refine ⟨fun hb => ?_, fun hb => ?_, hT⟩
  · subst hb
    obtain ⟨h1, h2⟩ := h.good rfl
    have hok : numOk L bad 2 = true := by simpa using h1
    have hbf : bad = false := by unfold numOk at hok; simp at hok; exact hok.1.1
    subst hbf
    rcases hm with rfl | hb
    · refine ⟨rfl, ?_⟩
      unfold rowQ
      rw [numP2, if_pos hok]
      simp only [Option.bind_some]
      rw [hn, Int.toNat_natCast, ← hL1 hok, h2]
      simp [cellsP]
    · cases hb
  · rcases h.bad hb with h1 | h1
    · cases bad with
      | true => exact .inl rfl
      | false =>
        right
        have hok : numOk L false 2 = false := by simpa using h1
        unfold rowQ
        rw [numP2, if_neg (by rw [hok]; decide)]
        rfl
    · cases bad with
      | true => exact .inl rfl
      | false =>
        right
        unfold rowQ
        rw [numP2]
        by_cases hok : numOk L false 2 = true
        · rw [if_pos hok]
          simp only [Option.bind_some]
          rw [hn, Int.toNat_natCast, ← hL1 hok]
          exact h1
        · rw [if_neg hok]
          rfl
theorem nx_drop (ok : Bool) (T E : List UInt8) (k : Nat) (hE : E = [] ∨ E = T) : (ok = true → nx ok (T.drop k) E = T.drop k) ∧ (nx ok (T.drop k) E).length ≤ T.length ∧ (nx ok (T.drop k) E ≠ [] → T ≠ []) := by
  cases ok with
  | true =>
    refine ⟨fun _ => rfl, by unfold nx; simp, ?_⟩
    intro h e
    subst e
    exact h (by unfold nx; simp)
  | false =>
    refine ⟨(fun e => by cases e), ?_, ?_⟩
    · rcases hE with rfl | rfl <;> simp [nx]
    · intro h e
      subst e
      rcases hE with rfl | rfl <;> exact h rfl
theorem num16 (L : List UInt8) (bad : Bool) : ∃ nn : Nat, numV L bad 2 = (nn : Int) ∧ nn ≤ 65536 := by
  unfold numV
  split
  · have hb := be_bd (L.take (2 : Int).toNat)
    have hl : (L.take (2 : Int).toNat).length ≤ 2 := by rw [List.length_take]; exact Nat.min_le_left _ _
    obtain ⟨q, hq⟩ := Int.eq_ofNat_of_zero_le hb.1
    have h2 : be (L.take (2 : Int).toNat) < 65536 := by
      have h3 : (256 : Int) ^ (L.take (2 : Int).toNat).length ≤ 65536 := by
        generalize (L.take (2 : Int).toNat).length = q at hl
        have : q = 0 ∨ q = 1 ∨ q = 2 := by omega
        rcases this with rfl | rfl | rfl <;> decide
      omega
    exact ⟨q, hq, by omega⟩
  · exact ⟨0, rfl, by omega⟩

/-- What is read of values. -/
def frowR (sb g : Nat) (L : List UInt8) (bad : Bool) (w : World) (e : Ending) (w' : World) : Prop :=
  ∃ v xs L' bad', e = .returned v ∧ OwnC w.heap.size w' v xs ∧ ScanO w' sb g L' bad' ∧ StepO L bad rowQ xs L' bad' ∧ Touch (fun i => i = sb) w w'

set_option maxRecDepth 100000 in
set_option maxHeartbeats 4000000 in
theorem frow_any (sb g : Nat) (L : List UInt8) (bad : Bool) (w : World) (h : ScanO w sb g L bad) (hL : L.length ≤ 100000) :
    Calls Try.prog 92 #[.agg #[.pointer (some ⟨sb, 0, none⟩)]] w (frowR sb g L bad w) := by
  have hsb := h.lt
  have Hg := Lib.hid (fun e : L ≠ [] => h.ltg e)
  have hal : Below w.heap.size w (w.alloc (.cells #[.pointer (some ⟨sb, 0, none⟩)] 94)) := (Below.refl _ _).alloc (Nat.le_refl _) _
  have HA := Lib.hid hal
  have H0 := Lib.hid (h.touch (Touch.of_below (p := fun _ => False) hal) (fun e => e) (fun _ e => e))
  have Hk := Lib.hid (Blk.new w 94 #[.pointer (some ⟨sb, 0, none⟩)])
  have hz1 : w.heap.size ≤ (w.alloc (.cells #[.pointer (some ⟨sb, 0, none⟩)] 94)).heap.size := by simp
  have hk1 := Hk.out.lt
  clear h hal
  go_enter Try.func92, Try.ntmps92
  go_upto_region 1 with (fail)
  generalize w.alloc (.cells #[.pointer (some ⟨sb, 0, none⟩)] 94) = w1 at *
  have hc1 := Hk.out.cell
  have Hn := Lib.hid (scanNum_any sb g L bad 2 w1 H0.out)
  obtain ⟨nn, hnn, hnb⟩ := num16 L bad
  rw [hnn] at Hn
  have HNN := Lib.hid hnn
  have hL1 := nx_drop (numOk L bad 2) L [] 2 (.inl rfl)
  obtain ⟨L1, hL1e⟩ : ∃ L1, nx (numOk L bad 2) (L.drop (2 : Int).toNat) [] = L1 := ⟨_, rfl⟩
  rw [hL1e] at Hn
  rw [show nx (numOk L bad 2) (L.drop 2) [] = L1 from hL1e] at hL1
  have HL1 := Lib.hid hL1
  clear hnn hL1 hL1e
  go_wp2_with fail
  refine Hn.out.mono ?_
  rintro e w2 ⟨rfl, hs2, hT2⟩
  have hz2 := hT2.size
  have HS2 := Lib.hid hs2
  have HT2 := Lib.hid hT2
  clear hs2 Hn
  have Hk2 := Lib.hid (hT2.blk Hk.out (by omega))
  clear hT2 hc1
  go_wp2_with fail
  go_loopw [3, 4] (fun v i wr => ∃ (m : Nat) (T : List UInt8) (b : Bool) (xs : List CeV), m ≤ 65536 ∧ i = .int .i64 (m : Int) ∧ CeI (cellsP nn L1) L1.length (!numOk L bad 2) m T b xs ∧ (T ≠ [] → L ≠ []) ∧ T.length ≤ L1.length ∧ OwnC w1.heap.size wr v xs ∧ ScanO wr sb g T b ∧ Touch (fun i => i = sb) w1 wr ∧ Blk wr w.heap.size 94 #[.pointer (some ⟨sb, 0, none⟩)]) (fun _ i _ => (intOf i).toNat)
  case atStart => exact ⟨nn, L1, !numOk L bad 2, [], hnb, rfl, ⟨fun e => ⟨e, by cases cellsP nn L1 <;> simp⟩, fun e => .inl e, by simp⟩, HL1.out.2.2, Nat.le_refl _, OwnS.empty _, HS2.out, HT2.out, Hk2.out⟩
  case round =>
    obtain ⟨m, T, b, xs, hm6, rfl, hI, hTL, hTl, ho, hs, hT, hk⟩ := hrel
    have hzr := hT.size
    have HI := Lib.hid hI
    have HTL := Lib.hid hTL
    have Ho := Lib.hid ho
    have HS := Lib.hid hs
    have HT := Lib.hid hT
    have Hrow := Lib.hid ho.row
    have hxl := hI.len
    have hxl2 : xs.length ≤ 100002 := by have := HL1.out.2.1; split at hxl <;> omega
    have hTc : T.length ≤ 100000 := by have := HL1.out.2.1; omega
    have Hfin := Lib.hid (fun hm : m = 0 ∨ b = true => hI.fin HNN.out (fun e => HL1.out.1 e) hm (by have := HL1.out.2.1; omega))
    have Hkr := Lib.hid hk
    have hcr := hk.cell
    clear hI hTL ho hs hT hxl hk
    cases m with
    | zero =>
      have Hst := Lib.hid (Hfin.out (.inl rfl))
      go_wp2_with fail
      go_ret
      exact ⟨_, xs, T, b, rfl, ((Ho.out.base hz1).touch (S' := fun k => w.heap.size ≤ k) CeS.still (Touch.refl (fun _ => False) _) (fun _ _ e => e) (fun k _ hk _ => ⟨by have hk' : w1.heap.size ≤ k := hk; omega, fun e => e⟩)), HS.out, Hst.out, (Touch.of_below (p := fun i => i = sb) HA.out).trans HT.out⟩
    | succ m =>
      obtain ⟨mi, hmi⟩ : ∃ mi : Int, ((m + 1 : Nat) : Int) = mi := ⟨_, rfl⟩
      rw [hmi]
      have hpos : 0 < mi := by omega
      have hwm : IntKind.i64.wrap (mi - 1) = (m : Int) := by rw [IntKind.wrap_i64]; omega
      have Hmi := Lib.hid hmi
      clear hmi
      have HBd := Lib.hid (scanBad_any sb g T b wr HS.out)
      cases b with
      | true =>
        have Hst := Lib.hid (Hfin.out (.inr rfl))
        go_wp2_with fail
        refine HBd.out.mono ?_
        rintro e w3 ⟨rfl, rfl⟩
        go_wp2_with fail
        go_ret
        exact ⟨_, xs, T, true, rfl, ((Ho.out.base hz1).touch (S' := fun k => w.heap.size ≤ k) CeS.still (Touch.refl (fun _ => False) _) (fun _ _ e => e) (fun k _ hk _ => ⟨by have hk' : w1.heap.size ≤ k := hk; omega, fun e => e⟩)), HS.out, Hst.out, (Touch.of_below (p := fun i => i = sb) HA.out).trans HT.out⟩
      | false =>
        go_wp2_with fail
        refine HBd.out.mono ?_
        rintro e w3 ⟨rfl, rfl⟩
        have HN := Lib.hid (scanNum_any sb g T false 4 wr HS.out)
        go_wp2_with fail
        refine HN.out.mono ?_
        rintro e w4 ⟨rfl, hs4, hT4⟩
        have hz4 := hT4.size
        have hT1 := nx_drop (numOk T false 4) T [] 4 (.inl rfl)
        obtain ⟨T1, hT1e⟩ : ∃ T1, nx (numOk T false 4) (T.drop (4 : Int).toNat) [] = T1 := ⟨_, rfl⟩
        rw [hT1e] at hs4
        rw [show nx (numOk T false 4) (T.drop 4) [] = T1 from hT1e] at hT1
        have Ho4 := Ho.out.touch (S' := fun k => w1.heap.size ≤ k) CeS.still hT4 (fun k hk => by have := (Hrow.out k hk).1; omega) (fun k _ hk _ => ⟨hk, fun e => by omega⟩)
        have HO4 := Lib.hid Ho4
        have HT4 := Lib.hid (HT.out.trans hT4)
        have hxr : xs.length + 1 ≤ 1000000 := by omega
        have HS4 := Lib.hid hs4
        have HT1 := Lib.hid hT1
        have Hk4 := Lib.hid (hT4.blk Hkr.out (by omega))
        have hc4 := Hk4.out.cell
        clear hs4 hT4 hT1 hT1e Ho4 hcr
        by_cases hnull : numV T false 4 = 4294967295
        · have hok : numOk T false 4 = true := by
            cases e : numOk T false 4 with
            | true => rfl
            | false =>
              unfold numV at hnull
              rw [if_neg (by rw [e]; decide)] at hnull
              cases hnull
          have HI5 := Lib.hid (HI.out.null hok hnull)
          have hd := HT1.out.1 hok
          have HTL5 : Hid (T1 ≠ [] → L ≠ []) := Lib.hid (fun e => HTL.out (HT1.out.2.2 e))
          have hTl5 : T1.length ≤ L1.length := by have := HT1.out.2.1; omega
          rw [hok] at HS4
          have HI6 : Hid (CeI (cellsP nn L1) L1.length (!numOk L bad 2) m T1 false (xs ++ [⟨true, []⟩])) := Lib.hid (by
            have hh := HI5.out
            have e4 : T.drop 4 = T1 := hd.symm
            rw [e4] at hh
            exact hh)
          have hal : Below w4.heap.size w4 (w4.alloc (.cells #[.bool true, .slice none 0 0] 71)) := (Below.refl _ _).alloc (Nat.le_refl _) _
          have Ho5 := Lib.hid (HO4.out.below' CeS.still hal)
          have Hnw := Lib.hid (SliceS.new1 (S := fun k => w1.heap.size ≤ k ∧ rowOf u3 ≠ some k) (S' := fun k => w1.heap.size ≤ k ∧ rowOf u3 ≠ some k) CeS.still w4 71 #[.bool true, .slice none 0 0] ⟨true, []⟩ ⟨none, 0, rfl, none, 0, rfl, Nat.le_refl _, by simp [maxLen], BytesIn.nil _ _, fun h => absurd rfl h⟩ rfl (fun k _ h => h) ⟨by omega, fun e => by have := (Hrow.out _ e).2; omega⟩)
          have HAl := Lib.hid hal
          have hwz : w1.heap.size ≤ (w4.alloc (.cells #[.bool true, .slice none 0 0] 71)).heap.size := by rw [World.size_alloc]; omega
          rw [hnull]
          clear hal hnull hok hd HI5
          go_wp2_with (at_builtin; refine step_appendC _ rfl (.tmp 24) (.tmp 26) rfl w1.heap.size u3 xs rfl Ho5.out (some ⟨w4.heap.size, 0, none⟩) 1 1 [⟨true, []⟩] rfl Hnw.out (by simpa using hxr) hwz ?_; intro v5 w5 ho5 hg5 hn5; have Ho6 := Lib.hid ho5; have HT6 := Lib.hid ((HT4.out.trans (Touch.of_below HAl.out)).then (Touch.of_row hg5) (fun i hi e => by have := (Hrow.out i e.symm).1; omega)); have HS6 := Lib.hid ((HS4.out.touch (Touch.of_below (p := fun _ => False) HAl.out) (fun e => e) (fun _ e => e)).touch (Touch.of_row hg5) (fun e => by have := (Hrow.out _ e.symm).1; omega) (fun hne e => by have := (Hrow.out _ e.symm).1; have := Hg.out (HTL5.out hne); omega)); have Hk6 := Lib.hid ((Hk4.out.alloc _).grown hg5 (fun e => by have := (Hrow.out _ e.symm).1; omega)); clear ho5 hg5 hn5)
          go_roundw
          case rel => exact ⟨m, T1, false, xs ++ [⟨true, []⟩], by omega, by first | rfl | trivial, HI6.out, HTL5.out, hTl5, Ho6.out, HS6.out, HT6.out, Hk6.out⟩
          case measure => have := Hmi.out; simp [intOf]; omega
        · have hnb2 : (numV T false 4 == 4294967295) = false := by simpa using hnull
          have Hnull := Lib.hid hnull
          have Htk := Lib.hid (scanTake_any sb g T1 (!numOk T false 4) (numV T false 4) w4 HS4.out (by have := HT1.out.2.1; omega))
          have hT2 := nx_drop (takeOk T1 (!numOk T false 4) (numV T false 4)) T1 [] (numV T false 4).toNat (.inl rfl)
          obtain ⟨T2, hT2e⟩ : ∃ T2, nx (takeOk T1 (!numOk T false 4) (numV T false 4)) (T1.drop (numV T false 4).toNat) [] = T2 := ⟨_, rfl⟩
          rw [hT2e] at hT2 Htk
          have HI6 := Lib.hid (HI.out.take Hnull.out (fun e => HT1.out.1 e) HT1.out.2.1 (fun e => hT2.1 e) hT2.2.1)
          have HTL5 : Hid (T2 ≠ [] → L ≠ []) := Lib.hid (fun e => HTL.out (HT1.out.2.2 (hT2.2.2 e)))
          have hTl5 : T2.length ≤ L1.length := by have := HT1.out.2.1; have := hT2.2.1; omega
          obtain ⟨b2, hb2⟩ : ∃ b2, (!takeOk T1 (!numOk T false 4) (numV T false 4)) = b2 := ⟨_, rfl⟩
          obtain ⟨tv, htv⟩ : ∃ tv, takeV T1 (!numOk T false 4) (numV T false 4) = tv := ⟨_, rfl⟩
          rw [hb2, htv] at Htk HI6
          generalize numV T false 4 = nv at *
          clear hT2 hT2e hb2 htv hnull
          go_wp2_with fail
          refine Htk.out.mono ?_
          rintro e w6 ⟨v6, rfl, ho6, hs6, hT6⟩
          have hz6 := hT6.size
          obtain ⟨p6, c6, hv6, hby⟩ := ho6.bytesS (S := fun k => w1.heap.size ≤ k ∧ rowOf u3 ≠ some k) (fun k hk => ⟨by omega, fun e => by have := (Hrow.out _ e).2; omega⟩)
          subst hv6
          have HO6 := Lib.hid (HO4.out.touch (S' := fun k => w1.heap.size ≤ k) CeS.still hT6 (fun k hk => by have := (Hrow.out k hk).1; omega) (fun k _ hk _ => ⟨hk, fun e => by omega⟩))
          have hal : Below w6.heap.size w6 (w6.alloc (.cells #[.bool false, .slice p6 tv.length c6] 71)) := (Below.refl _ _).alloc (Nat.le_refl _) _
          have Ho7 := Lib.hid (HO6.out.below' CeS.still hal)
          have Hnw := Lib.hid (SliceS.new1 (S := fun k => w1.heap.size ≤ k ∧ rowOf u3 ≠ some k) (S' := fun k => w1.heap.size ≤ k ∧ rowOf u3 ≠ some k) CeS.still w6 71 #[.bool false, .slice p6 tv.length c6] ⟨false, tv⟩ ⟨p6, c6, rfl, hby⟩ rfl (fun k _ h => h) ⟨by omega, fun e => by have := (Hrow.out _ e).2; omega⟩)
          have HAl := Lib.hid hal
          have HS7 := Lib.hid hs6
          have HT7 := Lib.hid (HT4.out.trans hT6)
          have hwz : w1.heap.size ≤ (w6.alloc (.cells #[.bool false, .slice p6 tv.length c6] 71)).heap.size := by rw [World.size_alloc]; omega
          have Hk7 := Lib.hid (hT6.blk Hk4.out (by omega))
          clear hal hs6 hT6 ho6 hby hc4
          generalize tv.length = ntv at *
          go_wp2_with (at_builtin; refine step_appendC _ rfl (.tmp 28) (.tmp 34) rfl w1.heap.size u3 xs rfl Ho7.out (some ⟨w6.heap.size, 0, none⟩) 1 1 [⟨false, tv⟩] rfl Hnw.out (by simpa using hxr) hwz ?_; intro v8 w8 ho8 hg8 hn8; have Ho9 := Lib.hid ho8; have HT9 := Lib.hid ((HT7.out.trans (Touch.of_below HAl.out)).then (Touch.of_row hg8) (fun i hi e => by have := (Hrow.out i e.symm).1; omega)); have HS9 := Lib.hid ((HS7.out.touch (Touch.of_below (p := fun _ => False) HAl.out) (fun e => e) (fun _ e => e)).touch (Touch.of_row hg8) (fun e => by have := (Hrow.out _ e.symm).1; omega) (fun hne e => by have := (Hrow.out _ e.symm).1; have := Hg.out (HTL5.out hne); omega)); have Hk9 := Lib.hid ((Hk7.out.alloc _).grown hg8 (fun e => by have := (Hrow.out _ e.symm).1; omega)); clear ho8 hg8 hn8)
          go_roundw
          case rel => exact ⟨m, T2, b2, xs ++ [⟨false, tv⟩], by omega, by first | rfl | trivial, HI6.out, HTL5.out, hTl5, Ho9.out, HS9.out, HT9.out, Hk9.out⟩
          case measure => have := Hmi.out; simp [intOf]; omega

/-- What is read of values. -/
def frrowR (sb g : Nat) (L : List UInt8) (bad : Bool) (w : World) (e : Ending) (w' : World) : Prop :=
  ∃ v xs L' bad', e = .returned v ∧ OwnC w.heap.size w' v xs ∧ RefS w' sb g L' bad' ∧ StepO L bad rowQ xs L' bad' ∧ Touch (fun i => i = sb) w w'

set_option maxRecDepth 100000 in
set_option maxHeartbeats 4000000 in
theorem frrow_any (sb g : Nat) (L : List UInt8) (bad : Bool) (w : World) (h : RefS w sb g L bad) (hL : L.length ≤ 100000) :
    Calls Try.prog 98 #[.pointer (some ⟨sb, 0, none⟩)] w (frrowR sb g L bad w) := by
  have hsb := h.lt
  have Hg := Lib.hid (fun e : L ≠ [] => h.ltgF e)
  have H0 := Lib.hid h
  have HA := Lib.hid (Below.refl w.heap.size w)
  have hz1 : w.heap.size ≤ w.heap.size := Nat.le_refl _
  clear h
  go_enter Try.func98, Try.ntmps98
  go_upto_region 1 with (fail)
  have Hn := Lib.hid (refSNum_any sb g L bad 2 w H0.out)
  obtain ⟨nn, hnn, hnb⟩ := num16 L bad
  rw [hnn] at Hn
  have HNN := Lib.hid hnn
  have hL1 := nx_drop (numOk L bad 2) L L 2 (.inr rfl)
  obtain ⟨L1, hL1e⟩ : ∃ L1, nx (numOk L bad 2) (L.drop (2 : Int).toNat) L = L1 := ⟨_, rfl⟩
  rw [hL1e] at Hn
  rw [show nx (numOk L bad 2) (L.drop 2) L = L1 from hL1e] at hL1
  have HL1 := Lib.hid hL1
  clear hnn hL1 hL1e
  go_wp2_with fail
  refine Hn.out.mono ?_
  rintro e w2 ⟨rfl, hs2, hT2⟩
  have hz2 := hT2.size
  have HS2 := Lib.hid hs2
  have HT2 := Lib.hid hT2
  clear hs2 Hn
  clear hT2
  go_wp2_with fail
  go_loopw [3, 4] (fun v i wr => ∃ (m : Nat) (T : List UInt8) (b : Bool) (xs : List CeV), m ≤ 65536 ∧ i = .int .i64 (m : Int) ∧ CeI (cellsP nn L1) L1.length (!numOk L bad 2) m T b xs ∧ (T ≠ [] → L ≠ []) ∧ T.length ≤ L1.length ∧ OwnC w.heap.size wr v xs ∧ RefS wr sb g T b ∧ Touch (fun i => i = sb) w wr) (fun _ i _ => (intOf i).toNat)
  case atStart => exact ⟨nn, L1, !numOk L bad 2, [], hnb, rfl, ⟨fun e => ⟨e, by cases cellsP nn L1 <;> simp⟩, fun e => .inl e, by simp⟩, HL1.out.2.2, Nat.le_refl _, OwnS.empty _, HS2.out, HT2.out⟩
  case round =>
    obtain ⟨m, T, b, xs, hm6, rfl, hI, hTL, hTl, ho, hs, hT⟩ := hrel
    have hzr := hT.size
    have HI := Lib.hid hI
    have HTL := Lib.hid hTL
    have Ho := Lib.hid ho
    have HS := Lib.hid hs
    have HT := Lib.hid hT
    have Hrow := Lib.hid ho.row
    have hxl := hI.len
    have hxl2 : xs.length ≤ 100002 := by have := HL1.out.2.1; split at hxl <;> omega
    have hTc : T.length ≤ 100000 := by have := HL1.out.2.1; omega
    have Hfin := Lib.hid (fun hm : m = 0 ∨ b = true => hI.fin HNN.out (fun e => HL1.out.1 e) hm (by have := HL1.out.2.1; omega))
    obtain ⟨pq, cq, hcr⟩ := hs.cellsF
    clear hI hTL ho hs hT hxl
    cases m with
    | zero =>
      have Hst := Lib.hid (Hfin.out (.inl rfl))
      go_wp2_with fail
      go_ret
      exact ⟨_, xs, T, b, rfl, Ho.out.base hz1, HS.out, Hst.out, (Touch.of_below (p := fun i => i = sb) HA.out).trans HT.out⟩
    | succ m =>
      obtain ⟨mi, hmi⟩ : ∃ mi : Int, ((m + 1 : Nat) : Int) = mi := ⟨_, rfl⟩
      rw [hmi]
      have hpos : 0 < mi := by omega
      have hwm : IntKind.i64.wrap (mi - 1) = (m : Int) := by rw [IntKind.wrap_i64]; omega
      have Hmi := Lib.hid hmi
      clear hmi
      cases b with
      | true =>
        have Hst := Lib.hid (Hfin.out (.inr rfl))
        go_wp2_with fail
        go_ret
        exact ⟨_, xs, T, true, rfl, Ho.out.base hz1, HS.out, Hst.out, HT.out⟩
      | false =>
        have HN := Lib.hid (refSNum_any sb g T false 4 wr HS.out)
        go_wp2_with fail
        refine HN.out.mono ?_
        rintro e w4 ⟨rfl, hs4, hT4⟩
        have hz4 := hT4.size
        have hT1 := nx_drop (numOk T false 4) T T 4 (.inr rfl)
        obtain ⟨T1, hT1e⟩ : ∃ T1, nx (numOk T false 4) (T.drop (4 : Int).toNat) T = T1 := ⟨_, rfl⟩
        rw [hT1e] at hs4
        rw [show nx (numOk T false 4) (T.drop 4) T = T1 from hT1e] at hT1
        have Ho4 := Ho.out.touch (S' := fun k => w.heap.size ≤ k) CeS.still hT4 (fun k hk => by have := (Hrow.out k hk).1; omega) (fun k _ hk _ => ⟨hk, fun e => by omega⟩)
        have HO4 := Lib.hid Ho4
        have HT4 := Lib.hid (HT.out.trans hT4)
        have hxr : xs.length + 1 ≤ 1000000 := by omega
        have HS4 := Lib.hid hs4
        have HT1 := Lib.hid hT1
        clear hs4 hT4 hT1 hT1e Ho4 hcr
        by_cases hnull : numV T false 4 = 4294967295
        · have hok : numOk T false 4 = true := by
            cases e : numOk T false 4 with
            | true => rfl
            | false =>
              unfold numV at hnull
              rw [if_neg (by rw [e]; decide)] at hnull
              cases hnull
          have HI5 := Lib.hid (HI.out.null hok hnull)
          have hd := HT1.out.1 hok
          have HTL5 : Hid (T1 ≠ [] → L ≠ []) := Lib.hid (fun e => HTL.out (HT1.out.2.2 e))
          have hTl5 : T1.length ≤ L1.length := by have := HT1.out.2.1; omega
          rw [hok] at HS4
          have HI6 : Hid (CeI (cellsP nn L1) L1.length (!numOk L bad 2) m T1 false (xs ++ [⟨true, []⟩])) := Lib.hid (by
            have hh := HI5.out
            have e4 : T.drop 4 = T1 := hd.symm
            rw [e4] at hh
            exact hh)
          have hal : Below w4.heap.size w4 (w4.alloc (.cells #[.bool true, .slice none 0 0] 71)) := (Below.refl _ _).alloc (Nat.le_refl _) _
          have Ho5 := Lib.hid (HO4.out.below' CeS.still hal)
          have Hnw := Lib.hid (SliceS.new1 (S := fun k => w.heap.size ≤ k ∧ rowOf u3 ≠ some k) (S' := fun k => w.heap.size ≤ k ∧ rowOf u3 ≠ some k) CeS.still w4 71 #[.bool true, .slice none 0 0] ⟨true, []⟩ ⟨none, 0, rfl, none, 0, rfl, Nat.le_refl _, by simp [maxLen], BytesIn.nil _ _, fun h => absurd rfl h⟩ rfl (fun k _ h => h) ⟨by omega, fun e => by have := (Hrow.out _ e).2; omega⟩)
          have HAl := Lib.hid hal
          have hwz : w.heap.size ≤ (w4.alloc (.cells #[.bool true, .slice none 0 0] 71)).heap.size := by rw [World.size_alloc]; omega
          rw [hnull]
          clear hal hnull hok hd HI5
          go_wp2_with (at_builtin; refine step_appendC _ rfl (.tmp 23) (.tmp 25) rfl w.heap.size u3 xs rfl Ho5.out (some ⟨w4.heap.size, 0, none⟩) 1 1 [⟨true, []⟩] rfl Hnw.out (by simpa using hxr) hwz ?_; intro v5 w5 ho5 hg5 hn5; have Ho6 := Lib.hid ho5; have HT6 := Lib.hid ((HT4.out.trans (Touch.of_below HAl.out)).then (Touch.of_row hg5) (fun i hi e => by have := (Hrow.out i e.symm).1; omega)); have HS6 := Lib.hid ((HS4.out.touch (Touch.of_below (p := fun _ => False) HAl.out) (fun e => e) (fun _ e => e)).touch (Touch.of_row hg5) (fun e => by have := (Hrow.out _ e.symm).1; omega) (fun hne e => by have := (Hrow.out _ e.symm).1; have := Hg.out (HTL5.out hne); omega)); clear ho5 hg5 hn5)
          go_roundw
          case rel => exact ⟨m, T1, false, xs ++ [⟨true, []⟩], by omega, by first | rfl | trivial, HI6.out, HTL5.out, hTl5, Ho6.out, HS6.out, HT6.out⟩
          case measure => have := Hmi.out; simp [intOf]; omega
        · have hnb2 : (numV T false 4 == 4294967295) = false := by simpa using hnull
          have Hnull := Lib.hid hnull
          have Htk := Lib.hid (refSTake_any sb g T1 (!numOk T false 4) (numV T false 4) w4 HS4.out (by have := HT1.out.2.1; omega))
          have hT2 := nx_drop (takeOk T1 (!numOk T false 4) (numV T false 4)) T1 T1 (numV T false 4).toNat (.inr rfl)
          obtain ⟨T2, hT2e⟩ : ∃ T2, nx (takeOk T1 (!numOk T false 4) (numV T false 4)) (T1.drop (numV T false 4).toNat) T1 = T2 := ⟨_, rfl⟩
          rw [hT2e] at hT2 Htk
          have HI6 := Lib.hid (HI.out.take Hnull.out (fun e => HT1.out.1 e) HT1.out.2.1 (fun e => hT2.1 e) hT2.2.1)
          have HTL5 : Hid (T2 ≠ [] → L ≠ []) := Lib.hid (fun e => HTL.out (HT1.out.2.2 (hT2.2.2 e)))
          have hTl5 : T2.length ≤ L1.length := by have := HT1.out.2.1; have := hT2.2.1; omega
          obtain ⟨b2, hb2⟩ : ∃ b2, (!takeOk T1 (!numOk T false 4) (numV T false 4)) = b2 := ⟨_, rfl⟩
          obtain ⟨tv, htv⟩ : ∃ tv, takeV T1 (!numOk T false 4) (numV T false 4) = tv := ⟨_, rfl⟩
          rw [hb2, htv] at Htk HI6
          generalize numV T false 4 = nv at *
          clear hT2 hT2e hb2 htv hnull
          go_wp2_with fail
          refine Htk.out.mono ?_
          rintro e w6 ⟨v6, rfl, ho6, hs6, hT6⟩
          have hz6 := hT6.size
          obtain ⟨p6, c6, hv6, hby⟩ := ho6.bytesS (S := fun k => w.heap.size ≤ k ∧ rowOf u3 ≠ some k) (fun k hk => ⟨by omega, fun e => by have := (Hrow.out _ e).2; omega⟩)
          subst hv6
          have HO6 := Lib.hid (HO4.out.touch (S' := fun k => w.heap.size ≤ k) CeS.still hT6 (fun k hk => by have := (Hrow.out k hk).1; omega) (fun k _ hk _ => ⟨hk, fun e => by omega⟩))
          have hal : Below w6.heap.size w6 (w6.alloc (.cells #[.bool false, .slice p6 tv.length c6] 71)) := (Below.refl _ _).alloc (Nat.le_refl _) _
          have Ho7 := Lib.hid (HO6.out.below' CeS.still hal)
          have Hnw := Lib.hid (SliceS.new1 (S := fun k => w.heap.size ≤ k ∧ rowOf u3 ≠ some k) (S' := fun k => w.heap.size ≤ k ∧ rowOf u3 ≠ some k) CeS.still w6 71 #[.bool false, .slice p6 tv.length c6] ⟨false, tv⟩ ⟨p6, c6, rfl, hby⟩ rfl (fun k _ h => h) ⟨by omega, fun e => by have := (Hrow.out _ e).2; omega⟩)
          have HAl := Lib.hid hal
          have HS7 := Lib.hid hs6
          have HT7 := Lib.hid (HT4.out.trans hT6)
          have hwz : w.heap.size ≤ (w6.alloc (.cells #[.bool false, .slice p6 tv.length c6] 71)).heap.size := by rw [World.size_alloc]; omega

          clear hal hs6 hT6 ho6 hby
          generalize tv.length = ntv at *
          go_wp2_with (at_builtin; refine step_appendC _ rfl (.tmp 27) (.tmp 32) rfl w.heap.size u3 xs rfl Ho7.out (some ⟨w6.heap.size, 0, none⟩) 1 1 [⟨false, tv⟩] rfl Hnw.out (by simpa using hxr) hwz ?_; intro v8 w8 ho8 hg8 hn8; have Ho9 := Lib.hid ho8; have HT9 := Lib.hid ((HT7.out.trans (Touch.of_below HAl.out)).then (Touch.of_row hg8) (fun i hi e => by have := (Hrow.out i e.symm).1; omega)); have HS9 := Lib.hid ((HS7.out.touch (Touch.of_below (p := fun _ => False) HAl.out) (fun e => e) (fun _ e => e)).touch (Touch.of_row hg8) (fun e => by have := (Hrow.out _ e.symm).1; omega) (fun hne e => by have := (Hrow.out _ e.symm).1; have := Hg.out (HTL5.out hne); omega)); clear ho8 hg8 hn8)
          go_roundw
          case rel => exact ⟨m, T2, b2, xs ++ [⟨false, tv⟩], by omega, by first | rfl | trivial, HI6.out, HTL5.out, hTl5, Ho9.out, HS9.out, HT9.out⟩
          case measure => have := Hmi.out; simp [intOf]; omega

end Go.Proofs.Ytldjfmddjbdciaa
