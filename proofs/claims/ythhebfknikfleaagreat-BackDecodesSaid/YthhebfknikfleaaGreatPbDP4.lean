/-
  Ground: FoS, FoT, FoU, Wire, FpL.
-/
import Derived.Test.YthhebfknikfleaaGreatPbDP3
import Derived.Test.YthhebfknikfleaaGreatPbDP1
import Derived.Test.YthhebfknikfleaaGreatPbDP2
/-
  Messages of clients (layer 6): numbers that are read: the program's and the document's.
-/
namespace Go.Proofs.YthhebfknikfleaaGreat
open Go.RowKit
set_option linter.unusedVariables false
set_option linter.unusedSimpArgs false

theorem RefS.cellsF {w : World} {xb g : Nat} {L : List UInt8} {no : Bool} (h : RefS w xb g L no) : ∃ p c, ∀ i, w.cell? ⟨xb, i, none⟩ = (#[.slice p L.length c, .bool no] : Array Value)[i]? := by
  obtain ⟨p, c, hb, _⟩ := h
  exact ⟨p, c, hb.cell⟩
theorem RefS.ltgF {w : World} {xb g : Nat} {L : List UInt8} {no : Bool} (h : RefS w xb g L no) (hL : L ≠ []) : g < w.heap.size := by
  obtain ⟨p, c, hb, h1, h2, h3, h4, _⟩ := h
  obtain ⟨b, o, e, hc⟩ := h3 0 (List.length_pos_iff.2 hL)
  have := h4 _ e
  rw [← this]
  exact World.block_lt_of_cell? w _ hc
abbrev OwnI (B : Nat) (w : World) (v : Value) (xs : List Int) : Prop := OwnS B 3 1 IntU (fun k => B ≤ k) w v xs
theorem Tryz.info3 : (Tryz.prog.info? 3).map (fun i => (i.zero, i.size, i.bytes)) = some (some (.int .i64 0), 1, 8) := by kernel_rfl
theorem info_int : ∃ i z, Tryz.prog.info? 3 = some i ∧ i.zero = some z ∧ i.size = 1 ∧ i.bytes = 8 ∧ z.cells.size = 1 := by
  obtain ⟨i0, hi, hz0, hz1, hz2⟩ := info_parts Tryz.info3
  exact ⟨i0, _, hi, hz0, hz1, hz2, rfl⟩

/-- A number behind numbers. -/
theorem step_appendI {ops : Array Oper} {rest : List Oper} {o : Oper} {a : Act} {Q : Exit → Act → World → Prop} (w : World) (hgd : o.guard = none) (s y : Operand)
    (ho : o.op = .call { callee := .builtin .append, args := #[s, y], argTypes := #[32, 32] })
    (B : Nat) (v : Value) (xs : List Int) (hsv : a.eval s = v) (hown : OwnI B w v xs) (p : Option Addr) (n c : Nat) (ys : List Int) (hx : a.eval y = .slice p n c) (hs : SliceS 1 IntU (fun k => B ≤ k ∧ rowOf v ≠ some k) w [.slice p n c] ys)
    (hroom : xs.length + ys.length ≤ 1000000) (hbase : B ≤ w.heap.size)
    (h : ∀ v' w', OwnI B w' v' (xs ++ ys) → w.grownBy w' (rowOf v) → (∀ k, rowOf v' = some k → rowOf v = some k ∨ w.heap.size ≤ k) → wpList Tryz.prog ops Q rest (a.put o.dst v') w') : wpList Tryz.prog ops Q (o :: rest) a w :=
  wpList_append_S w hgd s y 32 32 ho B 3 3 1 8 Tryz.underlying32 Tryz.underlying32 info_int IntU IntU.still IntU.one (fun k => B ≤ k) v xs hsv hown p n c ys hx hs
    (by omega) (by simp only [maxLen]; omega) hbase h

theorem numP2 (L : List UInt8) : numP 2 L = if numOk L false 2 = true then some (numV L false 2, L.drop 2) else none := rfl

/-- What holds in the loop. -/
structure NmI (zn : Nat) (R : Option (List Int × List UInt8)) (l1 : Nat) (bad1 : Bool) (m : Nat) (T : List UInt8) (b : Bool) (xs : List Int) : Prop where
  good : b = false → bad1 = false ∧ R = (numsP zn m T).map (fun q => (xs ++ q.1, q.2))
  bad : b = true → bad1 = true ∨ R = none
  len : T.length + xs.length ≤ l1 + (if b = true then 1 else 0)
theorem NmI.step {zn : Nat} {R : Option (List Int × List UInt8)} {l1 : Nat} {bad1 : Bool} {m : Nat} {T T' : List UInt8} {xs : List Int} (h : NmI zn R l1 bad1 (m + 1) T false xs) (hz : 0 < zn)
    (hT1 : numOk T false zn = true → T' = T.drop zn) (hT2 : T'.length ≤ T.length) : NmI zn R l1 bad1 m T' (!numOk T false zn) (xs ++ [numV T false zn]) := by
  obtain ⟨h1, h2⟩ := h.good rfl
  have hl := h.len
  simp only [Bool.false_eq_true, if_false, Nat.add_zero] at hl
  cases hok : numOk T false zn with
  | true =>
    have hd := hT1 hok
    subst hd
    refine ⟨fun _ => ⟨h1, ?_⟩, (fun e => by cases e), ?_⟩
    · rw [h2, numsP, numP, if_pos hok]
      simp only [Option.bind_some]
      cases numsP zn m (T.drop zn) with
      | none => rfl
      | some q => simp
    · have : zn ≤ T.length := by unfold numOk at hok; simp at hok; omega
      simp
      omega
  | false =>
    refine ⟨(fun e => by cases e), fun _ => .inr ?_, ?_⟩
    · rw [h2, numsP, numP, if_neg (by rw [hok]; decide)]
      rfl
    · simp
      omega
theorem NmI.fin {zn : Nat} {L L1 : List UInt8} {bad : Bool} {l1 : Nat} {n : Nat} {m : Nat} {T : List UInt8} {b : Bool} {xs : List Int}
    (h : NmI zn (numsP zn n L1) l1 (!numOk L bad 2) m T b xs) (hn : numV L bad 2 = n) (hL1 : numOk L bad 2 = true → L1 = L.drop 2) (hm : m = 0 ∨ b = true) (hT : T.length ≤ L.length) : StepO L bad (listQ zn) xs T b := by
  refine ⟨fun hb => ?_, fun hb => ?_, hT⟩
  · subst hb
    obtain ⟨h1, h2⟩ := h.good rfl
    have hok : numOk L bad 2 = true := by simpa using h1
    have hbf : bad = false := by unfold numOk at hok; simp at hok; exact hok.1.1
    subst hbf
    rcases hm with rfl | hb
    · refine ⟨rfl, ?_⟩
      unfold listQ
      rw [numP2, if_pos hok]
      simp only [Option.bind_some]
      rw [hn, Int.toNat_natCast, ← hL1 hok, h2]
      simp [numsP]
    · cases hb
  · rcases h.bad hb with h1 | h1
    · cases bad with
      | true => exact .inl rfl
      | false =>
        right
        have hok : numOk L false 2 = false := by simpa using h1
        unfold listQ
        rw [numP2, if_neg (by rw [hok]; decide)]
        rfl
    · cases bad with
      | true => exact .inl rfl
      | false =>
        right
        unfold listQ
        rw [numP2]
        by_cases hok : numOk L false 2 = true
        · rw [if_pos hok]
          simp only [Option.bind_some]
          rw [hn, Int.toNat_natCast, ← hL1 hok]
          exact h1
        · rw [if_neg hok]
          rfl

/-- What is read of numbers. -/
def flistR (sb g : Nat) (L : List UInt8) (bad : Bool) (zn : Nat) (w : World) (e : Ending) (w' : World) : Prop :=
  ∃ v xs L' bad', e = .returned v ∧ OwnI w.heap.size w' v xs ∧ ScanO w' sb g L' bad' ∧ StepO L bad (listQ zn) xs L' bad' ∧ Touch (fun i => i = sb) w w'

/-- What is read of numbers. -/
def fnumsR (sb g : Nat) (L : List UInt8) (bad : Bool) (zn : Nat) (w : World) (e : Ending) (w' : World) : Prop :=
  ∃ v xs L' bad', e = .returned v ∧ OwnI w.heap.size w' v xs ∧ RefS w' sb g L' bad' ∧ StepO L bad (listQ zn) xs L' bad' ∧ Touch (fun i => i = sb) w w'

set_option maxRecDepth 100000 in
set_option maxHeartbeats 4000000 in
theorem fnums_any (sb g : Nat) (L : List UInt8) (bad : Bool) (z : Int) (zn : Nat) (hz : (zn : Int) = z) (hzn : 0 < zn) (w : World) (h : RefS w sb g L bad) (hL : L.length ≤ 100000) :
    Calls Tryz.prog 124 #[.pointer (some ⟨sb, 0, none⟩), .int .i64 z] w (fnumsR sb g L bad zn w) := by
  subst hz
  have hsb := h.lt
  have Hg := Lib.hid (fun e : L ≠ [] => h.ltgF e)
  have H0 := Lib.hid h
  have HA := Lib.hid (Below.refl w.heap.size w)
  have hz1 : w.heap.size ≤ w.heap.size := Nat.le_refl _
  clear h
  go_enter Tryz.func124, Tryz.ntmps124
  go_upto_region 1 with (fail)
  have Hn := Lib.hid (refSNum_any sb g L bad 2 w H0.out)
  obtain ⟨nn, hnn⟩ : ∃ nn : Nat, numV L bad 2 = (nn : Int) ∧ nn ≤ 65536 := by
    unfold numV
    split
    · have hb := be_bd (L.take (2 : Int).toNat)
      have hl : (L.take (2 : Int).toNat).length ≤ 2 := by rw [List.length_take]; exact Nat.min_le_left _ _
      obtain ⟨q, hq⟩ := Int.eq_ofNat_of_zero_le hb.1
      have h2 : be (L.take (2 : Int).toNat) < 65536 := by
        have h3 : (256 : Int) ^ (L.take (2 : Int).toNat).length ≤ 65536 := by
          generalize (L.take (2 : Int).toNat).length = q at hl
          have : q = 0 ∨ q = 1 ∨ q = 2 := by omega
          rcases this with rfl | rfl | rfl <;> decide
        omega
      exact ⟨q, hq, by omega⟩
    · exact ⟨0, rfl, by omega⟩
  obtain ⟨hnn, hnb⟩ := hnn
  rw [hnn] at Hn
  have HNN := Lib.hid hnn
  obtain ⟨L1, hL1⟩ : ∃ L1, nx (numOk L bad 2) (L.drop (2 : Int).toNat) L = L1 := ⟨_, rfl⟩
  rw [hL1] at Hn
  have HL1 : Hid ((numOk L bad 2 = true → L1 = L.drop 2) ∧ L1.length ≤ L.length ∧ (L1 ≠ [] → L ≠ [])) := Lib.hid (by
    rw [← hL1]
    refine ⟨fun e => by rw [e]; rfl, ?_, ?_⟩
    · unfold nx; split <;> simp
    · intro hne e
      subst e
      apply hne
      unfold nx
      split <;> simp)
  clear hnn hL1
  go_wp2_with fail
  refine Hn.out.mono ?_
  rintro e w2 ⟨rfl, hs2, hT2⟩
  have hz2 := hT2.size
  have HS2 := Lib.hid hs2
  have HT2 := Lib.hid hT2
  clear hs2 Hn
  clear hT2
  go_wp2_with fail
  go_loopw [5, 6] (fun v i wr => ∃ (m : Nat) (T : List UInt8) (b : Bool) (xs : List Int), m ≤ 65536 ∧ i = .int .i64 (m : Int) ∧ NmI zn (numsP zn nn L1) L1.length (!numOk L bad 2) m T b xs ∧ (T ≠ [] → L ≠ []) ∧ T.length ≤ L1.length ∧ OwnI w.heap.size wr v xs ∧ RefS wr sb g T b ∧ Touch (fun i => i = sb) w wr) (fun _ i _ => (intOf i).toNat)
  case atStart => exact ⟨nn, L1, !numOk L bad 2, [], hnb, rfl, ⟨fun e => ⟨e, by cases numsP zn nn L1 <;> simp⟩, fun e => .inl e, by simp⟩, HL1.out.2.2, Nat.le_refl _, OwnS.empty _, HS2.out, HT2.out⟩
  case round =>
    obtain ⟨m, T, b, xs, hm6, rfl, hI, hTL, hTl, ho, hs, hT⟩ := hrel
    have hzr := hT.size
    have HI := Lib.hid hI
    have HTL := Lib.hid hTL
    have Ho := Lib.hid ho
    have HS := Lib.hid hs
    have HT := Lib.hid hT
    have Hrow := Lib.hid ho.row
    have hxl := hI.len
    have hxl2 : xs.length ≤ 100002 := by have := HL1.out.2.1; split at hxl <;> omega
    have Hfin := Lib.hid (fun hm : m = 0 ∨ b = true => hI.fin HNN.out HL1.out.1 hm (by have := HL1.out.2.1; omega))
    obtain ⟨pq, cq, hcr⟩ := hs.cellsF
    clear hI hTL ho hs hT hxl
    cases m with
    | zero =>
      have Hst := Lib.hid (Hfin.out (.inl rfl))
      go_wp2_with fail
      go_ret
      exact ⟨_, xs, T, b, rfl, Ho.out.base hz1, HS.out, Hst.out, (Touch.of_below (p := fun i => i = sb) HA.out).trans HT.out⟩
    | succ m =>
      obtain ⟨mi, hmi⟩ : ∃ mi : Int, ((m + 1 : Nat) : Int) = mi := ⟨_, rfl⟩
      rw [hmi]
      have hpos : 0 < mi := by omega
      have hwm : IntKind.i64.wrap (mi - 1) = (m : Int) := by rw [IntKind.wrap_i64]; omega
      have Hmi := Lib.hid hmi
      clear hmi
      cases b with
      | true =>
        have Hst := Lib.hid (Hfin.out (.inr rfl))
        go_wp2_with fail
        go_ret
        exact ⟨_, xs, T, true, rfl, Ho.out.base hz1, HS.out, Hst.out, HT.out⟩
      | false =>
        have HN := Lib.hid (refSNum_any sb g T false (zn : Int) wr HS.out)
        go_wp2_with fail
        refine HN.out.mono ?_
        rintro e w4 ⟨rfl, hs4, hT4⟩
        have hz4 := hT4.size
        rw [Int.toNat_natCast] at hs4
        obtain ⟨T', hT'⟩ : ∃ T', nx (numOk T false (zn : Int)) (T.drop zn) T = T' := ⟨_, rfl⟩
        rw [hT'] at hs4
        have hTp : (numOk T false (zn : Int) = true → T' = T.drop zn) ∧ T'.length ≤ T.length ∧ (T' ≠ [] → T ≠ []) := by
          rw [← hT']
          refine ⟨fun e => by rw [e]; rfl, ?_, ?_⟩
          · unfold nx; split <;> simp
          · intro hne e
            subst e
            apply hne
            unfold nx
            split <;> simp
        have HI4 := Lib.hid (HI.out.step hzn hTp.1 hTp.2.1)
        have HTL4 : Hid (T' ≠ [] → L ≠ []) := Lib.hid (fun e => HTL.out (hTp.2.2 e))
        have hTl4 : T'.length ≤ L1.length := by have := hTp.2.1; omega
        obtain ⟨bv, hbv⟩ : ∃ bv, (!numOk T false (zn : Int)) = bv := ⟨_, rfl⟩
        obtain ⟨xv, hxv⟩ : ∃ xv, numV T false (zn : Int) = xv := ⟨_, rfl⟩
        rw [hbv] at hs4 HI4
        rw [hxv] at HI4
        rw [hxv]
        have Ho4 := Ho.out.touch (S' := fun k => w.heap.size ≤ k) IntU.still hT4 (fun k hk => by have := (Hrow.out k hk).1; omega) (fun k _ hk _ => ⟨hk, fun e => by omega⟩)
        have hal : Below w4.heap.size w4 (w4.alloc (.cells #[.int .i64 xv] 3)) := (Below.refl _ _).alloc (Nat.le_refl _) _
        have Ho5 := Lib.hid (Ho4.below' IntU.still hal)
        have Hnw := Lib.hid (SliceS.new1 (S := fun k => w.heap.size ≤ k ∧ rowOf u5 ≠ some k) (S' := fun k => w.heap.size ≤ k ∧ rowOf u5 ≠ some k) IntU.still w4 3 #[.int .i64 xv] xv rfl rfl (fun k _ h => h) ⟨by omega, fun e => by have := (Hrow.out _ e).2; omega⟩)
        have HAl := Lib.hid hal
        have HS4 := Lib.hid hs4
        have HT4 := Lib.hid (HT.out.trans hT4)
        have hwz : w.heap.size ≤ (w4.alloc (.cells #[.int .i64 xv] 3)).heap.size := by rw [World.size_alloc]; omega
        have hxr : xs.length + 1 ≤ 1000000 := by omega
        clear hs4 hT4 hal hT' hbv hxv Ho4 hTp hcr
        go_wp2_with (at_builtin; refine step_appendI _ rfl (.tmp 20) (.tmp 24) rfl w.heap.size u5 xs rfl Ho5.out (some ⟨w4.heap.size, 0, none⟩) 1 1 [xv] rfl Hnw.out (by simpa using hxr) hwz ?_; intro v5 w5 ho5 hg5 hn5; have Ho6 := Lib.hid ho5; have HT6 := Lib.hid ((HT4.out.trans (Touch.of_below HAl.out)).then (Touch.of_row hg5) (fun i hi e => by have := (Hrow.out i e.symm).1; omega)); have HS6 := Lib.hid ((HS4.out.touch (Touch.of_below (p := fun _ => False) HAl.out) (fun e => e) (fun _ e => e)).touch (Touch.of_row hg5) (fun e => by have := (Hrow.out _ e.symm).1; omega) (fun hne e => by have := (Hrow.out _ e.symm).1; have := Hg.out (HTL4.out hne); omega)); clear ho5 hg5 hn5)
        go_roundw
        case rel => exact ⟨m, T', bv, xs ++ [xv], by omega, by first | rfl | trivial, HI4.out, HTL4.out, hTl4, Ho6.out, HS6.out, HT6.out⟩
        case measure => have := Hmi.out; simp [intOf]; omega

end Go.Proofs.YthhebfknikfleaaGreat

/-
  Messages of clients (layer 6): values that are read: the program's and the document's.
-/
namespace Go.Proofs.YthhebfknikfleaaGreat
open Go.RowKit
set_option linter.unusedVariables false
set_option linter.unusedSimpArgs false

abbrev OwnC (B : Nat) (w : World) (v : Value) (xs : List CeV) : Prop := OwnS B 83 2 CeS (fun k => B ≤ k) w v xs
theorem Tryz.info83 : (Tryz.prog.info? 83).map (fun i => (i.zero, i.size, i.bytes)) = some (some (.agg #[.bool false, .slice none 0 0]), 2, 32) := by kernel_rfl
theorem info_ce : ∃ i z, Tryz.prog.info? 83 = some i ∧ i.zero = some z ∧ i.size = 2 ∧ i.bytes = 32 ∧ z.cells.size = 2 := by
  obtain ⟨i0, hi, hz0, hz1, hz2⟩ := info_parts Tryz.info83
  exact ⟨i0, _, hi, hz0, hz1, hz2, rfl⟩

/-- A value behind values. -/
theorem step_appendC {ops : Array Oper} {rest : List Oper} {o : Oper} {a : Act} {Q : Exit → Act → World → Prop} (w : World) (hgd : o.guard = none) (s y : Operand)
    (ho : o.op = .call { callee := .builtin .append, args := #[s, y], argTypes := #[36, 36] })
    (B : Nat) (v : Value) (xs : List CeV) (hsv : a.eval s = v) (hown : OwnC B w v xs) (p : Option Addr) (n c : Nat) (ys : List CeV) (hx : a.eval y = .slice p n c) (hs : SliceS 2 CeS (fun k => B ≤ k ∧ rowOf v ≠ some k) w [.slice p n c] ys)
    (hroom : xs.length + ys.length ≤ 1000000) (hbase : B ≤ w.heap.size)
    (h : ∀ v' w', OwnC B w' v' (xs ++ ys) → w.grownBy w' (rowOf v) → (∀ k, rowOf v' = some k → rowOf v = some k ∨ w.heap.size ≤ k) → wpList Tryz.prog ops Q rest (a.put o.dst v') w') : wpList Tryz.prog ops Q (o :: rest) a w :=
  wpList_append_S w hgd s y 36 36 ho B 83 83 2 32 Tryz.underlying36 Tryz.underlying36 info_ce CeS CeS.still CeS.one (fun k => B ≤ k) v xs hsv hown p n c ys hx hs
    (by omega) (by simp only [maxLen]; omega) hbase h

structure CeI (R : Option (List CeV × List UInt8)) (l1 : Nat) (bad1 : Bool) (m : Nat) (T : List UInt8) (b : Bool) (xs : List CeV) : Prop where
  good : b = false → bad1 = false ∧ R = (cellsP m T).map (fun q => (xs ++ q.1, q.2))
  bad : b = true → bad1 = true ∨ R = none
  len : T.length + xs.length ≤ l1 + (if b = true then 1 else 0)
theorem numP4 (L : List UInt8) : numP 4 L = if numOk L false 4 = true then some (numV L false 4, L.drop 4) else none := rfl
section
variable {R : Option (List CeV × List UInt8)} {l1 : Nat} {bad1 : Bool} {m : Nat} {T T1 T2 : List UInt8} {xs : List CeV}
theorem CeI.null (h : CeI R l1 bad1 (m + 1) T false xs) (hok : numOk T false 4 = true) (hn : numV T false 4 = 4294967295) : CeI R l1 bad1 m (T.drop 4) false (xs ++ [⟨true, []⟩]) := by
  obtain ⟨h1, h2⟩ := h.good rfl
  have hl := h.len
  simp only [Bool.false_eq_true, if_false, Nat.add_zero] at hl
  have : 4 ≤ T.length := by unfold numOk at hok; simp at hok; omega
  refine ⟨fun _ => ⟨h1, ?_⟩, (fun e => by cases e), by simp; omega⟩
  rw [h2, cellsP, cellP, numP4, if_pos hok]
  simp only [Option.bind_some]
  rw [if_pos hn]
  simp only [Option.bind_some]
  cases cellsP m (T.drop 4) with
  | none => rfl
  | some q => simp
theorem CeI.take (h : CeI R l1 bad1 (m + 1) T false xs) (hn : numV T false 4 ≠ 4294967295) (hT1 : numOk T false 4 = true → T1 = T.drop 4) (hl1 : T1.length ≤ T.length) (hT2 : takeOk T1 (!numOk T false 4) (numV T false 4) = true → T2 = T1.drop (numV T false 4).toNat) (hl2 : T2.length ≤ T1.length) :
    CeI R l1 bad1 m T2 (!takeOk T1 (!numOk T false 4) (numV T false 4)) (xs ++ [⟨false, takeV T1 (!numOk T false 4) (numV T false 4)⟩]) := by
  obtain ⟨h1, h2⟩ := h.good rfl
  have hl := h.len
  simp only [Bool.false_eq_true, if_false, Nat.add_zero] at hl
  cases hok : numOk T false 4 with
  | false =>
    have hto : takeOk T1 (!false) (numV T false 4) = false := by unfold takeOk; simp
    rw [hto]
    refine ⟨(fun e => by cases e), fun _ => .inr ?_, by simp; omega⟩
    rw [h2, cellsP, cellP, numP4, if_neg (by rw [hok]; decide)]
    rfl
  | true =>
    have hT1' := hT1 hok
    have h4 : 4 ≤ T.length := by unfold numOk at hok; simp at hok; omega
    have hl4 : T1.length + 4 ≤ T.length := by rw [hT1', List.length_drop]; omega
    rw [hok] at hT2
    simp only [Bool.not_true] at hT2 ⊢
    cases hto : takeOk T1 false (numV T false 4) with
    | true =>
      have hT2' := hT2 hto
      refine ⟨fun _ => ⟨h1, ?_⟩, (fun e => by cases e), by simp; omega⟩
      rw [h2, cellsP, cellP, numP4, if_pos hok]
      simp only [Option.bind_some]
      rw [if_neg hn, ← hT1', takeP, if_pos hto]
      simp only [Option.bind_some]
      rw [← hT2']
      cases cellsP m T2 with
      | none => rfl
      | some q => simp
    | false =>
      refine ⟨(fun e => by cases e), fun _ => .inr ?_, by simp; omega⟩
      rw [h2, cellsP, cellP, numP4, if_pos hok]
      simp only [Option.bind_some]
      rw [if_neg hn, ← hT1', takeP, if_neg (by rw [hto]; decide)]
      rfl
end
theorem CeI.fin {L L1 : List UInt8} {bad : Bool} {l1 : Nat} {n : Nat} {m : Nat} {T : List UInt8} {b : Bool} {xs : List CeV}
    (h : CeI (cellsP n L1) l1 (!numOk L bad 2) m T b xs) (hn : numV L bad 2 = n) (hL1 : numOk L bad 2 = true → L1 = L.drop 2) (hm : m = 0 ∨ b = true) (hT : T.length ≤ L.length) : StepO L bad rowQ xs T b := by
  refine ⟨fun hb => ?_, fun hb => ?_, hT⟩
  · subst hb
    obtain ⟨h1, h2⟩ := h.good rfl
    have hok : numOk L bad 2 = true := by simpa using h1
    have hbf : bad = false := by unfold numOk at hok; simp at hok; exact hok.1.1
    subst hbf
    rcases hm with rfl | hb
    · refine ⟨rfl, ?_⟩
      unfold rowQ
      rw [numP2, if_pos hok]
      simp only [Option.bind_some]
      rw [hn, Int.toNat_natCast, ← hL1 hok, h2]
      simp [cellsP]
    · cases hb
  · rcases h.bad hb with h1 | h1
    · cases bad with
      | true => exact .inl rfl
      | false =>
        right
        have hok : numOk L false 2 = false := by simpa using h1
        unfold rowQ
        rw [numP2, if_neg (by rw [hok]; decide)]
        rfl
    · cases bad with
      | true => exact .inl rfl
      | false =>
        right
        unfold rowQ
        rw [numP2]
        by_cases hok : numOk L false 2 = true
        · rw [if_pos hok]
          simp only [Option.bind_some]
          rw [hn, Int.toNat_natCast, ← hL1 hok]
          exact h1
        · rw [if_neg hok]
          rfl
theorem nx_drop (ok : Bool) (T E : List UInt8) (k : Nat) (hE : E = [] ∨ E = T) : (ok = true → nx ok (T.drop k) E = T.drop k) ∧ (nx ok (T.drop k) E).length ≤ T.length ∧ (nx ok (T.drop k) E ≠ [] → T ≠ []) := by
  cases ok with
  | true =>
    refine ⟨fun _ => rfl, by unfold nx; simp, ?_⟩
    intro h e
    subst e
    exact h (by unfold nx; simp)
  | false =>
    refine ⟨(fun e => by cases e), ?_, ?_⟩
    · rcases hE with rfl | rfl <;> simp [nx]
    · intro h e
      subst e
      rcases hE with rfl | rfl <;> exact h rfl
theorem num16 (L : List UInt8) (bad : Bool) : ∃ nn : Nat, numV L bad 2 = (nn : Int) ∧ nn ≤ 65536 := by
  unfold numV
  split
  · have hb := be_bd (L.take (2 : Int).toNat)
    have hl : (L.take (2 : Int).toNat).length ≤ 2 := by rw [List.length_take]; exact Nat.min_le_left _ _
    obtain ⟨q, hq⟩ := Int.eq_ofNat_of_zero_le hb.1
    have h2 : be (L.take (2 : Int).toNat) < 65536 := by
      have h3 : (256 : Int) ^ (L.take (2 : Int).toNat).length ≤ 65536 := by
        generalize (L.take (2 : Int).toNat).length = q at hl
        have : q = 0 ∨ q = 1 ∨ q = 2 := by omega
        rcases this with rfl | rfl | rfl <;> decide
      omega
    exact ⟨q, hq, by omega⟩
  · exact ⟨0, rfl, by omega⟩

/-- What is read of values. -/
def frowR (sb g : Nat) (L : List UInt8) (bad : Bool) (w : World) (e : Ending) (w' : World) : Prop :=
  ∃ v xs L' bad', e = .returned v ∧ OwnC w.heap.size w' v xs ∧ ScanO w' sb g L' bad' ∧ StepO L bad rowQ xs L' bad' ∧ Touch (fun i => i = sb) w w'

/-- What is read of values. -/
def frrowR (sb g : Nat) (L : List UInt8) (bad : Bool) (w : World) (e : Ending) (w' : World) : Prop :=
  ∃ v xs L' bad', e = .returned v ∧ OwnC w.heap.size w' v xs ∧ RefS w' sb g L' bad' ∧ StepO L bad rowQ xs L' bad' ∧ Touch (fun i => i = sb) w w'

set_option maxRecDepth 100000 in
set_option maxHeartbeats 4000000 in
theorem frrow_any (sb g : Nat) (L : List UInt8) (bad : Bool) (w : World) (h : RefS w sb g L bad) (hL : L.length ≤ 100000) :
    Calls Tryz.prog 122 #[.pointer (some ⟨sb, 0, none⟩)] w (frrowR sb g L bad w) := by
  have hsb := h.lt
  have Hg := Lib.hid (fun e : L ≠ [] => h.ltgF e)
  have H0 := Lib.hid h
  have HA := Lib.hid (Below.refl w.heap.size w)
  have hz1 : w.heap.size ≤ w.heap.size := Nat.le_refl _
  clear h
  go_enter Tryz.func122, Tryz.ntmps122
  go_upto_region 1 with (fail)
  have Hn := Lib.hid (refSNum_any sb g L bad 2 w H0.out)
  obtain ⟨nn, hnn, hnb⟩ := num16 L bad
  rw [hnn] at Hn
  have HNN := Lib.hid hnn
  have hL1 := nx_drop (numOk L bad 2) L L 2 (.inr rfl)
  obtain ⟨L1, hL1e⟩ : ∃ L1, nx (numOk L bad 2) (L.drop (2 : Int).toNat) L = L1 := ⟨_, rfl⟩
  rw [hL1e] at Hn
  rw [show nx (numOk L bad 2) (L.drop 2) L = L1 from hL1e] at hL1
  have HL1 := Lib.hid hL1
  clear hnn hL1 hL1e
  go_wp2_with fail
  refine Hn.out.mono ?_
  rintro e w2 ⟨rfl, hs2, hT2⟩
  have hz2 := hT2.size
  have HS2 := Lib.hid hs2
  have HT2 := Lib.hid hT2
  clear hs2 Hn
  clear hT2
  go_wp2_with fail
  go_loopw [3, 4] (fun v i wr => ∃ (m : Nat) (T : List UInt8) (b : Bool) (xs : List CeV), m ≤ 65536 ∧ i = .int .i64 (m : Int) ∧ CeI (cellsP nn L1) L1.length (!numOk L bad 2) m T b xs ∧ (T ≠ [] → L ≠ []) ∧ T.length ≤ L1.length ∧ OwnC w.heap.size wr v xs ∧ RefS wr sb g T b ∧ Touch (fun i => i = sb) w wr) (fun _ i _ => (intOf i).toNat)
  case atStart => exact ⟨nn, L1, !numOk L bad 2, [], hnb, rfl, ⟨fun e => ⟨e, by cases cellsP nn L1 <;> simp⟩, fun e => .inl e, by simp⟩, HL1.out.2.2, Nat.le_refl _, OwnS.empty _, HS2.out, HT2.out⟩
  case round =>
    obtain ⟨m, T, b, xs, hm6, rfl, hI, hTL, hTl, ho, hs, hT⟩ := hrel
    have hzr := hT.size
    have HI := Lib.hid hI
    have HTL := Lib.hid hTL
    have Ho := Lib.hid ho
    have HS := Lib.hid hs
    have HT := Lib.hid hT
    have Hrow := Lib.hid ho.row
    have hxl := hI.len
    have hxl2 : xs.length ≤ 100002 := by have := HL1.out.2.1; split at hxl <;> omega
    have hTc : T.length ≤ 100000 := by have := HL1.out.2.1; omega
    have Hfin := Lib.hid (fun hm : m = 0 ∨ b = true => hI.fin HNN.out (fun e => HL1.out.1 e) hm (by have := HL1.out.2.1; omega))
    obtain ⟨pq, cq, hcr⟩ := hs.cellsF
    clear hI hTL ho hs hT hxl
    cases m with
    | zero =>
      have Hst := Lib.hid (Hfin.out (.inl rfl))
      go_wp2_with fail
      go_ret
      exact ⟨_, xs, T, b, rfl, Ho.out.base hz1, HS.out, Hst.out, (Touch.of_below (p := fun i => i = sb) HA.out).trans HT.out⟩
    | succ m =>
      obtain ⟨mi, hmi⟩ : ∃ mi : Int, ((m + 1 : Nat) : Int) = mi := ⟨_, rfl⟩
      rw [hmi]
      have hpos : 0 < mi := by omega
      have hwm : IntKind.i64.wrap (mi - 1) = (m : Int) := by rw [IntKind.wrap_i64]; omega
      have Hmi := Lib.hid hmi
      clear hmi
      cases b with
      | true =>
        have Hst := Lib.hid (Hfin.out (.inr rfl))
        go_wp2_with fail
        go_ret
        exact ⟨_, xs, T, true, rfl, Ho.out.base hz1, HS.out, Hst.out, HT.out⟩
      | false =>
        have HN := Lib.hid (refSNum_any sb g T false 4 wr HS.out)
        go_wp2_with fail
        refine HN.out.mono ?_
        rintro e w4 ⟨rfl, hs4, hT4⟩
        have hz4 := hT4.size
        have hT1 := nx_drop (numOk T false 4) T T 4 (.inr rfl)
        obtain ⟨T1, hT1e⟩ : ∃ T1, nx (numOk T false 4) (T.drop (4 : Int).toNat) T = T1 := ⟨_, rfl⟩
        rw [hT1e] at hs4
        rw [show nx (numOk T false 4) (T.drop 4) T = T1 from hT1e] at hT1
        have Ho4 := Ho.out.touch (S' := fun k => w.heap.size ≤ k) CeS.still hT4 (fun k hk => by have := (Hrow.out k hk).1; omega) (fun k _ hk _ => ⟨hk, fun e => by omega⟩)
        have HO4 := Lib.hid Ho4
        have HT4 := Lib.hid (HT.out.trans hT4)
        have hxr : xs.length + 1 ≤ 1000000 := by omega
        have HS4 := Lib.hid hs4
        have HT1 := Lib.hid hT1
        clear hs4 hT4 hT1 hT1e Ho4 hcr
        by_cases hnull : numV T false 4 = 4294967295
        · have hok : numOk T false 4 = true := by
            cases e : numOk T false 4 with
            | true => rfl
            | false =>
              unfold numV at hnull
              rw [if_neg (by rw [e]; decide)] at hnull
              cases hnull
          have HI5 := Lib.hid (HI.out.null hok hnull)
          have hd := HT1.out.1 hok
          have HTL5 : Hid (T1 ≠ [] → L ≠ []) := Lib.hid (fun e => HTL.out (HT1.out.2.2 e))
          have hTl5 : T1.length ≤ L1.length := by have := HT1.out.2.1; omega
          rw [hok] at HS4
          have HI6 : Hid (CeI (cellsP nn L1) L1.length (!numOk L bad 2) m T1 false (xs ++ [⟨true, []⟩])) := Lib.hid (by
            have hh := HI5.out
            have e4 : T.drop 4 = T1 := hd.symm
            rw [e4] at hh
            exact hh)
          have hal : Below w4.heap.size w4 (w4.alloc (.cells #[.bool true, .slice none 0 0] 83)) := (Below.refl _ _).alloc (Nat.le_refl _) _
          have Ho5 := Lib.hid (HO4.out.below' CeS.still hal)
          have Hnw := Lib.hid (SliceS.new1 (S := fun k => w.heap.size ≤ k ∧ rowOf u3 ≠ some k) (S' := fun k => w.heap.size ≤ k ∧ rowOf u3 ≠ some k) CeS.still w4 83 #[.bool true, .slice none 0 0] ⟨true, []⟩ ⟨none, 0, rfl, none, 0, rfl, Nat.le_refl _, by simp [maxLen], BytesIn.nil _ _, fun h => absurd rfl h⟩ rfl (fun k _ h => h) ⟨by omega, fun e => by have := (Hrow.out _ e).2; omega⟩)
          have HAl := Lib.hid hal
          have hwz : w.heap.size ≤ (w4.alloc (.cells #[.bool true, .slice none 0 0] 83)).heap.size := by rw [World.size_alloc]; omega
          rw [hnull]
          clear hal hnull hok hd HI5
          go_wp2_with (at_builtin; refine step_appendC _ rfl (.tmp 23) (.tmp 25) rfl w.heap.size u3 xs rfl Ho5.out (some ⟨w4.heap.size, 0, none⟩) 1 1 [⟨true, []⟩] rfl Hnw.out (by simpa using hxr) hwz ?_; intro v5 w5 ho5 hg5 hn5; have Ho6 := Lib.hid ho5; have HT6 := Lib.hid ((HT4.out.trans (Touch.of_below HAl.out)).then (Touch.of_row hg5) (fun i hi e => by have := (Hrow.out i e.symm).1; omega)); have HS6 := Lib.hid ((HS4.out.touch (Touch.of_below (p := fun _ => False) HAl.out) (fun e => e) (fun _ e => e)).touch (Touch.of_row hg5) (fun e => by have := (Hrow.out _ e.symm).1; omega) (fun hne e => by have := (Hrow.out _ e.symm).1; have := Hg.out (HTL5.out hne); omega)); clear ho5 hg5 hn5)
          go_roundw
          case rel => exact ⟨m, T1, false, xs ++ [⟨true, []⟩], by omega, by first | rfl | trivial, HI6.out, HTL5.out, hTl5, Ho6.out, HS6.out, HT6.out⟩
          case measure => have := Hmi.out; simp [intOf]; omega
        · have hnb2 : (numV T false 4 == 4294967295) = false := by simpa using hnull
          have Hnull := Lib.hid hnull
          have Htk := Lib.hid (refSTake_any sb g T1 (!numOk T false 4) (numV T false 4) w4 HS4.out (by have := HT1.out.2.1; omega))
          have hT2 := nx_drop (takeOk T1 (!numOk T false 4) (numV T false 4)) T1 T1 (numV T false 4).toNat (.inr rfl)
          obtain ⟨T2, hT2e⟩ : ∃ T2, nx (takeOk T1 (!numOk T false 4) (numV T false 4)) (T1.drop (numV T false 4).toNat) T1 = T2 := ⟨_, rfl⟩
          rw [hT2e] at hT2 Htk
          have HI6 := Lib.hid (HI.out.take Hnull.out (fun e => HT1.out.1 e) HT1.out.2.1 (fun e => hT2.1 e) hT2.2.1)
          have HTL5 : Hid (T2 ≠ [] → L ≠ []) := Lib.hid (fun e => HTL.out (HT1.out.2.2 (hT2.2.2 e)))
          have hTl5 : T2.length ≤ L1.length := by have := HT1.out.2.1; have := hT2.2.1; omega
          obtain ⟨b2, hb2⟩ : ∃ b2, (!takeOk T1 (!numOk T false 4) (numV T false 4)) = b2 := ⟨_, rfl⟩
          obtain ⟨tv, htv⟩ : ∃ tv, takeV T1 (!numOk T false 4) (numV T false 4) = tv := ⟨_, rfl⟩
          rw [hb2, htv] at Htk HI6
          generalize numV T false 4 = nv at *
          clear hT2 hT2e hb2 htv hnull
          go_wp2_with fail
          refine Htk.out.mono ?_
          rintro e w6 ⟨v6, rfl, ho6, hs6, hT6⟩
          have hz6 := hT6.size
          obtain ⟨p6, c6, hv6, hby⟩ := ho6.bytesS (S := fun k => w.heap.size ≤ k ∧ rowOf u3 ≠ some k) (fun k hk => ⟨by omega, fun e => by have := (Hrow.out _ e).2; omega⟩)
          subst hv6
          have HO6 := Lib.hid (HO4.out.touch (S' := fun k => w.heap.size ≤ k) CeS.still hT6 (fun k hk => by have := (Hrow.out k hk).1; omega) (fun k _ hk _ => ⟨hk, fun e => by omega⟩))
          have hal : Below w6.heap.size w6 (w6.alloc (.cells #[.bool false, .slice p6 tv.length c6] 83)) := (Below.refl _ _).alloc (Nat.le_refl _) _
          have Ho7 := Lib.hid (HO6.out.below' CeS.still hal)
          have Hnw := Lib.hid (SliceS.new1 (S := fun k => w.heap.size ≤ k ∧ rowOf u3 ≠ some k) (S' := fun k => w.heap.size ≤ k ∧ rowOf u3 ≠ some k) CeS.still w6 83 #[.bool false, .slice p6 tv.length c6] ⟨false, tv⟩ ⟨p6, c6, rfl, hby⟩ rfl (fun k _ h => h) ⟨by omega, fun e => by have := (Hrow.out _ e).2; omega⟩)
          have HAl := Lib.hid hal
          have HS7 := Lib.hid hs6
          have HT7 := Lib.hid (HT4.out.trans hT6)
          have hwz : w.heap.size ≤ (w6.alloc (.cells #[.bool false, .slice p6 tv.length c6] 83)).heap.size := by rw [World.size_alloc]; omega

          clear hal hs6 hT6 ho6 hby
          generalize tv.length = ntv at *
          go_wp2_with (at_builtin; refine step_appendC _ rfl (.tmp 27) (.tmp 32) rfl w.heap.size u3 xs rfl Ho7.out (some ⟨w6.heap.size, 0, none⟩) 1 1 [⟨false, tv⟩] rfl Hnw.out (by simpa using hxr) hwz ?_; intro v8 w8 ho8 hg8 hn8; have Ho9 := Lib.hid ho8; have HT9 := Lib.hid ((HT7.out.trans (Touch.of_below HAl.out)).then (Touch.of_row hg8) (fun i hi e => by have := (Hrow.out i e.symm).1; omega)); have HS9 := Lib.hid ((HS7.out.touch (Touch.of_below (p := fun _ => False) HAl.out) (fun e => e) (fun _ e => e)).touch (Touch.of_row hg8) (fun e => by have := (Hrow.out _ e.symm).1; omega) (fun hne e => by have := (Hrow.out _ e.symm).1; have := Hg.out (HTL5.out hne); omega)); clear ho8 hg8 hn8)
          go_roundw
          case rel => exact ⟨m, T2, b2, xs ++ [⟨false, tv⟩], by omega, by first | rfl | trivial, HI6.out, HTL5.out, hTl5, Ho9.out, HS9.out, HT9.out⟩
          case measure => have := Hmi.out; simp [intOf]; omega

end Go.Proofs.YthhebfknikfleaaGreat

/-
  Messages of clients (layer 6): what a body says, by its code: a plain law, and steps put together.
-/
namespace Go.Proofs.YthhebfknikfleaaGreat
open Go.RowKit
set_option linter.unusedVariables false
set_option linter.unusedSimpArgs false

def foZero (k : Int) : FoV := ⟨k, 0, ⟨#[]⟩, ⟨#[]⟩, ⟨#[]⟩, [], [], [], [], 0⟩
/-- What a body says, by its code, and what is left behind it. -/
def readP (k : Int) (L : List UInt8) : Option (FoV × List UInt8) :=
  if k = 80 then (textQ L).bind fun a => (textQ a.2).bind fun b => (listQ 4 b.2).bind fun c => some ({ foZero k with name := a.1, text := b.1, oids := c.1 }, c.2)
  else if k = 66 then (textQ L).bind fun a => (textQ a.2).bind fun b => (listQ 2 b.2).bind fun c => (rowQ c.2).bind fun d => (listQ 2 d.2).bind fun e =>
    some ({ foZero k with portal := a.1, name := b.1, formats := c.1, params := d.1, results := e.1 }, e.2)
  else if k = 67 ∨ k = 68 then (numP 1 L).bind fun a => (textQ a.2).bind fun b => some ((if a.1 = 83 then { foZero k with what := a.1, name := b.1 } else { foZero k with what := a.1, portal := b.1 }), b.2)
  else if k = 69 then (textQ L).bind fun a => (numP 4 a.2).bind fun b => some ({ foZero k with portal := a.1, max := signedV b.1 4 }, b.2)
  else if k = 81 then (textQ L).bind fun a => some ({ foZero k with text := a.1 }, a.2)
  else some (foZero k, L)

section
variable {α β : Type} {L L1 L2 : List UInt8} {bad b1 b2 : Bool}
theorem StepO.bind {P : List UInt8 → Option (α × List UInt8)} {Q : α → List UInt8 → Option (β × List UInt8)} {x : α} {y : β}
    (h : StepO L bad P x L1 b1) (k : StepO L1 b1 (Q x) y L2 b2) : StepO L bad (fun L => (P L).bind fun a => Q a.1 a.2) y L2 b2 := by
  obtain ⟨h1, h2, h3⟩ := h
  obtain ⟨k1, k2, k3⟩ := k
  refine ⟨fun e => ?_, fun e => ?_, Nat.le_trans k3 h3⟩
  · obtain ⟨e1, q⟩ := k1 e
    obtain ⟨e0, p⟩ := h1 e1
    exact ⟨e0, by show (P L).bind _ = _; rw [p]; exact q⟩
  · cases hb : b1 with
    | true =>
      rcases h2 hb with e0 | p
      · exact .inl e0
      · exact .inr (by show (P L).bind _ = _; rw [p]; rfl)
    | false =>
      obtain ⟨e0, p⟩ := h1 hb
      rcases k2 e with e1 | q
      · rw [hb] at e1; cases e1
      · exact .inr (by show (P L).bind _ = _; rw [p]; exact q)
theorem StepO.ret (x : α) : StepO L bad (fun L => some (x, L)) x L bad := ⟨fun e => ⟨e, rfl⟩, fun e => .inl e, Nat.le_refl _⟩
theorem StepO.of_eq {P Q : List UInt8 → Option (α × List UInt8)} {x : α} (h : StepO L bad P x L1 b1) (e : ∀ l, Q l = P l) : StepO L bad Q x L1 b1 :=
  ⟨fun a => ⟨(h.1 a).1, (e L).trans (h.1 a).2⟩, fun a => (h.2.1 a).imp id fun q => (e L).trans q, h.2.2⟩
theorem StepO.num {E : List UInt8} (hE : E = [] ∨ E = L) (z : Nat) : StepO L bad (numP z) (numV L bad z) (nx (numOk L bad z) (L.drop (z : Int).toNat) E) (!numOk L bad z) := by
  have hn := nx_drop (numOk L bad z) L E (z : Int).toNat hE
  refine ⟨fun e => ?_, fun e => ?_, hn.2.1⟩
  · have e1 : numOk L bad z = true := by simpa using e
    have e0 : bad = false := by unfold numOk at e1; simp only [Bool.and_eq_true, Bool.not_eq_true'] at e1; exact e1.1.1
    subst e0
    exact ⟨rfl, by rw [hn.1 e1]; unfold numP; rw [if_pos e1]; rfl⟩
  · have e1 : numOk L bad z = false := by simpa using e
    cases bad with
    | true => exact .inl rfl
    | false => exact .inr (by unfold numP; rw [if_neg (by rw [e1]; exact Bool.false_ne_true)])
theorem StepO.text {E : List UInt8} (hE : E = [] ∨ E = L) : StepO L bad textQ (textV L bad) (nx (textOk L bad) (L.drop ((Lib.indexByte L 0).toNat + 1)) E) (!textOk L bad) := by
  have hn := nx_drop (textOk L bad) L E ((Lib.indexByte L 0).toNat + 1) hE
  refine ⟨fun e => ?_, fun e => ?_, hn.2.1⟩
  · have e1 : textOk L bad = true := by simpa using e
    have e0 : bad = false := by unfold textOk at e1; simp only [Bool.and_eq_true, Bool.not_eq_true'] at e1; exact e1.1
    subst e0
    exact ⟨rfl, by rw [hn.1 e1]; unfold textQ; rw [if_pos e1]⟩
  · have e1 : textOk L bad = false := by simpa using e
    cases bad with
    | true => exact .inl rfl
    | false => exact .inr (by unfold textQ; rw [if_neg (by rw [e1]; exact Bool.false_ne_true)])
end

section
variable {L L1 L2 L3 L4 L5 : List UInt8} {bad b1 b2 b3 b4 b5 : Bool}
theorem readP_P {n t : ByteArray} {o : List Int} (h1 : StepO L bad textQ n L1 b1) (h2 : StepO L1 b1 textQ t L2 b2) (h3 : StepO L2 b2 (listQ 4) o L3 b3) :
    StepO L bad (readP 80) { foZero 80 with name := n, text := t, oids := o } L3 b3 :=
  (h1.bind (Q := fun n l => (textQ l).bind fun b => (listQ 4 b.2).bind fun c => some ({ foZero 80 with name := n, text := b.1, oids := c.1 }, c.2))
    (h2.bind (Q := fun t l => (listQ 4 l).bind fun c => some ({ foZero 80 with name := n, text := t, oids := c.1 }, c.2))
      (h3.bind (Q := fun o l => some ({ foZero 80 with name := n, text := t, oids := o }, l)) (StepO.ret _)))).of_eq fun l => by unfold readP; rw [if_pos rfl]
theorem readP_B {p n : ByteArray} {fs rs : List Int} {cs : List CeV} (h1 : StepO L bad textQ p L1 b1) (h2 : StepO L1 b1 textQ n L2 b2) (h3 : StepO L2 b2 (listQ 2) fs L3 b3)
    (h4 : StepO L3 b3 rowQ cs L4 b4) (h5 : StepO L4 b4 (listQ 2) rs L5 b5) :
    StepO L bad (readP 66) { foZero 66 with portal := p, name := n, formats := fs, params := cs, results := rs } L5 b5 :=
  (h1.bind (Q := fun p l => (textQ l).bind fun b => (listQ 2 b.2).bind fun c => (rowQ c.2).bind fun d => (listQ 2 d.2).bind fun e => some ({ foZero 66 with portal := p, name := b.1, formats := c.1, params := d.1, results := e.1 }, e.2))
    (h2.bind (Q := fun n l => (listQ 2 l).bind fun c => (rowQ c.2).bind fun d => (listQ 2 d.2).bind fun e => some ({ foZero 66 with portal := p, name := n, formats := c.1, params := d.1, results := e.1 }, e.2))
      (h3.bind (Q := fun fs l => (rowQ l).bind fun d => (listQ 2 d.2).bind fun e => some ({ foZero 66 with portal := p, name := n, formats := fs, params := d.1, results := e.1 }, e.2))
        (h4.bind (Q := fun cs l => (listQ 2 l).bind fun e => some ({ foZero 66 with portal := p, name := n, formats := fs, params := cs, results := e.1 }, e.2))
          (h5.bind (Q := fun rs l => some ({ foZero 66 with portal := p, name := n, formats := fs, params := cs, results := rs }, l)) (StepO.ret _)))))).of_eq
    fun l => by unfold readP; rw [if_neg (by decide), if_pos rfl]
theorem readP_C {k x : Int} (hk : k = 67 ∨ k = 68) {n : ByteArray} (h1 : StepO L bad (numP 1) x L1 b1) (h2 : StepO L1 b1 textQ n L2 b2) :
    StepO L bad (readP k) (if x = 83 then { foZero k with what := x, name := n } else { foZero k with what := x, portal := n }) L2 b2 :=
  (h1.bind (Q := fun x l => (textQ l).bind fun b => some ((if x = 83 then { foZero k with what := x, name := b.1 } else { foZero k with what := x, portal := b.1 }), b.2))
    (h2.bind (Q := fun n l => some ((if x = 83 then { foZero k with what := x, name := n } else { foZero k with what := x, portal := n }), l)) (StepO.ret _))).of_eq
    fun l => by unfold readP; rw [if_neg (by omega), if_neg (by omega), if_pos hk]
theorem readP_E {x : Int} {n : ByteArray} (h1 : StepO L bad textQ n L1 b1) (h2 : StepO L1 b1 (numP 4) x L2 b2) :
    StepO L bad (readP 69) { foZero 69 with portal := n, max := signedV x 4 } L2 b2 :=
  (h1.bind (Q := fun n l => (numP 4 l).bind fun b => some ({ foZero 69 with portal := n, max := signedV b.1 4 }, b.2))
    (h2.bind (Q := fun x l => some ({ foZero 69 with portal := n, max := signedV x 4 }, l)) (StepO.ret _))).of_eq
    fun l => by unfold readP; rw [if_neg (by decide), if_neg (by decide), if_neg (by decide), if_pos rfl]
theorem readP_Q {n : ByteArray} (h1 : StepO L bad textQ n L1 b1) : StepO L bad (readP 81) { foZero 81 with text := n } L1 b1 :=
  (h1.bind (Q := fun n l => some ({ foZero 81 with text := n }, l)) (StepO.ret _)).of_eq
    fun l => by unfold readP; rw [if_neg (by decide), if_neg (by decide), if_neg (by decide), if_neg (by decide), if_pos rfl]
theorem readP_other {k : Int} (h1 : k ≠ 80) (h2 : k ≠ 66) (h3 : ¬ (k = 67 ∨ k = 68)) (h4 : k ≠ 69) (h5 : k ≠ 81) : StepO L bad (readP k) (foZero k) L bad :=
  (StepO.ret (foZero k)).of_eq fun l => by unfold readP; rw [if_neg h1, if_neg h2, if_neg h3, if_neg h4, if_neg h5]
end

end Go.Proofs.YthhebfknikfleaaGreat

/-
  Plain laws of pieces: numbers, texts, lists and values; what was put is read, what is read has just these bytes.
-/
namespace Go.Proofs.YthhebfknikfleaaGreat
open Go.RowKit
set_option linter.unusedVariables false
set_option linter.unusedSimpArgs false

theorem indexByte_app : ∀ (A R : List UInt8), (0 : UInt8) ∉ A → Lib.indexByte (A ++ 0 :: R) 0 = (A.length : Int)
  | [], R, _ => by simp [Lib.indexByte]
  | a :: A, R, h => by
    simp only [List.mem_cons, not_or] at h
    have ih := indexByte_app A R h.2
    have ha : (a == 0) = false := by simpa using fun e => h.1 e.symm
    rw [List.cons_append, Lib.indexByte, ha, ih]
    first | (simp; done) | (simp; omega)
theorem indexByte_split : ∀ T : List UInt8, Lib.indexByte T 0 = -1 ∨ ∃ A R, T = A ++ 0 :: R ∧ (0 : UInt8) ∉ A
  | [] => .inl rfl
  | a :: T => by
    by_cases ha : a = 0
    · subst ha
      exact .inr ⟨[], T, rfl, by simp⟩
    · have ha' : (a == 0) = false := by simpa using ha
      rcases indexByte_split T with h | ⟨A, R, rfl, h⟩
      · left
        rw [Lib.indexByte, ha', h]
        rfl
      · exact .inr ⟨a :: A, R, rfl, by simp only [List.mem_cons, not_or]; exact ⟨fun e => ha e.symm, h⟩⟩

theorem strOf_data (s : ByteArray) : strOf s.data.toList = s := by simp [strOf]
theorem data_strOf (l : List UInt8) : (strOf l).data.toList = l := by simp [strOf]
theorem strOf_nil {l : List UInt8} (h : strOf l = ⟨#[]⟩) : l = [] := by
  have := congrArg (fun s => s.data.toList) h
  simpa [data_strOf] using this

theorem text_app (A R : List UInt8) (h : (0 : UInt8) ∉ A) : textOk (A ++ 0 :: R) false = true ∧ textV (A ++ 0 :: R) false = strOf A ∧ (A ++ 0 :: R).drop ((Lib.indexByte (A ++ 0 :: R) 0).toNat + 1) = R := by
  have hi := indexByte_app A R h
  have hok : textOk (A ++ 0 :: R) false = true := by
    unfold textOk
    rw [hi]
    first | (simp; done) | (simp; omega)
  refine ⟨hok, ?_, ?_⟩
  · unfold textV
    rw [hok, hi]
    simp
  · rw [hi]
    simp
theorem text_split {T : List UInt8} (h : textOk T false = true) : ∃ A R, T = A ++ 0 :: R ∧ (0 : UInt8) ∉ A := by
  rcases indexByte_split T with e | e
  · unfold textOk at h
    rw [e] at h
    simp at h
  · exact e

theorem clean_mem {s : ByteArray} (h : cleanB s = true) : (0 : UInt8) ∉ s.data.toList := by
  unfold cleanB at h
  simpa using h
theorem bindQ_some {α β : Type} {o : Option α} {f : α → Option β} {y : β} (h : o.bind f = some y) : ∃ a, o = some a ∧ f a = some y := by
  cases o with
  | none => cases h
  | some a => exact ⟨a, rfl, h⟩

/-- The bytes of a number of so many bytes. -/
theorem putB_be : ∀ {l : List UInt8} {z : Nat}, (z = 1 ∨ z = 2 ∨ z = 4) → l.length = z → putB (be l) z z = l := by
  intro l z hz hl
  rcases hz with rfl | rfl | rfl
  · match l, hl with
    | [a], _ =>
      have h0 := putAt_shr (be [a]) 1 0 (by omega) (by omega)
      have ha := a.toNat_lt
      have e0 : putAt (be [a]) 1 0 = a := UInt8.toNat_inj.1 (by simp [be] at h0 ⊢; omega)
      simp only [putB, List.range_succ, List.range_zero, List.nil_append, List.map_append, List.map_cons, List.map_nil, List.cons_append, e0]
  · match l, hl with
    | [a, b], _ =>
      have h0 := putAt_shr (be [a, b]) 2 0 (by omega) (by omega)
      have h1 := putAt_shr (be [a, b]) 2 1 (by omega) (by omega)
      have ha := a.toNat_lt
      have hb := b.toNat_lt
      have e0 : putAt (be [a, b]) 2 0 = a := UInt8.toNat_inj.1 (by simp [be] at h0 ⊢; omega)
      have e1 : putAt (be [a, b]) 2 1 = b := UInt8.toNat_inj.1 (by simp [be] at h1 ⊢; omega)
      simp only [putB, List.range_succ, List.range_zero, List.nil_append, List.map_append, List.map_cons, List.map_nil, List.cons_append, e0, e1]
  · match l, hl with
    | [a, b, c, d], _ =>
      have h0 := putAt_shr (be [a, b, c, d]) 4 0 (by omega) (by omega)
      have h1 := putAt_shr (be [a, b, c, d]) 4 1 (by omega) (by omega)
      have h2 := putAt_shr (be [a, b, c, d]) 4 2 (by omega) (by omega)
      have h3 := putAt_shr (be [a, b, c, d]) 4 3 (by omega) (by omega)
      have ha := a.toNat_lt
      have hb := b.toNat_lt
      have hc := c.toNat_lt
      have hd := d.toNat_lt
      have e0 : putAt (be [a, b, c, d]) 4 0 = a := UInt8.toNat_inj.1 (by simp [be] at h0 ⊢; omega)
      have e1 : putAt (be [a, b, c, d]) 4 1 = b := UInt8.toNat_inj.1 (by simp [be] at h1 ⊢; omega)
      have e2 : putAt (be [a, b, c, d]) 4 2 = c := UInt8.toNat_inj.1 (by simp [be] at h2 ⊢; omega)
      have e3 : putAt (be [a, b, c, d]) 4 3 = d := UInt8.toNat_inj.1 (by simp [be] at h3 ⊢; omega)
      simp only [putB, List.range_succ, List.range_zero, List.nil_append, List.map_append, List.map_cons, List.map_nil, List.cons_append, e0, e1, e2, e3]

/-- A size that numbers have. -/
def Sz (z : Nat) : Prop := z = 1 ∨ z = 2 ∨ z = 4
theorem Sz.sized {z : Nat} (h : Sz z) : sizedB (z : Int) = true := by rcases h with rfl | rfl | rfl <;> decide
theorem numP_put {z : Nat} (hz : Sz z) (n : Int) (R : List UInt8) : numP z (putB n z z ++ R) = some (n % 2 ^ (8 * z), R) := by
  have hl := putB_length n z z
  have hok : numOk (putB n z z ++ R) false z = true := by
    unfold numOk
    rw [hz.sized]
    simp [hl]
    omega
  have hv : numV (putB n z z ++ R) false z = n % 2 ^ (8 * z) := by
    unfold numV
    rw [if_pos hok, Int.toNat_natCast, List.take_append_of_le_length (by omega), List.take_of_length_le (by omega)]
    exact be_putB' n z hz
  unfold numP
  rw [if_pos hok, hv, List.drop_append_of_le_length (by omega), List.drop_of_length_le (by omega), List.nil_append]
theorem numP_in {z : Nat} (hz : Sz z) {n : Int} (h0 : 0 ≤ n) (h1 : n < 2 ^ (8 * z)) (R : List UInt8) : numP z (putB n z z ++ R) = some (n, R) := by
  rw [numP_put hz, Int.emod_eq_of_lt h0 h1]
theorem numP_out {z : Nat} (hz : Sz z) {L R : List UInt8} {n : Int} (h : numP z L = some (n, R)) : L = putB n z z ++ R ∧ 0 ≤ n ∧ n < 2 ^ (8 * z) := by
  unfold numP at h
  split at h
  · rename_i hok
    injection h with h
    injection h with h1 h2
    have hl : z ≤ L.length := by
      unfold numOk at hok
      simp only [Bool.and_eq_true, decide_eq_true_eq] at hok
      omega
    have hA : (L.take z).length = z := by rw [List.length_take]; omega
    have hv : numV L false z = be (L.take z) := by unfold numV; rw [if_pos hok, Int.toNat_natCast]
    have hb := be_bd (L.take z)
    rw [hA] at hb
    have hp : (256 : Int) ^ z = 2 ^ (8 * z) := by rcases hz with rfl | rfl | rfl <;> rfl
    rw [hp, ← hv, h1] at hb
    refine ⟨?_, hb.1, hb.2⟩
    rw [← h1, hv, putB_be hz hA, ← h2, List.take_append_drop]
  · cases h

/-- A text with its end. -/
def strP (s : ByteArray) : List UInt8 := s.data.toList ++ [0]
theorem strB_p (b : List UInt8) (s : ByteArray) : strB b s = b ++ strP s := by unfold strB strP; rw [List.append_assoc]
theorem textQ_in {s : ByteArray} (h : cleanB s = true) (R : List UInt8) : textQ (strP s ++ R) = some (s, R) := by
  obtain ⟨h1, h2, h3⟩ := text_app s.data.toList R (clean_mem h)
  have e : strP s ++ R = s.data.toList ++ 0 :: R := by unfold strP; rw [List.append_assoc]; rfl
  rw [e]
  unfold textQ
  rw [if_pos h1, h2, h3, strOf_data]
theorem textQ_out {L R : List UInt8} {s : ByteArray} (h : textQ L = some (s, R)) : L = strP s ++ R ∧ cleanB s = true := by
  unfold textQ at h
  split at h
  · rename_i hok
    injection h with h
    injection h with h1 h2
    obtain ⟨A, T, rfl, hA⟩ := text_split hok
    obtain ⟨t1, t2, t3⟩ := text_app A T hA
    rw [t2] at h1
    rw [t3] at h2
    subst h1 h2
    refine ⟨?_, ?_⟩
    · unfold strP
      rw [data_strOf, List.append_assoc]
      rfl
    · unfold cleanB
      rw [data_strOf]
      simpa using hA
  · cases h

/-- Numbers one behind the other. -/
def numsC (z : Nat) (l : List Int) : List UInt8 := l.flatMap fun n => putB n z z
theorem numsP_in {z : Nat} (hz : Sz z) : ∀ (l : List Int) (R : List UInt8), (∀ n ∈ l, 0 ≤ n ∧ n < 2 ^ (8 * z)) → numsP z l.length (numsC z l ++ R) = some (l, R)
  | [], R, _ => rfl
  | n :: l, R, h => by
    have hn := h n (by simp)
    have e : numsC z (n :: l) ++ R = putB n z z ++ (numsC z l ++ R) := by simp [numsC]
    rw [e, List.length_cons, numsP, numP_in hz hn.1 hn.2]
    show (numsP z l.length (numsC z l ++ R)).bind _ = _
    rw [numsP_in hz l R (fun m hm => h m (by simp [hm]))]
    rfl
theorem numsP_out {z : Nat} (hz : Sz z) : ∀ (n : Nat) (L R : List UInt8) (l : List Int), numsP z n L = some (l, R) → L = numsC z l ++ R ∧ l.length = n ∧ ∀ m ∈ l, 0 ≤ m ∧ m < 2 ^ (8 * z)
  | 0, L, R, l, h => by
    injection h with h
    injection h with h1 h2
    subst h1 h2
    exact ⟨rfl, rfl, fun m hm => by cases hm⟩
  | n + 1, L, R, l, h => by
    obtain ⟨⟨a, L1⟩, e1, h⟩ := bindQ_some h
    obtain ⟨⟨b, L2⟩, e2, h⟩ := bindQ_some h
    injection h with h
    injection h with h1 h2
    obtain ⟨q1, q2, q3⟩ := numP_out hz e1
    obtain ⟨k1, k2, k3⟩ := numsP_out hz n _ _ _ e2
    dsimp only at h1 h2 k1
    subst h1 h2
    refine ⟨?_, by rw [List.length_cons, k2], fun m hm => ?_⟩
    · rw [q1, k1]
      simp [numsC]
    · rcases List.mem_cons.1 hm with rfl | hm
      · exact ⟨q2, q3⟩
      · exact k3 m hm
/-- A list with its size ahead. -/
def listC (z : Nat) (l : List Int) : List UInt8 := putB l.length 2 2 ++ numsC z l
theorem listQ_in {z : Nat} (hz : Sz z) (l : List Int) (R : List UInt8) (hl : l.length ≤ 65535) (h : ∀ n ∈ l, 0 ≤ n ∧ n < 2 ^ (8 * z)) : listQ z (listC z l ++ R) = some (l, R) := by
  unfold listQ listC
  rw [List.append_assoc, numP_in (.inr (.inl rfl)) (by omega) (by show (l.length : Int) < 65536; omega)]
  show numsP z ((l.length : Int)).toNat _ = _
  rw [Int.toNat_natCast]
  exact numsP_in hz l R h
theorem listQ_out {z : Nat} (hz : Sz z) {L R : List UInt8} {l : List Int} (h : listQ z L = some (l, R)) : L = listC z l ++ R ∧ l.length ≤ 65535 ∧ ∀ m ∈ l, 0 ≤ m ∧ m < 2 ^ (8 * z) := by
  unfold listQ at h
  obtain ⟨⟨a, L1⟩, e1, h⟩ := bindQ_some h
  obtain ⟨q1, q2, q3⟩ := numP_out (.inr (.inl rfl)) e1
  obtain ⟨k1, k2, k3⟩ := numsP_out hz _ _ _ _ h
  dsimp only at k1 k2
  have q3' : a < 65536 := q3
  refine ⟨?_, by omega, k3⟩
  unfold listC
  rw [q1, k1, List.append_assoc, show (l.length : Int) = a by omega]
theorem listB_c (b : List UInt8) (l : List Int) {z : Nat} (hz : Sz z) (hl : l.length ≤ 65535) (h : ∀ n ∈ l, 0 ≤ n ∧ n < 2 ^ (8 * z)) : listB b l z = b ++ listC z l := by
  have hr : ∀ n : Int, 0 ≤ n → n < 2 ^ (8 * z) → rightB n (z : Int) = true := by
    intro n h0 h1
    rcases hz with rfl | rfl | rfl <;> (simp [rightB, sizedB] at h1 ⊢; omega)
  have hf : ∀ (l : List Int) (b : List UInt8), (∀ n ∈ l, 0 ≤ n ∧ n < 2 ^ (8 * z)) → l.foldl (fun b n => putV b n z) b = b ++ numsC z l := by
    intro l
    induction l with
    | nil => intro b _; simp [numsC]
    | cons n l ih =>
      intro b h
      have hn := h n (by simp)
      rw [List.foldl_cons, putV_right (hr n hn.1 hn.2), ih _ (fun m hm => h m (by simp [hm]))]
      simp [numsC]
  unfold listB listC
  have e2 : putV b l.length 2 = b ++ putB l.length 2 2 := putV_right (z := 2) (rightB_2 (by omega) (by omega))
  rw [e2, hf l _ h, List.append_assoc]

/-- A value, as bytes. -/
def cellC (c : CeV) : List UInt8 := if c.null then putB 4294967295 4 4 else putB c.bytes.length 4 4 ++ c.bytes
def rightC (c : CeV) : Prop := (c.null = true → c.bytes = []) ∧ c.bytes.length < 4294967295
theorem takeP_in (A R : List UInt8) : takeP (A.length : Int) (A ++ R) = some (A, R) := by
  have hok : takeOk (A ++ R) false (A.length : Int) = true := by
    unfold takeOk
    simp
    omega
  unfold takeP
  rw [if_pos hok]
  unfold takeV
  rw [if_pos hok, Int.toNat_natCast, List.take_append_of_le_length (Nat.le_refl _), List.take_of_length_le (Nat.le_refl _), List.drop_append_of_le_length (Nat.le_refl _), List.drop_of_length_le (Nat.le_refl _), List.nil_append]
theorem takeP_out {n : Int} {L A R : List UInt8} (h : takeP n L = some (A, R)) : L = A ++ R ∧ (A.length : Int) = n := by
  unfold takeP at h
  split at h
  · rename_i hok
    injection h with h
    injection h with h1 h2
    unfold takeV at h1
    rw [if_pos hok] at h1
    unfold takeOk at hok
    simp only [Bool.and_eq_true, decide_eq_true_eq] at hok
    subst h1 h2
    refine ⟨(List.take_append_drop _ _).symm, ?_⟩
    rw [List.length_take]
    omega
  · cases h
theorem cellP_in (c : CeV) (R : List UInt8) (h : rightC c) : cellP (cellC c ++ R) = some (c, R) := by
  obtain ⟨nl, bs⟩ := c
  obtain ⟨h1, h2⟩ := h
  dsimp only at h1 h2
  unfold cellP cellC
  cases nl with
  | true =>
    have hb := h1 rfl
    subst hb
    dsimp only
    rw [if_pos rfl, numP_in (.inr (.inr rfl)) (by omega) (by show (4294967295 : Int) < 4294967296; omega)]
    rfl
  | false =>
    dsimp only
    rw [if_neg Bool.false_ne_true, List.append_assoc, numP_in (.inr (.inr rfl)) (by omega) (by show (bs.length : Int) < 4294967296; omega)]
    show (if ((bs.length : Nat) : Int) = 4294967295 then _ else _) = _
    rw [if_neg (by omega), takeP_in]
    rfl
theorem cellP_out {L R : List UInt8} {c : CeV} (h : cellP L = some (c, R)) : L = cellC c ++ R ∧ rightC c := by
  unfold cellP at h
  obtain ⟨⟨a, L1⟩, e1, h⟩ := bindQ_some h
  obtain ⟨q1, q2, q3⟩ := numP_out (.inr (.inr rfl)) e1
  have q3' : a < 4294967296 := q3
  dsimp only at h
  split at h
  · rename_i ha
    injection h with h
    injection h with h1 h2
    subst h1 h2 ha
    refine ⟨?_, fun _ => rfl, by decide⟩
    rw [q1]
    rfl
  · rename_i ha
    obtain ⟨⟨b, L2⟩, e2, h⟩ := bindQ_some h
    injection h with h
    injection h with h1 h2
    obtain ⟨k1, k2⟩ := takeP_out e2
    dsimp only at h1 h2
    subst h1 h2
    refine ⟨?_, (fun e => by cases e), by show b.length < _; omega⟩
    unfold cellC
    rw [if_neg Bool.false_ne_true, q1, k1, List.append_assoc]
    show _ = putB ((b.length : Nat) : Int) 4 4 ++ _
    rw [k2]
def cellsC (l : List CeV) : List UInt8 := l.flatMap cellC
theorem cellsP_in : ∀ (l : List CeV) (R : List UInt8), (∀ c ∈ l, rightC c) → cellsP l.length (cellsC l ++ R) = some (l, R)
  | [], R, _ => rfl
  | c :: l, R, h => by
    have e : cellsC (c :: l) ++ R = cellC c ++ (cellsC l ++ R) := by simp [cellsC]
    rw [e, List.length_cons, cellsP, cellP_in c _ (h c (by simp))]
    show (cellsP l.length (cellsC l ++ R)).bind _ = _
    rw [cellsP_in l R (fun m hm => h m (by simp [hm]))]
    rfl
theorem cellsP_out : ∀ (n : Nat) (L R : List UInt8) (l : List CeV), cellsP n L = some (l, R) → L = cellsC l ++ R ∧ l.length = n ∧ ∀ c ∈ l, rightC c
  | 0, L, R, l, h => by
    injection h with h
    injection h with h1 h2
    subst h1 h2
    exact ⟨rfl, rfl, fun m hm => by cases hm⟩
  | n + 1, L, R, l, h => by
    obtain ⟨⟨a, L1⟩, e1, h⟩ := bindQ_some h
    obtain ⟨⟨b, L2⟩, e2, h⟩ := bindQ_some h
    injection h with h
    injection h with h1 h2
    obtain ⟨q1, q2⟩ := cellP_out e1
    obtain ⟨k1, k2, k3⟩ := cellsP_out n _ _ _ e2
    dsimp only at h1 h2 k1
    subst h1 h2
    refine ⟨?_, by rw [List.length_cons, k2], fun m hm => ?_⟩
    · rw [q1, k1]
      simp [cellsC]
    · rcases List.mem_cons.1 hm with rfl | hm
      · exact q2
      · exact k3 m hm
def rowC (l : List CeV) : List UInt8 := putB l.length 2 2 ++ cellsC l
theorem rowQ_in (l : List CeV) (R : List UInt8) (hl : l.length ≤ 65535) (h : ∀ c ∈ l, rightC c) : rowQ (rowC l ++ R) = some (l, R) := by
  unfold rowQ rowC
  rw [List.append_assoc, numP_in (.inr (.inl rfl)) (by omega) (by show (l.length : Int) < 65536; omega)]
  show cellsP ((l.length : Int)).toNat _ = _
  rw [Int.toNat_natCast]
  exact cellsP_in l R h
theorem rowQ_out {L R : List UInt8} {l : List CeV} (h : rowQ L = some (l, R)) : L = rowC l ++ R ∧ l.length ≤ 65535 ∧ ∀ c ∈ l, rightC c := by
  unfold rowQ at h
  obtain ⟨⟨a, L1⟩, e1, h⟩ := bindQ_some h
  obtain ⟨q1, q2, q3⟩ := numP_out (.inr (.inl rfl)) e1
  obtain ⟨k1, k2, k3⟩ := cellsP_out _ _ _ _ h
  dsimp only at k1 k2
  have q3' : a < 65536 := q3
  refine ⟨?_, by omega, k3⟩
  unfold rowC
  rw [q1, k1, List.append_assoc, show (l.length : Int) = a by omega]
theorem rowB_c (b : List UInt8) (l : List CeV) (hl : l.length ≤ 65535) (h : ∀ c ∈ l, rightC c) : rowB b l = b ++ rowC l := by
  have hf : ∀ (l : List CeV) (b : List UInt8), (∀ c ∈ l, rightC c) → l.foldl cellB b = b ++ cellsC l := by
    intro l
    induction l with
    | nil => intro b _; simp [cellsC]
    | cons c l ih =>
      intro b h
      have hc := h c (by simp)
      have e : cellB b c = b ++ cellC c := by
        unfold cellB cellC
        split
        · exact putV_right (z := 4) (rightB_4 (by omega) (by omega))
        · have e4 : putV b c.bytes.length 4 = b ++ putB c.bytes.length 4 4 := putV_right (z := 4) (rightB_4 (by omega) (by have := hc.2; omega))
          rw [e4, List.append_assoc]
      rw [List.foldl_cons, e, ih _ (fun m hm => h m (by simp [hm]))]
      simp [cellsC]
  unfold rowB rowC
  have e2 : putV b l.length 2 = b ++ putB l.length 2 2 := putV_right (z := 2) (rightB_2 (by omega) (by omega))
  rw [e2, hf l _ h, List.append_assoc]

end Go.Proofs.YthhebfknikfleaaGreat

/-
  Plain laws of lists that are the same, of numbers that are put and read.
-/
namespace Go.Proofs.YthhebfknikfleaaGreat
open Go.RowKit
set_option linter.unusedVariables false
set_option linter.unusedSimpArgs false

theorem str_same {a b : ByteArray} (h : (a.toList == b.toList) = true) : a = b := by
  have ha : a = strOf a.data.toList := by simp [strOf]
  have hb : b = strOf b.data.toList := by simp [strOf]
  have e : a.toList = b.toList := by simpa using h
  rw [ha, hb] at e ⊢
  rw [strOf_toList, strOf_toList] at e
  rw [e]
theorem listEq_same {α : Type} {f : α → α → Bool} (hf : ∀ a b, f a b = true → a = b) : ∀ {l m : List α}, listEq f l m = true → l = m
  | [], [], _ => rfl
  | [], b :: m, h => by simp [listEq] at h
  | a :: l, [], h => by simp [listEq] at h
  | a :: l, b :: m, h => by
    simp only [listEq, Bool.and_eq_true] at h
    rw [hf a b h.1, listEq_same hf h.2]
theorem ceEq_same (a b : CeV) (h : ceEq a b = true) : a = b := by
  obtain ⟨an, al⟩ := a
  obtain ⟨bn, bl⟩ := b
  simp [ceEq] at h
  rw [h.1, h.2]
theorem between_parts {l : List Int} {hi : Int} (h : between l 0 hi = true) : l.length ≤ 65535 ∧ ∀ n ∈ l, 0 ≤ n ∧ n < hi + 1 := by
  unfold between at h
  simp only [Bool.and_eq_true, decide_eq_true_eq, Bool.not_eq_true', List.any_eq_false] at h
  refine ⟨h.1, fun n hn => ?_⟩
  have := h.2 n hn
  unfold outside at this
  simp at this
  omega
theorem values_parts {l : List CeV} (h : valuesV l = true) : l.length ≤ 65535 ∧ ∀ c ∈ l, rightC c := by
  unfold valuesV at h
  simp only [Bool.and_eq_true, decide_eq_true_eq, Bool.not_eq_true', List.any_eq_false] at h
  refine ⟨h.1, fun c hc => ?_⟩
  have := h.2 c hc
  unfold wrongC at this
  simp at this
  refine ⟨fun e => ?_, by omega⟩
  have h2 := this.1 e
  simpa using h2
theorem byte_put {n : Int} (h0 : 0 ≤ n) (h1 : n < 256) : [UInt8.ofNat n.toNat] = putB n 1 1 := by
  have h := putAt_shr n 1 0 (.inl rfl) (by omega)
  simp only [putB, List.range_succ, List.range_zero, List.nil_append, List.map_cons, List.map_nil]
  congr 1
  apply UInt8.toNat_inj.1
  simp at h ⊢
  omega
theorem signed_back {n : Int} (h0 : -2147483648 ≤ n) (h1 : n < 2147483648) : signedV (n % 2 ^ (8 * 4)) 4 = n := by
  unfold signedV
  have hs : sizedB 4 = true := by decide
  rw [hs]
  have e1 : (2 : Int) ^ (8 * (4 : Int).toNat) = 4294967296 := by decide
  have e2 : (2 : Int) ^ (8 * 4) = 4294967296 := by decide
  rw [e1, e2]
  simp only [true_and]
  split <;> omega

end Go.Proofs.YthhebfknikfleaaGreat

