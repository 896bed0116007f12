/-
  Messages of clients (layer 6): numbers that are read: the program's and the document's.
-/
import Derived.Test.YtldjfmddjbdciaaFoR
namespace Go.Proofs.Ytldjfmddjbdciaa
open Go.RowKit
set_option linter.unusedVariables false
set_option linter.unusedSimpArgs false

theorem RefS.cellsF {w : World} {xb g : Nat} {L : List UInt8} {no : Bool} (h : RefS w xb g L no) : ∃ p c, ∀ i, w.cell? ⟨xb, i, none⟩ = (#[.slice p L.length c, .bool no] : Array Value)[i]? := by
  obtain ⟨p, c, hb, _⟩ := h
  exact ⟨p, c, hb.cell⟩
theorem RefS.ltgF {w : World} {xb g : Nat} {L : List UInt8} {no : Bool} (h : RefS w xb g L no) (hL : L ≠ []) : g < w.heap.size := by
  obtain ⟨p, c, hb, h1, h2, h3, h4, _⟩ := h
  obtain ⟨b, o, e, hc⟩ := h3 0 (List.length_pos_iff.2 hL)
  have := h4 _ e
  rw [← this]
  exact World.block_lt_of_cell? w _ hc
abbrev OwnI (B : Nat) (w : World) (v : Value) (xs : List Int) : Prop := OwnS B 3 1 IntU (fun k => B ≤ k) w v xs
theorem Try.info3 : (Try.prog.info? 3).map (fun i => (i.zero, i.size, i.bytes)) = some (some (.int .i64 0), 1, 8) := by kernel_rfl
theorem info_int : ∃ i z, Try.prog.info? 3 = some i ∧ i.zero = some z ∧ i.size = 1 ∧ i.bytes = 8 ∧ z.cells.size = 1 := by
  obtain ⟨i0, hi, hz0, hz1, hz2⟩ := info_parts Try.info3
  exact ⟨i0, _, hi, hz0, hz1, hz2, rfl⟩

/-- A number behind numbers. -/
theorem step_appendI {ops : Array Oper} {rest : List Oper} {o : Oper} {a : Act} {Q : Exit → Act → World → Prop} (w : World) (hgd : o.guard = none) (s y : Operand)
    (ho : o.op = .call { callee := .builtin .append, args := #[s, y], argTypes := #[22, 22] })
    (B : Nat) (v : Value) (xs : List Int) (hsv : a.eval s = v) (hown : OwnI B w v xs) (p : Option Addr) (n c : Nat) (ys : List Int) (hx : a.eval y = .slice p n c) (hs : SliceS 1 IntU (fun k => B ≤ k ∧ rowOf v ≠ some k) w [.slice p n c] ys)
    (hroom : xs.length + ys.length ≤ 1000000) (hbase : B ≤ w.heap.size)
    (h : ∀ v' w', OwnI B w' v' (xs ++ ys) → w.grownBy w' (rowOf v) → (∀ k, rowOf v' = some k → rowOf v = some k ∨ w.heap.size ≤ k) → wpList Try.prog ops Q rest (a.put o.dst v') w') : wpList Try.prog ops Q (o :: rest) a w :=
  wpList_append_S w hgd s y 22 22 ho B 3 3 1 8 Try.underlying22 Try.underlying22 info_int IntU IntU.still IntU.one (fun k => B ≤ k) v xs hsv hown p n c ys hx hs
    (by omega) (by simp only [maxLen]; omega) hbase h

theorem numP2 (L : List UInt8) : numP 2 L = if numOk L false 2 = true then some (numV L false 2, L.drop 2) else none := rfl

/-- What holds in the loop. -/
structure NmI (zn : Nat) (R : Option (List Int × List UInt8)) (l1 : Nat) (bad1 : Bool) (m : Nat) (T : List UInt8) (b : Bool) (xs : List Int) : Prop where
  good : b = false → bad1 = false ∧ R = (numsP zn m T).map (fun q => (xs ++ q.1, q.2))
  bad : b = true → bad1 = true ∨ R = none
  len : T.length + xs.length ≤ l1 + (if b = true then 1 else 0)
theorem NmI.step {zn : Nat} {R : Option (List Int × List UInt8)} {l1 : Nat} {bad1 : Bool} {m : Nat} {T T' : List UInt8} {xs : List Int} (h : NmI zn R l1 bad1 (m + 1) T false xs) (hz : 0 < zn)
    (hT1 : numOk T false zn = true → T' = T.drop zn) (hT2 : T'.length ≤ T.length) : NmI zn R l1 bad1 m T' (!numOk T false zn) (xs ++ [numV T false zn]) := by
  obtain ⟨h1, h2⟩ := h.good rfl
  have hl := h.len
  simp only [Bool.false_eq_true, if_false, Nat.add_zero] at hl
  cases hok : numOk T false zn with
  | true =>
    have hd := hT1 hok
    subst hd
    refine ⟨fun _ => ⟨h1, ?_⟩, (fun e => by cases e), ?_⟩
    · rw [h2, numsP, numP, if_pos hok]
      simp only [Option.bind_some]
      cases numsP zn m (T.drop zn) with
      | none => rfl
      | some q => simp
    · have : zn ≤ T.length := by unfold numOk at hok; simp at hok; omega
      simp
      omega
  | false =>
    refine ⟨(fun e => by cases e), fun _ => .inr ?_, ?_⟩
    · rw [h2, numsP, numP, if_neg (by rw [hok]; decide)]
      rfl
    · simp
      omega
theorem NmI.fin {zn : Nat} {L L1 : List UInt8} {bad : Bool} {l1 : Nat} {n : Nat} {m : Nat} {T : List UInt8} {b : Bool} {xs : List Int}
    (h : NmI zn (numsP zn n L1) l1 (!numOk L bad 2) m T b xs) (hn : numV L bad 2 = n) (hL1 : numOk L bad 2 = true → L1 = L.drop 2) (hm : m = 0 ∨ b = true) (hT : T.length ≤ L.length) : StepO L bad (listQ zn) xs T b := by
  refine ⟨fun hb => ?_, fun hb => ?_, hT⟩
  · subst hb
    obtain ⟨h1, h2⟩ := h.good rfl
    have hok : numOk L bad 2 = true := by simpa using h1
    have hbf : bad = false := by unfold numOk at hok; simp at hok; exact hok.1.1
    subst hbf
    rcases hm with rfl | hb
    · refine ⟨rfl, ?_⟩
      unfold listQ
      rw [numP2, if_pos hok]
      simp only [Option.bind_some]
      rw [hn, Int.toNat_natCast, ← hL1 hok, h2]
      simp [numsP]
    · cases hb
  · rcases h.bad hb with h1 | h1
    · cases bad with
      | true => exact .inl rfl
      | false =>
        right
        have hok : numOk L false 2 = false := by simpa using h1
        unfold listQ
        rw [numP2, if_neg (by rw [hok]; decide)]
        rfl
    · cases bad with
      | true => exact .inl rfl
      | false =>
        right
        unfold listQ
        rw [numP2]
        by_cases hok : numOk L false 2 = true
        · rw [if_pos hok]
          simp only [Option.bind_some]
          rw [hn, Int.toNat_natCast, ← hL1 hok]
          exact h1
        · rw [if_neg hok]
          rfl

/-- What is read of numbers. -/
def flistR (sb g : Nat) (L : List UInt8) (bad : Bool) (zn : Nat) (w : World) (e : Ending) (w' : World) : Prop :=
  ∃ v xs L' bad', e = .returned v ∧ OwnI w.heap.size w' v xs ∧ ScanO w' sb g L' bad' ∧ StepO L bad (listQ zn) xs L' bad' ∧ Touch (fun i => i = sb) w w'

set_option maxRecDepth 100000 in
set_option maxHeartbeats 4000000 in
theorem flist_any (sb g : Nat) (L : List UInt8) (bad : Bool) (z : Int) (zn : Nat) (hz : (zn : Int) = z) (hzn : 0 < zn) (w : World) (h : ScanO w sb g L bad) (hL : L.length ≤ 100000) :
    Calls Try.prog 91 #[.agg #[.pointer (some ⟨sb, 0, none⟩)], .int .i64 z] w (flistR sb g L bad zn w) := by
  subst hz
  have hsb := h.lt
  have Hg := Lib.hid (fun e : L ≠ [] => h.ltg e)
  have hal : Below w.heap.size w (w.alloc (.cells #[.pointer (some ⟨sb, 0, none⟩)] 94)) := (Below.refl _ _).alloc (Nat.le_refl _) _
  have HA := Lib.hid hal
  have H0 := Lib.hid (h.touch (Touch.of_below (p := fun _ => False) hal) (fun e => e) (fun _ e => e))
  have Hk := Lib.hid (Blk.new w 94 #[.pointer (some ⟨sb, 0, none⟩)])
  have hz1 : w.heap.size ≤ (w.alloc (.cells #[.pointer (some ⟨sb, 0, none⟩)] 94)).heap.size := by simp
  have hk1 := Hk.out.lt
  clear h hal
  go_enter Try.func91, Try.ntmps91
  go_upto_region 1 with (fail)
  generalize w.alloc (.cells #[.pointer (some ⟨sb, 0, none⟩)] 94) = w1 at *
  have hc1 := Hk.out.cell
  have Hn := Lib.hid (scanNum_any sb g L bad 2 w1 H0.out)
  obtain ⟨nn, hnn⟩ : ∃ nn : Nat, numV L bad 2 = (nn : Int) ∧ nn ≤ 65536 := by
    unfold numV
    split
    · have hb := be_bd (L.take (2 : Int).toNat)
      have hl : (L.take (2 : Int).toNat).length ≤ 2 := by rw [List.length_take]; exact Nat.min_le_left _ _
      obtain ⟨q, hq⟩ := Int.eq_ofNat_of_zero_le hb.1
      have h2 : be (L.take (2 : Int).toNat) < 65536 := by
        have h3 : (256 : Int) ^ (L.take (2 : Int).toNat).length ≤ 65536 := by
          generalize (L.take (2 : Int).toNat).length = q at hl
          have : q = 0 ∨ q = 1 ∨ q = 2 := by omega
          rcases this with rfl | rfl | rfl <;> decide
        omega
      exact ⟨q, hq, by omega⟩
    · exact ⟨0, rfl, by omega⟩
  obtain ⟨hnn, hnb⟩ := hnn
  rw [hnn] at Hn
  have HNN := Lib.hid hnn
  obtain ⟨L1, hL1⟩ : ∃ L1, nx (numOk L bad 2) (L.drop (2 : Int).toNat) [] = L1 := ⟨_, rfl⟩
  rw [hL1] at Hn
  have HL1 : Hid ((numOk L bad 2 = true → L1 = L.drop 2) ∧ L1.length ≤ L.length ∧ (L1 ≠ [] → L ≠ [])) := Lib.hid (by
    rw [← hL1]
    refine ⟨fun e => by rw [e]; rfl, ?_, ?_⟩
    · unfold nx; split <;> simp
    · intro hne e
      subst e
      apply hne
      unfold nx
      split <;> simp)
  clear hnn hL1
  go_wp2_with fail
  refine Hn.out.mono ?_
  rintro e w2 ⟨rfl, hs2, hT2⟩
  have hz2 := hT2.size
  have HS2 := Lib.hid hs2
  have HT2 := Lib.hid hT2
  clear hs2 Hn
  have Hk2 := Lib.hid (hT2.blk Hk.out (by omega))
  clear hT2 hc1
  go_wp2_with fail
  go_loopw [5, 6] (fun v i wr => ∃ (m : Nat) (T : List UInt8) (b : Bool) (xs : List Int), m ≤ 65536 ∧ i = .int .i64 (m : Int) ∧ NmI zn (numsP zn nn L1) L1.length (!numOk L bad 2) m T b xs ∧ (T ≠ [] → L ≠ []) ∧ T.length ≤ L1.length ∧ OwnI w1.heap.size wr v xs ∧ ScanO wr sb g T b ∧ Touch (fun i => i = sb) w1 wr ∧ Blk wr w.heap.size 94 #[.pointer (some ⟨sb, 0, none⟩)]) (fun _ i _ => (intOf i).toNat)
  case atStart => exact ⟨nn, L1, !numOk L bad 2, [], hnb, rfl, ⟨fun e => ⟨e, by cases numsP zn nn L1 <;> simp⟩, fun e => .inl e, by simp⟩, HL1.out.2.2, Nat.le_refl _, OwnS.empty _, HS2.out, HT2.out, Hk2.out⟩
  case round =>
    obtain ⟨m, T, b, xs, hm6, rfl, hI, hTL, hTl, ho, hs, hT, hk⟩ := hrel
    have hzr := hT.size
    have HI := Lib.hid hI
    have HTL := Lib.hid hTL
    have Ho := Lib.hid ho
    have HS := Lib.hid hs
    have HT := Lib.hid hT
    have Hrow := Lib.hid ho.row
    have hxl := hI.len
    have hxl2 : xs.length ≤ 100002 := by have := HL1.out.2.1; split at hxl <;> omega
    have Hfin := Lib.hid (fun hm : m = 0 ∨ b = true => hI.fin HNN.out HL1.out.1 hm (by have := HL1.out.2.1; omega))
    have Hkr := Lib.hid hk
    have hcr := hk.cell
    clear hI hTL ho hs hT hxl hk
    cases m with
    | zero =>
      have Hst := Lib.hid (Hfin.out (.inl rfl))
      go_wp2_with fail
      go_ret
      exact ⟨_, xs, T, b, rfl, Ho.out.base hz1, HS.out, Hst.out, (Touch.of_below (p := fun i => i = sb) HA.out).trans HT.out⟩
    | succ m =>
      obtain ⟨mi, hmi⟩ : ∃ mi : Int, ((m + 1 : Nat) : Int) = mi := ⟨_, rfl⟩
      rw [hmi]
      have hpos : 0 < mi := by omega
      have hwm : IntKind.i64.wrap (mi - 1) = (m : Int) := by rw [IntKind.wrap_i64]; omega
      have Hmi := Lib.hid hmi
      clear hmi
      have HBd := Lib.hid (scanBad_any sb g T b wr HS.out)
      cases b with
      | true =>
        have Hst := Lib.hid (Hfin.out (.inr rfl))
        go_wp2_with fail
        refine HBd.out.mono ?_
        rintro e w3 ⟨rfl, rfl⟩
        go_wp2_with fail
        go_ret
        exact ⟨_, xs, T, true, rfl, Ho.out.base hz1, HS.out, Hst.out, (Touch.of_below (p := fun i => i = sb) HA.out).trans HT.out⟩
      | false =>
        go_wp2_with fail
        refine HBd.out.mono ?_
        rintro e w3 ⟨rfl, rfl⟩
        have HN := Lib.hid (scanNum_any sb g T false (zn : Int) wr HS.out)
        go_wp2_with fail
        refine HN.out.mono ?_
        rintro e w4 ⟨rfl, hs4, hT4⟩
        have hz4 := hT4.size
        rw [Int.toNat_natCast] at hs4
        obtain ⟨T', hT'⟩ : ∃ T', nx (numOk T false (zn : Int)) (T.drop zn) [] = T' := ⟨_, rfl⟩
        rw [hT'] at hs4
        have hTp : (numOk T false (zn : Int) = true → T' = T.drop zn) ∧ T'.length ≤ T.length ∧ (T' ≠ [] → T ≠ []) := by
          rw [← hT']
          refine ⟨fun e => by rw [e]; rfl, ?_, ?_⟩
          · unfold nx; split <;> simp
          · intro hne e
            subst e
            apply hne
            unfold nx
            split <;> simp
        have HI4 := Lib.hid (HI.out.step hzn hTp.1 hTp.2.1)
        have HTL4 : Hid (T' ≠ [] → L ≠ []) := Lib.hid (fun e => HTL.out (hTp.2.2 e))
        have hTl4 : T'.length ≤ L1.length := by have := hTp.2.1; omega
        obtain ⟨bv, hbv⟩ : ∃ bv, (!numOk T false (zn : Int)) = bv := ⟨_, rfl⟩
        obtain ⟨xv, hxv⟩ : ∃ xv, numV T false (zn : Int) = xv := ⟨_, rfl⟩
        rw [hbv] at hs4 HI4
        rw [hxv] at HI4
        rw [hxv]
        have Ho4 := Ho.out.touch (S' := fun k => w1.heap.size ≤ k) IntU.still hT4 (fun k hk => by have := (Hrow.out k hk).1; omega) (fun k _ hk _ => ⟨hk, fun e => by omega⟩)
        have hal : Below w4.heap.size w4 (w4.alloc (.cells #[.int .i64 xv] 3)) := (Below.refl _ _).alloc (Nat.le_refl _) _
        have Ho5 := Lib.hid (Ho4.below' IntU.still hal)
        have Hnw := Lib.hid (SliceS.new1 (S := fun k => w1.heap.size ≤ k ∧ rowOf u5 ≠ some k) (S' := fun k => w1.heap.size ≤ k ∧ rowOf u5 ≠ some k) IntU.still w4 3 #[.int .i64 xv] xv rfl rfl (fun k _ h => h) ⟨by omega, fun e => by have := (Hrow.out _ e).2; omega⟩)
        have HAl := Lib.hid hal
        have HS4 := Lib.hid hs4
        have HT4 := Lib.hid (HT.out.trans hT4)
        have hwz : w1.heap.size ≤ (w4.alloc (.cells #[.int .i64 xv] 3)).heap.size := by rw [World.size_alloc]; omega
        have hxr : xs.length + 1 ≤ 1000000 := by omega
        have Hk4 := Lib.hid (hT4.blk Hkr.out (by omega))
        clear hs4 hT4 hal hT' hbv hxv Ho4 hTp hcr
        go_wp2_with (at_builtin; refine step_appendI _ rfl (.tmp 20) (.tmp 25) rfl w1.heap.size u5 xs rfl Ho5.out (some ⟨w4.heap.size, 0, none⟩) 1 1 [xv] rfl Hnw.out (by simpa using hxr) hwz ?_; intro v5 w5 ho5 hg5 hn5; have Ho6 := Lib.hid ho5; have HT6 := Lib.hid ((HT4.out.trans (Touch.of_below HAl.out)).then (Touch.of_row hg5) (fun i hi e => by have := (Hrow.out i e.symm).1; omega)); have HS6 := Lib.hid ((HS4.out.touch (Touch.of_below (p := fun _ => False) HAl.out) (fun e => e) (fun _ e => e)).touch (Touch.of_row hg5) (fun e => by have := (Hrow.out _ e.symm).1; omega) (fun hne e => by have := (Hrow.out _ e.symm).1; have := Hg.out (HTL4.out hne); omega)); have Hk6 := Lib.hid ((Hk4.out.alloc _).grown hg5 (fun e => by have := (Hrow.out _ e.symm).1; omega)); clear ho5 hg5 hn5)
        go_roundw
        case rel => exact ⟨m, T', bv, xs ++ [xv], by omega, by first | rfl | trivial, HI4.out, HTL4.out, hTl4, Ho6.out, HS6.out, HT6.out, Hk6.out⟩
        case measure => have := Hmi.out; simp [intOf]; omega

/-- What is read of numbers. -/
def fnumsR (sb g : Nat) (L : List UInt8) (bad : Bool) (zn : Nat) (w : World) (e : Ending) (w' : World) : Prop :=
  ∃ v xs L' bad', e = .returned v ∧ OwnI w.heap.size w' v xs ∧ RefS w' sb g L' bad' ∧ StepO L bad (listQ zn) xs L' bad' ∧ Touch (fun i => i = sb) w w'

set_option maxRecDepth 100000 in
set_option maxHeartbeats 4000000 in
theorem fnums_any (sb g : Nat) (L : List UInt8) (bad : Bool) (z : Int) (zn : Nat) (hz : (zn : Int) = z) (hzn : 0 < zn) (w : World) (h : RefS w sb g L bad) (hL : L.length ≤ 100000) :
    Calls Try.prog 97 #[.pointer (some ⟨sb, 0, none⟩), .int .i64 z] w (fnumsR sb g L bad zn w) := by
  subst hz
  have hsb := h.lt
  have Hg := Lib.hid (fun e : L ≠ [] => h.ltgF e)
  have H0 := Lib.hid h
  have HA := Lib.hid (Below.refl w.heap.size w)
  have hz1 : w.heap.size ≤ w.heap.size := Nat.le_refl _
  clear h
  go_enter Try.func97, Try.ntmps97
  go_upto_region 1 with (fail)
  have Hn := Lib.hid (refSNum_any sb g L bad 2 w H0.out)
  obtain ⟨nn, hnn⟩ : ∃ nn : Nat, numV L bad 2 = (nn : Int) ∧ nn ≤ 65536 := by
    unfold numV
    split
    · have hb := be_bd (L.take (2 : Int).toNat)
      have hl : (L.take (2 : Int).toNat).length ≤ 2 := by rw [List.length_take]; exact Nat.min_le_left _ _
      obtain ⟨q, hq⟩ := Int.eq_ofNat_of_zero_le hb.1
      have h2 : be (L.take (2 : Int).toNat) < 65536 := by
        have h3 : (256 : Int) ^ (L.take (2 : Int).toNat).length ≤ 65536 := by
          generalize (L.take (2 : Int).toNat).length = q at hl
          have : q = 0 ∨ q = 1 ∨ q = 2 := by omega
          rcases this with rfl | rfl | rfl <;> decide
        omega
      exact ⟨q, hq, by omega⟩
    · exact ⟨0, rfl, by omega⟩
  obtain ⟨hnn, hnb⟩ := hnn
  rw [hnn] at Hn
  have HNN := Lib.hid hnn
  obtain ⟨L1, hL1⟩ : ∃ L1, nx (numOk L bad 2) (L.drop (2 : Int).toNat) L = L1 := ⟨_, rfl⟩
  rw [hL1] at Hn
  have HL1 : Hid ((numOk L bad 2 = true → L1 = L.drop 2) ∧ L1.length ≤ L.length ∧ (L1 ≠ [] → L ≠ [])) := Lib.hid (by
    rw [← hL1]
    refine ⟨fun e => by rw [e]; rfl, ?_, ?_⟩
    · unfold nx; split <;> simp
    · intro hne e
      subst e
      apply hne
      unfold nx
      split <;> simp)
  clear hnn hL1
  go_wp2_with fail
  refine Hn.out.mono ?_
  rintro e w2 ⟨rfl, hs2, hT2⟩
  have hz2 := hT2.size
  have HS2 := Lib.hid hs2
  have HT2 := Lib.hid hT2
  clear hs2 Hn
  clear hT2
  go_wp2_with fail
  go_loopw [5, 6] (fun v i wr => ∃ (m : Nat) (T : List UInt8) (b : Bool) (xs : List Int), m ≤ 65536 ∧ i = .int .i64 (m : Int) ∧ NmI zn (numsP zn nn L1) L1.length (!numOk L bad 2) m T b xs ∧ (T ≠ [] → L ≠ []) ∧ T.length ≤ L1.length ∧ OwnI w.heap.size wr v xs ∧ RefS wr sb g T b ∧ Touch (fun i => i = sb) w wr) (fun _ i _ => (intOf i).toNat)
  case atStart => exact ⟨nn, L1, !numOk L bad 2, [], hnb, rfl, ⟨fun e => ⟨e, by cases numsP zn nn L1 <;> simp⟩, fun e => .inl e, by simp⟩, HL1.out.2.2, Nat.le_refl _, OwnS.empty _, HS2.out, HT2.out⟩
  case round =>
    obtain ⟨m, T, b, xs, hm6, rfl, hI, hTL, hTl, ho, hs, hT⟩ := hrel
    have hzr := hT.size
    have HI := Lib.hid hI
    have HTL := Lib.hid hTL
    have Ho := Lib.hid ho
    have HS := Lib.hid hs
    have HT := Lib.hid hT
    have Hrow := Lib.hid ho.row
    have hxl := hI.len
    have hxl2 : xs.length ≤ 100002 := by have := HL1.out.2.1; split at hxl <;> omega
    have Hfin := Lib.hid (fun hm : m = 0 ∨ b = true => hI.fin HNN.out HL1.out.1 hm (by have := HL1.out.2.1; omega))
    obtain ⟨pq, cq, hcr⟩ := hs.cellsF
    clear hI hTL ho hs hT hxl
    cases m with
    | zero =>
      have Hst := Lib.hid (Hfin.out (.inl rfl))
      go_wp2_with fail
      go_ret
      exact ⟨_, xs, T, b, rfl, Ho.out.base hz1, HS.out, Hst.out, (Touch.of_below (p := fun i => i = sb) HA.out).trans HT.out⟩
    | succ m =>
      obtain ⟨mi, hmi⟩ : ∃ mi : Int, ((m + 1 : Nat) : Int) = mi := ⟨_, rfl⟩
      rw [hmi]
      have hpos : 0 < mi := by omega
      have hwm : IntKind.i64.wrap (mi - 1) = (m : Int) := by rw [IntKind.wrap_i64]; omega
      have Hmi := Lib.hid hmi
      clear hmi
      cases b with
      | true =>
        have Hst := Lib.hid (Hfin.out (.inr rfl))
        go_wp2_with fail
        go_ret
        exact ⟨_, xs, T, true, rfl, Ho.out.base hz1, HS.out, Hst.out, HT.out⟩
      | false =>
        have HN := Lib.hid (refSNum_any sb g T false (zn : Int) wr HS.out)
        go_wp2_with fail
        refine HN.out.mono ?_
        rintro e w4 ⟨rfl, hs4, hT4⟩
        have hz4 := hT4.size
        rw [Int.toNat_natCast] at hs4
        obtain ⟨T', hT'⟩ : ∃ T', nx (numOk T false (zn : Int)) (T.drop zn) T = T' := ⟨_, rfl⟩
        rw [hT'] at hs4
        have hTp : (numOk T false (zn : Int) = true → T' = T.drop zn) ∧ T'.length ≤ T.length ∧ (T' ≠ [] → T ≠ []) := by
          rw [← hT']
          refine ⟨fun e => by rw [e]; rfl, ?_, ?_⟩
          · unfold nx; split <;> simp
          · intro hne e
            subst e
            apply hne
            unfold nx
            split <;> simp
        have HI4 := Lib.hid (HI.out.step hzn hTp.1 hTp.2.1)
        have HTL4 : Hid (T' ≠ [] → L ≠ []) := Lib.hid (fun e => HTL.out (hTp.2.2 e))
        have hTl4 : T'.length ≤ L1.length := by have := hTp.2.1; omega
        obtain ⟨bv, hbv⟩ : ∃ bv, (!numOk T false (zn : Int)) = bv := ⟨_, rfl⟩
        obtain ⟨xv, hxv⟩ : ∃ xv, numV T false (zn : Int) = xv := ⟨_, rfl⟩
        rw [hbv] at hs4 HI4
        rw [hxv] at HI4
        rw [hxv]
        have Ho4 := Ho.out.touch (S' := fun k => w.heap.size ≤ k) IntU.still hT4 (fun k hk => by have := (Hrow.out k hk).1; omega) (fun k _ hk _ => ⟨hk, fun e => by omega⟩)
        have hal : Below w4.heap.size w4 (w4.alloc (.cells #[.int .i64 xv] 3)) := (Below.refl _ _).alloc (Nat.le_refl _) _
        have Ho5 := Lib.hid (Ho4.below' IntU.still hal)
        have Hnw := Lib.hid (SliceS.new1 (S := fun k => w.heap.size ≤ k ∧ rowOf u5 ≠ some k) (S' := fun k => w.heap.size ≤ k ∧ rowOf u5 ≠ some k) IntU.still w4 3 #[.int .i64 xv] xv rfl rfl (fun k _ h => h) ⟨by omega, fun e => by have := (Hrow.out _ e).2; omega⟩)
        have HAl := Lib.hid hal
        have HS4 := Lib.hid hs4
        have HT4 := Lib.hid (HT.out.trans hT4)
        have hwz : w.heap.size ≤ (w4.alloc (.cells #[.int .i64 xv] 3)).heap.size := by rw [World.size_alloc]; omega
        have hxr : xs.length + 1 ≤ 1000000 := by omega
        clear hs4 hT4 hal hT' hbv hxv Ho4 hTp hcr
        go_wp2_with (at_builtin; refine step_appendI _ rfl (.tmp 20) (.tmp 24) rfl w.heap.size u5 xs rfl Ho5.out (some ⟨w4.heap.size, 0, none⟩) 1 1 [xv] rfl Hnw.out (by simpa using hxr) hwz ?_; intro v5 w5 ho5 hg5 hn5; have Ho6 := Lib.hid ho5; have HT6 := Lib.hid ((HT4.out.trans (Touch.of_below HAl.out)).then (Touch.of_row hg5) (fun i hi e => by have := (Hrow.out i e.symm).1; omega)); have HS6 := Lib.hid ((HS4.out.touch (Touch.of_below (p := fun _ => False) HAl.out) (fun e => e) (fun _ e => e)).touch (Touch.of_row hg5) (fun e => by have := (Hrow.out _ e.symm).1; omega) (fun hne e => by have := (Hrow.out _ e.symm).1; have := Hg.out (HTL4.out hne); omega)); clear ho5 hg5 hn5)
        go_roundw
        case rel => exact ⟨m, T', bv, xs ++ [xv], by omega, by first | rfl | trivial, HI4.out, HTL4.out, hTl4, Ho6.out, HS6.out, HT6.out⟩
        case measure => have := Hmi.out; simp [intOf]; omega

end Go.Proofs.Ytldjfmddjbdciaa
