/-
  First messages (layer 5): the pairs of a scan, of the document.
-/
import Derived.Test.YtjfhpafaopeogaaHeA
namespace Go.Proofs.Ytjfhpafaopeogaa
open Go.RowKit
set_option linter.unusedVariables false
set_option linter.unusedSimpArgs false

theorem textOk_bad (T : List UInt8) : textOk T true = false := by simp [textOk]
theorem textV_no {T : List UInt8} {b : Bool} (h : textOk T b = false) : textV T b = ⟨#[]⟩ := by unfold textV; rw [h]; rfl

/-- The pairs of what the document keeps: the rest stays where a text can't be had. -/
def pairsX : Nat → List UInt8 → Bool → List PrV × List UInt8 × Bool
  | 0, _, _ => ([], [], true)
  | n + 1, L, bad =>
    if textV L bad = ⟨#[]⟩ then ([], L.drop ((Lib.indexByte L 0).toNat + 1), !textOk L bad)
    else
      let R := L.drop ((Lib.indexByte L 0).toNat + 1)
      let q := pairsX n (nx (textOk R false) (R.drop ((Lib.indexByte R 0).toNat + 1)) R) (!textOk R false)
      (⟨textV L bad, textV R false⟩ :: q.1, q.2)

theorem textOk_of {L : List UInt8} {bad : Bool} (h : textV L bad ≠ ⟨#[]⟩) : textOk L bad = true := by
  cases e : textOk L bad with
  | true => rfl
  | false => exact absurd (textV_no e) h

/-- Both say the same, but where it is bad. -/
theorem pairsX_eq : ∀ (n : Nat) (L M : List UInt8) (bad : Bool), (bad = false → L = M) → (pairsX n L bad).1 = (pairsR n M bad).1 ∧ (pairsX n L bad).2.2 = (pairsR n M bad).2.2 ∧ ((pairsR n M bad).2.2 = false → (pairsX n L bad).2.1 = (pairsR n M bad).2.1)
  | 0, _, _, _, _ => by simp [pairsX, pairsR]
  | n + 1, L, M, true, _ => by
    have h1 : textV L true = ⟨#[]⟩ := textV_no (textOk_bad L)
    have h2 : textV M true = ⟨#[]⟩ := textV_no (textOk_bad M)
    rw [pairsX, pairsR, if_pos h1, if_pos h2, textOk_bad, textOk_bad]
    simp
  | n + 1, L, M, false, h => by
    obtain rfl := h rfl
    by_cases hn : textV L false = ⟨#[]⟩
    · rw [pairsX, pairsR, if_pos hn, if_pos hn]
      refine ⟨rfl, rfl, fun he => ?_⟩
      have : textOk L false = true := by simpa using he
      dsimp only
      rw [this]
      rfl
    · have hok := textOk_of hn
      rw [pairsX, pairsR, if_neg hn, if_neg hn, hok]
      have hnx : ∀ A B : List UInt8, nx true A B = A := fun _ _ => rfl
      simp only [hnx, Bool.not_true]
      have ih := pairsX_eq n (nx (textOk (L.drop ((Lib.indexByte L 0).toNat + 1)) false) ((L.drop ((Lib.indexByte L 0).toNat + 1)).drop ((Lib.indexByte (L.drop ((Lib.indexByte L 0).toNat + 1)) 0).toNat + 1)) (L.drop ((Lib.indexByte L 0).toNat + 1))) (nx (textOk (L.drop ((Lib.indexByte L 0).toNat + 1)) false) ((L.drop ((Lib.indexByte L 0).toNat + 1)).drop ((Lib.indexByte (L.drop ((Lib.indexByte L 0).toNat + 1)) 0).toNat + 1)) []) (!textOk (L.drop ((Lib.indexByte L 0).toNat + 1)) false) (fun e => by
        have : textOk (L.drop ((Lib.indexByte L 0).toNat + 1)) false = true := by simpa using e
        rw [this]; rfl)
      exact ⟨by rw [ih.1], ih.2.1, ih.2.2⟩

/-- What 'params' answers. -/
def ParR (P : List PrV × List UInt8 × Bool) (B : Nat) (e : Ending) (w' : World) : Prop :=
  (P.2.2 = true ∧ e = .returned (.tuple #[.slice none 0 0, .bool false])) ∨ (P.2.2 = false ∧ ∃ vo, e = .returned (.tuple #[vo, .bool P.2.1.isEmpty]) ∧ OwnPr B w' vo P.1)

theorem RefS.cells {w : World} {xb g : Nat} {L : List UInt8} {no : Bool} (h : RefS w xb g L no) : ∃ p c, ∀ i, w.cell? ⟨xb, i, none⟩ = (#[.slice p L.length c, .bool no] : Array Value)[i]? := by
  obtain ⟨p, c, hb, _⟩ := h
  exact ⟨p, c, hb.cell⟩
theorem RefS.ltg {w : World} {xb g : Nat} {L : List UInt8} {no : Bool} (h : RefS w xb g L no) (hL : L ≠ []) : g < w.heap.size := by
  obtain ⟨p, c, hb, h1, h2, h3, h4, _⟩ := h
  obtain ⟨b, o, e, hc⟩ := h3 0 (List.length_pos_iff.2 hL)
  have := h4 _ e
  rw [← this]
  exact World.block_lt_of_cell? w _ hc

set_option maxRecDepth 100000 in
set_option maxHeartbeats 4000000 in
theorem params_any (xb g : Nat) (L : List UInt8) (w : World) (h : RefS w xb g L false) (hL : L.length ≤ 100000) :
    Calls Try.prog 94 #[.pointer (some ⟨xb, 0, none⟩)] w fun e w' => ParR (pairsX (L.length + 1) L false) w.heap.size e w' ∧ Touch (fun i => i = xb) w w' := by
  have hsb := h.lt
  have Hg := Lib.hid (fun e : L ≠ [] => h.ltg e)
  have H0 := Lib.hid h
  obtain ⟨P, hP⟩ : ∃ P, pairsX (L.length + 1) L false = P := ⟨_, rfl⟩
  rw [hP]
  have HP := Lib.hid hP
  clear h hP
  go_enter Try.func94, Try.ntmps94
  go_wp2_with fail
  go_loopw [4] (fun u wr => ∃ (m : Nat) (T : List UInt8) (b : Bool) (xs : List PrV), T.length < m ∧ T.length + 2 * xs.length ≤ L.length + (if b then 1 else 0) ∧ (T ≠ [] → L ≠ []) ∧ xs ++ (pairsX m T b).1 = P.1 ∧ (pairsX m T b).2 = P.2 ∧ OwnPr w.heap.size wr u xs ∧ RefS wr xb g T b ∧ Touch (fun i => i = xb) w wr) (fun u _ => L.length + 1 - lenP u)
  case atStart => exact ⟨L.length + 1, L, false, [], by omega, by simp, fun e => e, by rw [HP.out]; rfl, by rw [HP.out], OwnS.empty _, H0.out, Touch.refl _ _⟩
  case round =>
    obtain ⟨m, T, b, xs, hm, hml, hTL, hx, hr, ho, hs, hT⟩ := hrel
    obtain ⟨m, rfl⟩ : ∃ m', m = m' + 1 := ⟨m - 1, by omega⟩
    have hz := hT.size
    obtain ⟨pc, cc, hc⟩ := hs.cells
    have hTT : T.length ≤ 1000000000 := by split at hml <;> omega
    have Ht1 := Lib.hid (refSText_full xb g T b wr hs hTT)
    have Hx := Lib.hid (And.intro hx (And.intro hr hTL))
    have Ho := Lib.hid ho
    have HT := Lib.hid hT
    have Hrow := Lib.hid ho.row
    have Hml := Lib.hid hml
    have hlen : lenP u4 = xs.length := by
      obtain ⟨p, c, e, _⟩ := ho.slice PrS.still (S' := fun _ => True) (fun _ _ _ => trivial) (fun _ _ => trivial)
      rw [e]; rfl
    have Hlen := Lib.hid hlen
    clear hx hr hTL ho hs hT hlen hml
    cases b with
    | true =>
      have hb : P.2.2 = true := by
        have h1 : textV T true = ⟨#[]⟩ := textV_no (textOk_bad T)
        have h2 : pairsX (m + 1) T true = ([], T.drop ((Lib.indexByte T 0).toNat + 1), true) := by rw [pairsX, if_pos h1, textOk_bad]; rfl
        rw [← Hx.out.2.1, h2]
      have Hb := Lib.hid hb
      clear hb
      go_wp2_with fail
      go_ret2
      exact ⟨.inl ⟨Hb.out, rfl⟩, HT.out⟩
    | false =>
      go_wp2_with fail
      refine Ht1.out.mono ?_
      rintro e w1 ⟨rfl, hs1, hT1⟩
      have hz1 := hT1.size
      have HT1 := Lib.hid hT1
      obtain ⟨R, hR⟩ : ∃ R, T.drop ((Lib.indexByte T 0).toNat + 1) = R := ⟨_, rfl⟩
      rw [hR] at hs1
      have hRl : R.length ≤ T.length - 1 := by rw [← hR, List.length_drop]; omega
      have Ho1 := Lib.hid (Ho.out.touch (S' := fun k => w.heap.size ≤ k) PrS.still hT1 (fun k hk => by have := (Hrow.out k hk).1; omega) (fun k _ hk _ => ⟨hk, fun e => by omega⟩))
      cases hok : textOk T false with
      | false =>
        have hb : P.2.2 = true := by
          have h2 : pairsX (m + 1) T false = ([], T.drop ((Lib.indexByte T 0).toNat + 1), true) := by rw [pairsX, if_pos (textV_no hok), hok]; rfl
          rw [← Hx.out.2.1, h2]
        have Hb := Lib.hid hb
        rw [hok] at hs1
        obtain ⟨p1, q1, hc1⟩ := hs1.cells
        rw [textV_no hok]
        clear hb hs1 hT1 hc
        simp only [Bool.not_false] at hc1
        go_wp2_with fail
        go_ret2
        exact ⟨.inl ⟨Hb.out, rfl⟩, HT.out.trans HT1.out⟩
      | true =>
        rw [hok] at hs1
        have hs1' : RefS w1 xb g R false := hs1
        obtain ⟨p1, q1, hc1⟩ := hs1'.cells
        have HS1 := Lib.hid hs1'
        clear hs1 hs1' hT1 hc
        by_cases hn : textV T false = ⟨#[]⟩
        · have h2 : pairsX (m + 1) T false = ([], R, false) := by rw [pairsX, if_pos hn, hok, hR]; rfl
          have hx := Hx.out
          rw [h2] at hx
          have HX := Lib.hid hx
          have HD := Lib.hid (refSDone_any xb g R false w1 HS1.out)
          rw [hn]
          clear hx h2 hn Hx
          go_wp2_with (go_at_call 95; refine HD.out.mono ?_; rintro e w2 ⟨rfl, rfl⟩)
          obtain ⟨p3, c3, e3, _⟩ := Ho1.out.slice PrS.still (S' := fun _ => True) (fun _ _ _ => trivial) (fun _ _ => trivial)
          go_ret2
          have hx := HX.out
          obtain ⟨h1, h3, _⟩ := hx
          simp only [List.append_nil] at h1
          refine ⟨.inr ⟨by rw [← h3], _, ?_, by rw [← h1]; exact Ho1.out⟩, HT.out.trans HT1.out⟩
          rw [← h3]
          simp
        · obtain ⟨nm, hnm⟩ : ∃ nm, textV T false = nm := ⟨_, rfl⟩
          obtain ⟨vl, hvl⟩ : ∃ vl, textV R false = vl := ⟨_, rfl⟩
          obtain ⟨ok2, hok2⟩ : ∃ ok, textOk R false = ok := ⟨_, rfl⟩
          obtain ⟨T2, hT2⟩ : ∃ T2, nx ok2 (R.drop ((Lib.indexByte R 0).toNat + 1)) R = T2 := ⟨_, rfl⟩
          have hT0 : 0 < T.length := List.length_pos_iff.2 (textV_some hn)
          have hml := Hml.out
          simp only [Bool.false_eq_true, if_false, Nat.add_zero] at hml
          have hl2 : T2.length ≤ T.length - 1 ∧ T2.length + 2 * (xs.length + 1) ≤ L.length + (if (!ok2) = true then 1 else 0) := by
            cases ok2 with
            | false =>
              have e : T2 = R := hT2.symm
              rw [e]
              simp
              omega
            | true =>
              have e : T2 = R.drop ((Lib.indexByte R 0).toNat + 1) := hT2.symm
              have hR0 : R ≠ [] := by
                intro e
                rw [e] at hok2
                simp [textOk, Lib.indexByte] at hok2
              have hR1 : 0 < R.length := List.length_pos_iff.2 hR0
              rw [e, List.length_drop]
              simp
              omega
          have hstep : pairsX (m + 1) T false = (⟨nm, vl⟩ :: (pairsX m T2 (!ok2)).1, (pairsX m T2 (!ok2)).2) := by
            rw [pairsX, if_neg hn, ← hT2, ← hok2, ← hvl, ← hnm, ← hR]
          have Hs2 := Lib.hid (refSText_full xb g R false w1 HS1.out (by omega))
          rw [hvl, hok2, hT2] at Hs2
          rw [hnm] at hn ⊢
          have hx := Hx.out
          rw [hstep] at hx
          obtain ⟨hx1, hx2, hx3⟩ := hx
          dsimp only at hx1 hx2
          have hx1' : (xs ++ [⟨nm, vl⟩]) ++ (pairsX m T2 (!ok2)).1 = P.1 := by rw [List.append_assoc]; exact hx1
          have Hx2 := Lib.hid (And.intro hx1' hx2)
          have HRT := Lib.hid (show T2 ≠ [] → L ≠ [] from fun _ => hx3 (List.length_pos_iff.1 hT0))
          have Hmt := Lib.hid (show T2.length < m by omega)
          have Hl2 := Lib.hid hl2.2
          have hxs : 2 * xs.length + 1 ≤ L.length := by omega
          have hnb : nm.toList.isEmpty = false := by
            cases e : nm.toList.isEmpty with
            | false => rfl
            | true => exact absurd (str_empty.1 e) hn
          clear hnm hvl hok2 hT2 hml hl2 hstep hx1 hx2 hx1' hx3 hR hRl hok Hx Ht1 hm
          go_wp2_with fail
          refine Hs2.out.mono ?_
          rintro e w2 ⟨rfl, hs3, hT2⟩
          have hz2 := hT2.size
          have HS3 := Lib.hid (And.intro hs3 ((HT.out.trans HT1.out).trans hT2))
          have ho2 := Ho1.out.touch (S' := fun k => w.heap.size ≤ k) PrS.still hT2 (fun k hk => by have := (Hrow.out k hk).1; omega) (fun k _ hk _ => ⟨hk, fun e => by omega⟩)
          have hal : Below w2.heap.size w2 (w2.alloc (.cells #[.string nm, .string vl] 150)) := (Below.refl _ _).alloc (Nat.le_refl _) _
          have Ho2 := Lib.hid (ownPr_below ho2 hal)
          have Hnw : Hid (SliceS 2 PrS (fun k => w.heap.size ≤ k ∧ rowOf u4 ≠ some k) (w2.alloc (.cells #[.string nm, .string vl] 150)) [.slice (some ⟨w2.heap.size, 0, none⟩) 1 1] [⟨nm, vl⟩]) := Lib.hid
            (SliceS.new1 (S := fun k => w.heap.size ≤ k ∧ rowOf u4 ≠ some k) PrS.still w2 150 #[.string nm, .string vl] ⟨nm, vl⟩ rfl rfl (fun k _ h => h) ⟨by omega, fun e => by have := (Hrow.out _ e).2; omega⟩)
          have HA := Lib.hid hal
          have hwz : w.heap.size ≤ (w2.alloc (.cells #[.string nm, .string vl] 150)).heap.size := by simp; omega
          have hxr : xs.length + 1 ≤ 1000000 := by omega
          clear hs3 hT2 ho2 hal hc1 Ho1
          go_wp2_with (at_builtin; refine step_appendPr _ rfl (.tmp 22) (.tmp 27) rfl w.heap.size u4 xs rfl Ho2.out (some ⟨w2.heap.size, 0, none⟩) 1 1 [⟨nm, vl⟩] rfl Hnw.out (by simpa using hxr) hwz ?_; intro v5 w5 ho5 hg5 hn5; have Ho5 := Lib.hid ho5; have HT5 := Lib.hid ((HS3.out.2.trans (Touch.of_below HA.out)).then (Touch.of_row hg5) (fun i hi e => by have := (Hrow.out i e.symm).1; omega)); have HS5 := Lib.hid ((HS3.out.1.touch (Touch.of_below (p := fun _ => False) HA.out) (fun e => e) (fun _ e => e)).touch (Touch.of_row hg5) (fun e => by have := (Hrow.out _ e.symm).1; omega) (fun hne e => by have := (Hrow.out _ e.symm).1; have := Hg.out (HRT.out hne); omega)); clear ho5 hg5 hn5)
          go_roundw
          case rel => exact ⟨m, _, _, xs ++ [⟨nm, vl⟩], Hmt.out, by rw [List.length_append]; exact Hl2.out, HRT.out, Hx2.out.1, Hx2.out.2, Ho5.out, HS5.out, HT5.out⟩
          case measure =>
            obtain ⟨p5, c5, e5, _⟩ := Ho5.out.slice PrS.still (S' := fun _ => True) (fun _ _ _ => trivial) (fun _ _ => trivial)
            rw [e5, Hlen.out]
            simp [lenP]
            omega

end Go.Proofs.Ytjfhpafaopeogaa
