/-
  Ground: OvCs, EnB, QuB, OvE.
-/
import Derived.Test.YtacnmdlefonjmaaPvOP2
import Derived.Test.YtacnmdlefonjmaaPvOP1
/-
  The document's table of names (layer 15): Set.
-/
namespace Go.Proofs.Ytacnmdlefonjmaa
open Go.RowKit Go.Maps
set_option linter.unusedVariables false
set_option linter.unusedSimpArgs false

/-- A name gets an id, in its place. -/
theorem XbO.setID {B xb most : Nat} {w : World} {v : Value} {L : List NmV} {t : TbV} (h : XbO B w xb most v L t) (g : Nat) (hg : rowOf v = some g) (k : Nat) (hk : k < L.length) (i : Int) :
    XbR B xb most v (t.put (nmB L[k].name) i) w (w.setCell ⟨g, k * 2 + 1, none⟩ (.int .i64 i)) := by
  have hT : Touch (fun j => j = g) w (w.setCell ⟨g, k * 2 + 1, none⟩ (.int .i64 i)) := (Touch.refl (fun j => j = g) w).setCell (x := ⟨g, k * 2 + 1, none⟩) (fun _ => rfl) _
  have ho := h.own.setE NmS.still g hg k hk 1 (by omega) (.int .i64 i) ⟨L[k].name, i⟩ (fun S w cs hc => by
    unfold NmS at hc ⊢
    subst hc
    rfl)
  have hr := h.rd
  rw [split_at L k hk] at hr
  have hr2 := hr.split_set i
  have e : L.take k ++ ⟨L[k].name, i⟩ :: L.drop (k + 1) = L.set k ⟨L[k].name, i⟩ := by rw [List.set_eq_take_append_cons_drop, if_pos hk]
  rw [e] at hr2
  exact ⟨v, _, ⟨hT.blk h.blk (fun e => h.no (by rw [hg, e])), ho, h.sB, h.no, hr2⟩, fun k h => .inl h, hT.mono (fun k _ e => .inr (by rw [hg, e]))⟩

set_option maxRecDepth 100000 in
set_option maxHeartbeats 16000000 in
theorem xSet_any (B xb most : Nat) (v : Value) (L : List NmV) (t : TbV) (s : ByteArray) (i : Int) (w : World) (h : XbO B w xb most v L t) (hB : B ≤ w.heap.size) (hl : L.length ≤ 100000) :
    Calls Try.prog 32 #[.pointer (some ⟨xb, 0, none⟩), .string s, .int .i64 i] w fun e w' => e = .returned (.tuple #[.int .i64 (t.getI (nmB s)), .int .i64 (t.setE most (nmB s))]) ∧ XbR B xb most v (t.set most (nmB s) i) w w' := by
  obtain ⟨p, c, rfl, hs⟩ := h.slice
  obtain ⟨_, hlc, hcm⟩ := hs.len
  have hc := h.blk.cell
  have hf := h.blk.frozen
  have Hr := Lib.hid h.rd
  have HS := Lib.hid hs
  have H := Lib.hid h
  have hN : Hid (L.length = t.n) := Lib.hid h.rd.len
  unfold maxLen at hcm
  clear h hs
  go_enter Try.func32, Try.ntmps32
  go_wp2_with fail
  go_loopw [8] (fun i wr => ∃ k : Nat, k ≤ L.length ∧ i = .int .i64 k ∧ (∀ j (hj : j < L.length), j < k → nmB L[j].name ≠ nmB s) ∧ SameW w wr) (fun i _ => L.length - (intOf i).toNat)
  case atStart => exact ⟨0, Nat.zero_le _, rfl, fun j _ hj => absurd hj (Nat.not_lt_zero _), rfl⟩
  case round =>
    obtain ⟨k, hk, rfl, hno, hwr⟩ := hrel
    obtain rfl : w = wr := hwr
    have Hno := Lib.hid hno
    clear hno
    by_cases hlt : k < L.length
    · have hlti : (k : Int) < (L.length : Int) := by omega
      by_cases hn : L[k].name = s
      · have Hth := Lib.hid (Hr.out.there hlt Hno.out (by rw [hn]))
        have Hfu := Lib.hid (full_no (most := most) Hth.out.1)
        have Hset : Hid (t.set most (nmB s) i = t.put (nmB L[k].name) i) := Lib.hid (by unfold TbV.set; rw [Hfu.out, hn]; rfl)
        have Hsee : Hid (t.setE most (nmB s) = 0) := Lib.hid (by unfold TbV.setE; rw [Hfu.out]; rfl)
        obtain ⟨g, cap, hv, hg⟩ := H.out.own.at_row (by omega)
        simp only [Value.slice.injEq, true_and] at hv
        obtain ⟨rfl, rfl⟩ := hv
        obtain ⟨b, o, e, hS, hbl, c0, c1⟩ := nm_at HS.out hlt
        cases e
        rw [Nat.zero_add] at c0 c1
        have HE := Lib.hid (H.out.setID g hg k hlt i)
        have hfg := H.out.own.frozen g hg
        have hd := nm_is hn
        clear hg hS
        generalize hxe : L[k] = x at *
        clear hxe
        obtain ⟨xn, xi⟩ := x
        dsimp only at *
        subst hn
        clear Hno
        go_wp2_with fail
        go_ret2
        rw [Hth.out.2, Hsee.out, Hset.out]
        exact ⟨rfl, HE.out⟩
      · have Hne : Hid (nmB L[k].name ≠ nmB s) := Lib.hid (fun e => hn (nmB_inj e))
        obtain ⟨b, o, rfl, hS, hbl, c0, c1⟩ := nm_at HS.out hlt
        have hd := nm_ne hn
        have Hst : Hid (∀ j (hj : j < L.length), j < k + 1 → nmB L[j].name ≠ nmB s) := Lib.hid (fun j hj hjk => by
          by_cases e : j = k
          · subst e; exact Hne.out
          · exact Hno.out j hj (by omega))
        clear Hne Hno
        generalize hxe : L[k] = x at *
        clear hxe
        obtain ⟨xn, xi⟩ := x
        dsimp only at *
        go_wp2_with fail
        go_roundw
        case rel => exact ⟨k + 1, by omega, by go_num, Hst.out, rfl⟩
        case measure => simp [intOf]; omega
    · obtain rfl : k = L.length := by omega
      have Hz := Lib.hid (Hr.out.nowhere (s := nmB s) (fun j hj => Hno.out j hj hj))
      have Hi0 := Lib.hid (getI_none Hz.out)
      clear Hno
      by_cases hfull : most ≤ L.length
      · have hfu : t.full most (nmB s) = true := by unfold TbV.full; rw [Hz.out, ← hN.out]; simp [hfull]
        have Hsee : Hid (t.setE most (nmB s) = 6) := Lib.hid (by unfold TbV.setE; rw [hfu]; rfl)
        have Hset : Hid (t.set most (nmB s) i = t) := Lib.hid (by unfold TbV.set; rw [hfu]; rfl)
        have hdec : decide ((most : Int) ≤ ((L.length : Nat) : Int)) = true := by simp; omega
        clear hfu
        go_wp2_with fail
        go_quiet (fail)
        go_wp2_with fail
        go_ret2
        rw [Hset.out, Hsee.out, Hi0.out]
        have hdq : Touch (fun _ => False) w (w.drewN nq) := (Touch.refl (fun _ => False) w).drewN nq
        exact ⟨rfl, _, _, H.out.touch hdq (fun e => e) (fun _ _ e => e), fun _ h => .inl h, hdq.mono (fun k _ e => e.elim)⟩
      · have hfu : t.full most (nmB s) = false := by unfold TbV.full; rw [Hz.out, ← hN.out]; simp; omega
        have Hsee : Hid (t.setE most (nmB s) = 0) := Lib.hid (by unfold TbV.setE; rw [hfu]; rfl)
        have Hset : Hid (t.set most (nmB s) i = t.put (nmB s) i) := Lib.hid (by unfold TbV.set; rw [hfu]; rfl)
        have hdec : decide ((most : Int) ≤ ((L.length : Nat) : Int)) = false := by simp; omega
        clear hfu
        go_wp2_with fail
        go_quiet (fail)
        have hdq := bel_dN w nq
        have H1 := Lib.hid (H.out.still hdq)
        have HQ := Lib.hid hdq
        have hc1 := H1.out.blk.cell
        have hB1 : B ≤ (w.drewN nq).heap.size := hB
        have HXR : Hid (∀ w3 t', XbR B xb most (.slice p L.length c) t' (w.drewN nq) w3 → XbR B xb most (.slice p L.length c) t' w w3) := Lib.hid (fun w3 t' hx => by
          obtain ⟨v', L', r1, r2, r3⟩ := hx
          exact ⟨v', L', r1, r2, ((Touch.refl (fun i => i = xb ∨ rowOf (.slice p L.length c) = some i) w).drewN nq).trans r3⟩)
        clear hc hf hdq HS H hB
        generalize w.drewN nq = w1 at *
        have HS := Lib.hid (H1.out.slice)
        go_wp2_with fail
        go_loopw [10] (fun i wr => ∃ k : Nat, k ≤ L.length ∧ i = .int .i64 k ∧ SameW w1 wr) (fun i _ => L.length - (intOf i).toNat)
        case atStart => exact ⟨0, Nat.zero_le _, rfl, rfl⟩
        case round =>
          obtain ⟨k, hk, rfl, hwr⟩ := hrel
          obtain rfl : w1 = wr := hwr
          have Hins : Hid (TbN (L.take k ++ ⟨s, i⟩ :: L.drop k) (t.put (nmB s) i)) := Lib.hid (TbN.split_ins (A := L.take k) (C := L.drop k) (by rw [List.take_append_drop]; exact Hr.out) Hz.out i)
          obtain ⟨p', c', e, hs⟩ := HS.out
          simp only [Value.slice.injEq, true_and] at e
          obtain ⟨rfl, rfl⟩ := e
          have Hs1 := Lib.hid (hs.weak NmS.still (S' := fun _ => True) (fun _ _ _ => trivial))
          clear hs
          have hkc : (k : Int) ≤ (c : Int) := by omega
          have hk0 : (0 : Int) ≤ (k : Int) := by omega
          have hkl : (k : Int) ≤ (L.length : Int) := by omega
          by_cases hlt : k < L.length
          · obtain ⟨g, cap, hv, hg⟩ := H1.out.own.at_row (by omega)
            simp only [Value.slice.injEq, true_and] at hv
            obtain ⟨rfl, rfl⟩ := hv
            have hlti : (k : Int) < (L.length : Int) := by omega
            obtain ⟨b, o, e, hS, hbl, c0, c1⟩ := nm_at Hs1.out hlt
            cases e
            rw [Nat.zero_add] at c0 c1
            have hck : ¬ c = k := by omega
            generalize hxe : L[k] = x at *
            clear hxe
            obtain ⟨xn, xi⟩ := x
            dsimp only at *
            clear hg hS
            have HC : Hid (∀ W, Below w1.heap.size w1 W → SliceS 2 NmS (fun _ => True) W [.slice (some ⟨g, 0 + k * 2, none⟩) (L.length - k) (c - k)] (L.drop k)) := Lib.hid (fun W hW => (Hs1.out.drop' k hk).below NmS.still hW)
            go_wp2_with fail
            · go_roundw
              case rel => exact ⟨k + 1, by omega, by go_num, rfl⟩
              case measure => simp [intOf]; omega
            · have HT : Hid (SliceS 2 NmS (fun _ => True) w1 [.slice (some ⟨g, 0, none⟩) k c] (L.take k)) := Lib.hid (Hs1.out.take' k c hk (by omega) (by unfold maxLen; omega))
              have HZ : Hid (([] : List NmV).length + (L.take k).length ≤ 1000000 ∧ ([] ++ L.take k).length + [NmV.mk s i].length ≤ 1000000 ∧ ([] ++ L.take k ++ [NmV.mk s i]).length + (L.drop k).length ≤ 1000000) := Lib.hid (by simp; omega)
              have HK : Hid (([] ++ L.take k).length = k) := Lib.hid (by rw [List.nil_append, List.length_take]; omega)
              have hdr := belD w1
              have hal := hdr.alloc hdr.size (.cells #[.string s, .int .i64 i] 91)
              have HX : ∀ W : World, SliceS 2 NmS (fun _ => True) (W.alloc (.cells #[.string s, .int .i64 i] 91)) [.slice (some ⟨W.heap.size, 0, none⟩) 1 1] [NmV.mk s i] := fun W => SliceS.new1 (S := fun _ => False) NmS.still W 91 #[.string s, .int .i64 i] (NmV.mk s i) rfl rfl (fun _ _ h => h.elim) trivial
              have HXX := Lib.hid HX
              have hcA : ∀ j, (w1.alloc (.cells #[.string s, .int .i64 i] 91)).cell? ⟨xb, j, none⟩ = (#[.slice (some ⟨g, 0, none⟩) L.length c, .int .i64 (most : Int)] : Array Value)[j]? := (H1.out.blk.alloc _).cell
              have HDR := Lib.hid hdr
              have HAL := Lib.hid hal
              clear HX hdr hal
              go_region_law (first
                | (refine rgn_appendNm rfl (.const (.slice none 0 0)) (.tmp 84) rfl B (.slice none 0 0) [] rfl (OwnS.empty _) _ _ _ (L.take k) rfl (HT.out.below NmS.still HDR.out) HZ.out.1 hB1 ?_; intro v2 w2 ho2 hg2 hn2; have hb2 : Below w1.heap.size w1 w2 := HDR.out.trans (Below.of_row hg2 (Nat.le_refl w1.drew.heap.size) (fun k hk => by simp [rowOf] at hk)); have HR2 : Hid (∀ k, rowOf v2 = some k → w1.heap.size ≤ k) := Lib.hid (fun k hk => (hn2 k hk).elim (fun e => by simp [rowOf] at e) (fun e => e)); obtain ⟨p2, c2, hv2, _⟩ := ho2.slice NmS.still (S' := fun _ => True) (fun _ _ _ => trivial) (fun _ _ => trivial); rw [HK.out] at hv2; subst hv2; have HO2 := Lib.hid ho2; have HB2 := Lib.hid hb2; have HN2 : Hid (SliceS 2 NmS (fun _ => True) (w2.alloc (.cells #[.string s, .int .i64 i] 91)) [.slice (some ⟨w2.heap.size, 0, none⟩) 1 1] [NmV.mk s i]) := Lib.hid (HXX.out w2); have HOA : Hid (OwnN B (w2.alloc (.cells #[.string s, .int .i64 i] 91)) (.slice p2 k c2) ([] ++ L.take k)) := Lib.hid (ho2.below' NmS.still ((Below.refl _ _).alloc (Nat.le_refl _) _)); have HBA : Hid (Below w1.heap.size w1 (w2.alloc (.cells #[.string s, .int .i64 i] 91))) := Lib.hid (hb2.alloc hb2.size _); have hc2 := (H1.out.blk.below hb2 H1.out.blk.lt).cell; have hc2' := (H1.out.blk.below HBA.out H1.out.blk.lt).cell; clear ho2 hg2 hn2 hb2)
                | (refine rgn_appendNm rfl (.const (.slice none 0 0)) (.tmp 84) rfl B (.slice none 0 0) [] rfl (OwnS.empty _) _ _ _ (L.take k) rfl (HT.out.below NmS.still HAL.out) HZ.out.1 (Nat.le_trans hB1 HAL.out.size) ?_; intro v2 w2 ho2 hg2 hn2; have hbg := (Below.of_row hg2 (Nat.le_refl (w1.drew.alloc (.cells #[.string s, .int .i64 i] 91)).heap.size) (fun k hk => by simp [rowOf] at hk)); have hb2 : Below w1.heap.size w1 w2 := HAL.out.trans (hbg.mono HAL.out.size); have HR2 : Hid (∀ k, rowOf v2 = some k → w1.heap.size ≤ k) := Lib.hid (fun k hk => (hn2 k hk).elim (fun e => by simp [rowOf] at e) (fun e => Nat.le_trans HAL.out.size e)); obtain ⟨p2, c2, hv2, _⟩ := ho2.slice NmS.still (S' := fun _ => True) (fun _ _ _ => trivial) (fun _ _ => trivial); rw [HK.out] at hv2; subst hv2; have HN2 : Hid (SliceS 2 NmS (fun _ => True) w2 [.slice (some ⟨w1.heap.size, 0, none⟩) 1 1] [NmV.mk s i]) := Lib.hid ((HXX.out w1.drew).below NmS.still hbg); have HOA := Lib.hid ho2; have HBA := Lib.hid hb2; have hc2 := (H1.out.blk.below hb2 H1.out.blk.lt).cell; clear ho2 hg2 hn2 hb2 hbg)
                | (refine rgn_appendNm rfl (.tmp 85) (.tmp 89) rfl B _ ([] ++ L.take k) rfl HOA.out _ _ _ [NmV.mk s i] rfl HN2.out HZ.out.2.1 (Nat.le_trans hB1 HBA.out.size) ?_; intro v4 w4 ho4 hg4 hn4; have hb4 : Below w1.heap.size w1 w4 := HBA.out.trans (Below.of_row hg4 HBA.out.size (fun k hk => HR2.out k hk)); have HR4 : Hid (∀ k, rowOf v4 = some k → w1.heap.size ≤ k) := Lib.hid (fun k hk => (hn4 k hk).elim (fun e => HR2.out k e) (fun e => Nat.le_trans HBA.out.size e)); obtain ⟨p4, c4, hv4, _⟩ := ho4.slice NmS.still (S' := fun _ => True) (fun _ _ _ => trivial) (fun _ _ => trivial); generalize ([] ++ L.take k ++ [NmV.mk s i]).length = m4 at hv4; subst hv4; have HO4 := Lib.hid ho4; have HB4 := Lib.hid hb4; have hc4 := (H1.out.blk.below hb4 H1.out.blk.lt).cell; clear ho4 hg4 hn4 hb4)
                | (refine rgn_appendNm rfl (.tmp 90) (.tmp 96) rfl B _ ([] ++ L.take k ++ [NmV.mk s i]) rfl HO4.out _ _ _ (L.drop k) rfl (by simpa using HC.out _ HB4.out) HZ.out.2.2 (Nat.le_trans hB1 HB4.out.size) ?_; intro v5 w5 ho5 hg5 hn5; have hb5 : Below w1.heap.size w1 w5 := HB4.out.trans (Below.of_row hg5 HB4.out.size (fun k hk => HR4.out k hk)); have hR5 : ∀ k, rowOf v5 = some k → w1.heap.size ≤ k := (fun k hk => (hn5 k hk).elim (fun e => HR4.out k e) (fun e => Nat.le_trans HB4.out.size e)); obtain ⟨p5, c5, hv5, _⟩ := ho5.slice NmS.still (S' := fun _ => True) (fun _ _ _ => trivial) (fun _ _ => trivial); generalize ([] ++ L.take k ++ [NmV.mk s i] ++ L.drop k).length = n5 at hv5; subst hv5; have hP := H1.out.renew hb5 ho5 hR5 (by simpa using Hins.out); have hc5 := hP.1.cell; have hf5 := hP.1.frozen; have HP := Lib.hid (HXR.out _ _ hP.2); clear ho5 hg5 hn5 hb5 hR5 hP))
              all_goals go_wp2_with fail
              all_goals
                go_ret2
                rw [Hi0.out, Hsee.out, Hset.out]
                first
                  | exact ⟨rfl, HP.out⟩
                  | (have hP := HP.out; rw [‹c = L.length›] at hP; exact ⟨rfl, hP⟩)
          · obtain rfl : k = L.length := by omega
            have hnl : ¬ (L.length : Int) < (L.length : Int) := by omega
            have e0 : L.length - L.length = 0 := by omega
            have HC : Hid (∀ W q d, Below w1.heap.size w1 W → d ≤ maxLen → SliceS 2 NmS (fun _ => True) W [.slice q 0 d] (L.drop L.length)) := Lib.hid (fun W q d _ hd => by rw [show L.drop L.length = [] from List.drop_eq_nil_of_le (Nat.le_refl _)]; exact SliceS.empty _ _ hd)
            go_wp2_with fail
            have HT : Hid (SliceS 2 NmS (fun _ => True) w1 [.slice p L.length c] (L.take L.length)) := Lib.hid (Hs1.out.take' L.length c hk (by omega) (by unfold maxLen; omega))
            have HZ : Hid (([] : List NmV).length + (L.take L.length).length ≤ 1000000 ∧ ([] ++ L.take L.length).length + [NmV.mk s i].length ≤ 1000000 ∧ ([] ++ L.take L.length ++ [NmV.mk s i]).length + (L.drop L.length).length ≤ 1000000) := Lib.hid (by simp; omega)
            have HK : Hid (([] ++ L.take L.length).length = L.length) := Lib.hid (by rw [List.nil_append, List.length_take]; omega)
            have hdr := belD w1
            have hal := hdr.alloc hdr.size (.cells #[.string s, .int .i64 i] 91)
            have HX : ∀ W : World, SliceS 2 NmS (fun _ => True) (W.alloc (.cells #[.string s, .int .i64 i] 91)) [.slice (some ⟨W.heap.size, 0, none⟩) 1 1] [NmV.mk s i] := fun W => SliceS.new1 (S := fun _ => False) NmS.still W 91 #[.string s, .int .i64 i] (NmV.mk s i) rfl rfl (fun _ _ h => h.elim) trivial
            have HXX := Lib.hid HX
            have hcA : ∀ j, (w1.alloc (.cells #[.string s, .int .i64 i] 91)).cell? ⟨xb, j, none⟩ = (#[.slice p L.length c, .int .i64 (most : Int)] : Array Value)[j]? := (H1.out.blk.alloc _).cell
            have HDR := Lib.hid hdr
            have HAL := Lib.hid hal
            clear HX hdr hal
            go_region_law (first
              | (refine rgn_appendNm rfl (.const (.slice none 0 0)) (.tmp 84) rfl B (.slice none 0 0) [] rfl (OwnS.empty _) _ _ _ (L.take L.length) rfl (HT.out.below NmS.still HDR.out) HZ.out.1 hB1 ?_; intro v2 w2 ho2 hg2 hn2; have hb2 : Below w1.heap.size w1 w2 := HDR.out.trans (Below.of_row hg2 (Nat.le_refl w1.drew.heap.size) (fun k hk => by simp [rowOf] at hk)); have HR2 : Hid (∀ k, rowOf v2 = some k → w1.heap.size ≤ k) := Lib.hid (fun k hk => (hn2 k hk).elim (fun e => by simp [rowOf] at e) (fun e => e)); obtain ⟨p2, c2, hv2, _⟩ := ho2.slice NmS.still (S' := fun _ => True) (fun _ _ _ => trivial) (fun _ _ => trivial); rw [HK.out] at hv2; subst hv2; have HO2 := Lib.hid ho2; have HB2 := Lib.hid hb2; have HN2 : Hid (SliceS 2 NmS (fun _ => True) (w2.alloc (.cells #[.string s, .int .i64 i] 91)) [.slice (some ⟨w2.heap.size, 0, none⟩) 1 1] [NmV.mk s i]) := Lib.hid (HXX.out w2); have HOA : Hid (OwnN B (w2.alloc (.cells #[.string s, .int .i64 i] 91)) (.slice p2 L.length c2) ([] ++ L.take L.length)) := Lib.hid (ho2.below' NmS.still ((Below.refl _ _).alloc (Nat.le_refl _) _)); have HBA : Hid (Below w1.heap.size w1 (w2.alloc (.cells #[.string s, .int .i64 i] 91))) := Lib.hid (hb2.alloc hb2.size _); have hc2 := (H1.out.blk.below hb2 H1.out.blk.lt).cell; have hc2' := (H1.out.blk.below HBA.out H1.out.blk.lt).cell; clear ho2 hg2 hn2 hb2)
              | (refine rgn_appendNm rfl (.const (.slice none 0 0)) (.tmp 84) rfl B (.slice none 0 0) [] rfl (OwnS.empty _) _ _ _ (L.take L.length) rfl (HT.out.below NmS.still HAL.out) HZ.out.1 (Nat.le_trans hB1 HAL.out.size) ?_; intro v2 w2 ho2 hg2 hn2; have hbg := (Below.of_row hg2 (Nat.le_refl (w1.drew.alloc (.cells #[.string s, .int .i64 i] 91)).heap.size) (fun k hk => by simp [rowOf] at hk)); have hb2 : Below w1.heap.size w1 w2 := HAL.out.trans (hbg.mono HAL.out.size); have HR2 : Hid (∀ k, rowOf v2 = some k → w1.heap.size ≤ k) := Lib.hid (fun k hk => (hn2 k hk).elim (fun e => by simp [rowOf] at e) (fun e => Nat.le_trans HAL.out.size e)); obtain ⟨p2, c2, hv2, _⟩ := ho2.slice NmS.still (S' := fun _ => True) (fun _ _ _ => trivial) (fun _ _ => trivial); rw [HK.out] at hv2; subst hv2; have HN2 : Hid (SliceS 2 NmS (fun _ => True) w2 [.slice (some ⟨w1.heap.size, 0, none⟩) 1 1] [NmV.mk s i]) := Lib.hid ((HXX.out w1.drew).below NmS.still hbg); have HOA := Lib.hid ho2; have HBA := Lib.hid hb2; have hc2 := (H1.out.blk.below hb2 H1.out.blk.lt).cell; clear ho2 hg2 hn2 hb2 hbg)
              | (refine rgn_appendNm rfl (.tmp 85) (.tmp 89) rfl B _ ([] ++ L.take L.length) rfl HOA.out _ _ _ [NmV.mk s i] rfl HN2.out HZ.out.2.1 (Nat.le_trans hB1 HBA.out.size) ?_; intro v4 w4 ho4 hg4 hn4; have hb4 : Below w1.heap.size w1 w4 := HBA.out.trans (Below.of_row hg4 HBA.out.size (fun k hk => HR2.out k hk)); have HR4 : Hid (∀ k, rowOf v4 = some k → w1.heap.size ≤ k) := Lib.hid (fun k hk => (hn4 k hk).elim (fun e => HR2.out k e) (fun e => Nat.le_trans HBA.out.size e)); obtain ⟨p4, c4, hv4, _⟩ := ho4.slice NmS.still (S' := fun _ => True) (fun _ _ _ => trivial) (fun _ _ => trivial); generalize ([] ++ L.take L.length ++ [NmV.mk s i]).length = m4 at hv4; subst hv4; have HO4 := Lib.hid ho4; have HB4 := Lib.hid hb4; have hc4 := (H1.out.blk.below hb4 H1.out.blk.lt).cell; clear ho4 hg4 hn4 hb4)
              | (refine rgn_appendNm rfl (.tmp 90) (.tmp 96) rfl B _ ([] ++ L.take L.length ++ [NmV.mk s i]) rfl HO4.out _ _ _ (L.drop L.length) rfl (HC.out _ _ _ HB4.out (by unfold maxLen; omega)) HZ.out.2.2 (Nat.le_trans hB1 HB4.out.size) ?_; intro v5 w5 ho5 hg5 hn5; have hb5 : Below w1.heap.size w1 w5 := HB4.out.trans (Below.of_row hg5 HB4.out.size (fun k hk => HR4.out k hk)); have hR5 : ∀ k, rowOf v5 = some k → w1.heap.size ≤ k := (fun k hk => (hn5 k hk).elim (fun e => HR4.out k e) (fun e => Nat.le_trans HB4.out.size e)); obtain ⟨p5, c5, hv5, _⟩ := ho5.slice NmS.still (S' := fun _ => True) (fun _ _ _ => trivial) (fun _ _ => trivial); generalize ([] ++ L.take L.length ++ [NmV.mk s i] ++ L.drop L.length).length = n5 at hv5; subst hv5; have hP := H1.out.renew hb5 ho5 hR5 (by simpa using Hins.out); have hc5 := hP.1.cell; have hf5 := hP.1.frozen; have HP := Lib.hid (HXR.out _ _ hP.2); clear ho5 hg5 hn5 hb5 hR5 hP))
            all_goals go_wp2_with fail
            all_goals
              go_ret2
              rw [Hi0.out, Hsee.out, Hset.out]
              first
                | exact ⟨rfl, HP.out⟩
                | (have hP := HP.out; rw [‹c = L.length›] at hP; exact ⟨rfl, hP⟩)
end Go.Proofs.Ytacnmdlefonjmaa

/-
  The contract of queue.copied (layer 21).
-/
namespace Go.Proofs.Ytacnmdlefonjmaa
open Go.RowKit

def enZ : Array Value := #[.int .i64 0, .bool false, .string ⟨#[]⟩, .string ⟨#[]⟩, .slice none 0 0, .slice none 0 0, .slice none 0 0, .slice none 0 0]

/-- An entry's lists are short. -/
def EnSmall (x : EnV) : Prop := x.good.length ≤ 1000 ∧ x.bad.length ≤ 1000 ∧ x.cache.length ≤ 1000 ∧ x.reply.length ≤ 1000000

theorem below_dropN {B : Nat} {w w' : World} (h : Below B w.drew w') (hB : B ≤ w.heap.size) : Below B w w' := by
  have hd : Below B w w.drew := ((Touch.refl (fun _ => False) w).drew).below hB (fun k e => e.elim)
  exact hd.trans h

/-- What the two blocks of 'copied' hold. -/
structure CpI (w0 w : World) (x : EnV) (a : EnP) (cs : Array Value) : Prop where
  b1 : Blk w w0.heap.size 52 cs
  b2 : Blk w (w0.heap.size + 1) 52 enZ
  good : SliceS 3 OpS (fun k => k < w0.heap.size) w [.slice a.pg x.good.length a.cg] x.good
  bad : SliceS 3 OpS (fun k => k < w0.heap.size) w [.slice a.pb x.bad.length a.cb] x.bad
  cache : SliceS 2 CaS (fun k => k < w0.heap.size) w [.slice a.pc x.cache.length a.cc] x.cache
  reply : BytesS (fun k => k < w0.heap.size) w [.slice a.pr x.reply.length a.cr] x.reply
  bel : Below w0.heap.size w0 w

theorem CpI.step {w0 w w' : World} {x : EnV} {a : EnP} {cs : Array Value} (h : CpI w0 w x a cs) (hb : Below w.heap.size w w') : CpI w0 w' x a cs :=
  ⟨h.b1.below hb h.b1.lt, h.b2.below hb h.b2.lt, h.good.below OpS.still hb, h.bad.below OpS.still hb, h.cache.below CaS.still hb, BytesS.still _ _ _ _ _ _ h.reply (Kept.all hb), h.bel.trans (hb.mono h.bel.size)⟩

theorem CpI.set {w0 w : World} {x : EnV} {a : EnP} {cs : Array Value} (h : CpI w0 w x a cs) (i : Nat) (u : Value) : CpI w0 (w.setCell ⟨w0.heap.size, i, none⟩ u) x a (cs.setIfInBounds i u) := by
  have hT : Touch (fun k => k = w0.heap.size) w (w.setCell ⟨w0.heap.size, i, none⟩ u) := (Touch.refl (fun k => k = w0.heap.size) w).setCell (x := ⟨w0.heap.size, i, none⟩) (fun _ => rfl) u
  have hk : Kept (fun k => k < w0.heap.size) (fun k => k < w0.heap.size) w (w.setCell ⟨w0.heap.size, i, none⟩ u) := Kept.touch hT (fun k _ hs => ⟨hs, by omega⟩)
  exact ⟨h.b1.set_ i u, hT.blk h.b2 (by omega), (SliceS.still OpS.still) _ _ _ _ _ _ h.good hk, (SliceS.still OpS.still) _ _ _ _ _ _ h.bad hk, (SliceS.still CaS.still) _ _ _ _ _ _ h.cache hk, BytesS.still _ _ _ _ _ _ h.reply hk, h.bel.trans (hT.below h.bel.size (fun k hk => by omega))⟩

theorem CpI.start {S : Nat → Prop} {w : World} {x : EnV} {a : EnP} (h : EnL S w x a) : CpI w ((w.alloc (.cells #[.int .i64 x.kind, .bool x.hide, .string x.frm, .string x.dst, .slice a.pg x.good.length a.cg, .slice a.pb x.bad.length a.cb, .slice a.pc x.cache.length a.cc, .slice a.pr x.reply.length a.cr] 52)).alloc (.cells enZ 52)) x a
    #[.int .i64 x.kind, .bool x.hide, .string x.frm, .string x.dst, .slice a.pg x.good.length a.cg, .slice a.pb x.bad.length a.cb, .slice a.pc x.cache.length a.cc, .slice a.pr x.reply.length a.cr] := by
  have hb : Below w.heap.size w ((w.alloc (.cells #[.int .i64 x.kind, .bool x.hide, .string x.frm, .string x.dst, .slice a.pg x.good.length a.cg, .slice a.pb x.bad.length a.cb, .slice a.pc x.cache.length a.cc, .slice a.pr x.reply.length a.cr] 52)).alloc (.cells enZ 52)) := ((Below.refl _ _).alloc (Nat.le_refl _) _).alloc (by simp) _
  have h' := h.keep (Kept.mono (S' := fun k => k < w.heap.size) w (fun k hk _ => hk))
  have h2 := h'.keep (Kept.all hb)
  refine ⟨(Blk.new _ _ _).alloc _, ?_, h2.good, h2.bad, h2.cache, h2.reply, hb⟩
  have := Blk.new (w.alloc (.cells #[.int .i64 x.kind, .bool x.hide, .string x.frm, .string x.dst, .slice a.pg x.good.length a.cg, .slice a.pb x.bad.length a.cb, .slice a.pc x.cache.length a.cc, .slice a.pr x.reply.length a.cr] 52)) 52 enZ
  simpa using this

def Flat {α : Type} (R : Rd α) : Prop := ∀ (S S' : Nat → Prop) (w w' : World) (cs : List Value) (x : α), R S w cs x → R S' w' cs x
theorem OpS.flat : Flat OpS := fun _ _ _ _ _ _ h => h
theorem CaS.flat : Flat CaS := fun _ _ _ _ _ _ h => h

theorem OwnS.fresh {α : Type} {B : Nat} {e : TypeId} {n : Nat} {R : Rd α} {S : Nat → Prop} {w : World} {v : Value} {xs : List α} (hF : Flat R) (h : OwnS B e n R S w v xs) (S' : Nat → Prop) (hS : ∀ k, B ≤ k → S' k) :
    ∃ p c, v = .slice p xs.length c ∧ SliceS n R S' w [.slice p xs.length c] xs := by
  obtain ⟨css, h1, h2⟩ := h
  have h3 : OwnS B e n R S' w v xs := ⟨css, h1, h2.imp (fun _ _ ⟨k1, k2⟩ => ⟨k1, hF _ _ _ _ _ _ k2⟩)⟩
  exact h3.slice (fun _ _ _ _ _ _ h _ => hF _ _ _ _ _ _ h) (fun _ _ h => h) (fun k hk => hS k (h3.row k hk).1)

def Cut1 (w wx : World) (x : EnV) (a : EnP) : Prop :=
  ∃ pg cg pb cb, CpI w wx x a #[.int .i64 x.kind, .bool x.hide, .string x.frm, .string x.dst, .slice pg x.good.length cg, .slice pb x.bad.length cb, .slice a.pc x.cache.length a.cc, .slice a.pr x.reply.length a.cr] ∧
    SliceS 3 OpS (fun k => w.heap.size + 2 ≤ k) wx [.slice pg x.good.length cg] x.good ∧ SliceS 3 OpS (fun k => w.heap.size + 2 ≤ k) wx [.slice pb x.bad.length cb] x.bad

theorem kept_set2 {w w3 : World} (i j : Nat) (u v : Value) : Kept (fun k => w.heap.size + 2 ≤ k) (fun k => w.heap.size + 2 ≤ k) w3 ((w3.setCell ⟨w.heap.size, i, none⟩ u).setCell ⟨w.heap.size, j, none⟩ v) :=
  Kept.touch (((Touch.refl (fun k => k = w.heap.size) w3).setCell (x := ⟨w.heap.size, i, none⟩) (fun _ => rfl) u).setCell (x := ⟨w.heap.size, j, none⟩) (fun _ => rfl) v) (fun k _ hs => ⟨hs, by omega⟩)

theorem cut1_end {w w3 : World} {x : EnV} {a : EnP} {pg pb : Option Addr} {cg cb : Nat}
    (h : CpI w w3 x a #[.int .i64 x.kind, .bool x.hide, .string x.frm, .string x.dst, .slice a.pg x.good.length a.cg, .slice a.pb x.bad.length a.cb, .slice a.pc x.cache.length a.cc, .slice a.pr x.reply.length a.cr])
    (h1 : SliceS 3 OpS (fun k => w.heap.size + 2 ≤ k) w3 [.slice pg x.good.length cg] x.good) (h2 : SliceS 3 OpS (fun k => w.heap.size + 2 ≤ k) w3 [.slice pb x.bad.length cb] x.bad) :
    Cut1 w ((w3.setCell ⟨w.heap.size, 4, none⟩ (.slice pg x.good.length cg)).setCell ⟨w.heap.size, 5, none⟩ (.slice pb x.bad.length cb)) x a := by
  refine ⟨pg, cg, pb, cb, ?_, (SliceS.still OpS.still) _ _ _ _ _ _ h1 (kept_set2 4 5 _ _), (SliceS.still OpS.still) _ _ _ _ _ _ h2 (kept_set2 4 5 _ _)⟩
  have := (h.set 4 (.slice pg x.good.length cg)).set 5 (.slice pb x.bad.length cb)
  simpa using this

def Cut2 (w wx : World) (x : EnV) (a : EnP) : Prop :=
  ∃ a', CpI w wx x a #[.int .i64 x.kind, .bool x.hide, .string x.frm, .string x.dst, .slice a'.pg x.good.length a'.cg, .slice a'.pb x.bad.length a'.cb, .slice a'.pc x.cache.length a'.cc, .slice a'.pr x.reply.length a'.cr] ∧
    EnL (fun k => w.heap.size + 2 ≤ k) wx x a'

theorem cut2_end {w w3 : World} {x : EnV} {a : EnP} {pg pb pc pr : Option Addr} {cg cb cc cr : Nat}
    (h : CpI w w3 x a #[.int .i64 x.kind, .bool x.hide, .string x.frm, .string x.dst, .slice pg x.good.length cg, .slice pb x.bad.length cb, .slice a.pc x.cache.length a.cc, .slice a.pr x.reply.length a.cr])
    (h1 : SliceS 3 OpS (fun k => w.heap.size + 2 ≤ k) w3 [.slice pg x.good.length cg] x.good) (h2 : SliceS 3 OpS (fun k => w.heap.size + 2 ≤ k) w3 [.slice pb x.bad.length cb] x.bad)
    (h3 : SliceS 2 CaS (fun k => w.heap.size + 2 ≤ k) w3 [.slice pc x.cache.length cc] x.cache) (h4 : BytesS (fun k => w.heap.size + 2 ≤ k) w3 [.slice pr x.reply.length cr] x.reply) :
    Cut2 w ((w3.setCell ⟨w.heap.size, 6, none⟩ (.slice pc x.cache.length cc)).setCell ⟨w.heap.size, 7, none⟩ (.slice pr x.reply.length cr)) x a := by
  refine ⟨⟨pg, cg, pb, cb, pc, cc, pr, cr⟩, ?_, (SliceS.still OpS.still) _ _ _ _ _ _ h1 (kept_set2 6 7 _ _), (SliceS.still OpS.still) _ _ _ _ _ _ h2 (kept_set2 6 7 _ _), (SliceS.still CaS.still) _ _ _ _ _ _ h3 (kept_set2 6 7 _ _), BytesS.still _ _ _ _ _ _ h4 (kept_set2 6 7 _ _)⟩
  have := (h.set 6 (.slice pc x.cache.length cc)).set 7 (.slice pr x.reply.length cr)
  simpa using this

theorem bytesS_fresh {B : Nat} {w : World} {v : Value} {l : List UInt8} (h : OwnBR B w v l) (S' : Nat → Prop) (hS : ∀ k, B ≤ k → S' k) : ∃ p c, v = .slice p l.length c ∧ BytesS S' w [.slice p l.length c] l := h.bytesS hS

theorem bytesS_below {S : Nat → Prop} {w w' : World} {cs : List Value} {l : List UInt8} (h : BytesS S w cs l) (hb : Below w.heap.size w w') : BytesS S w' cs l := h.below hb

end Go.Proofs.Ytacnmdlefonjmaa

/-
  The contract of queue.all (layer 21).
-/
namespace Go.Proofs.Ytacnmdlefonjmaa
open Go.RowKit
set_option linter.unusedVariables false
set_option linter.unusedSimpArgs false

abbrev OwnEn (B : Nat) (S : Nat → Prop) (w : World) (v : Value) (xs : List EnV) : Prop := OwnS B 52 8 EnS S w v xs

/-- Entries behind entries. -/
theorem step_appendEn {ops : Array Oper} {rest : List Oper} {o : Oper} {a : Act} {Q : Exit → Act → World → Prop} (w : World) (hgd : o.guard = none) (s y : Operand)
    (ho : o.op = .call { callee := .builtin .append, args := #[s, y], argTypes := #[23, 23] })
    (B : Nat) (S : Nat → Prop) (v : Value) (xs : List EnV) (hsv : a.eval s = v) (hown : OwnEn B S w v xs) (p : Option Addr) (n c : Nat) (ys : List EnV) (hx : a.eval y = .slice p n c) (hs : SliceS 8 EnS (fun k => S k ∧ rowOf v ≠ some k) w [.slice p n c] ys)
    (hroom : xs.length + ys.length ≤ 1000000) (hbase : B ≤ w.heap.size)
    (h : ∀ v' w', OwnEn B S w' v' (xs ++ ys) → w.grownBy w' (rowOf v) → (∀ k, rowOf v' = some k → rowOf v = some k ∨ w.heap.size ≤ k) → wpList Try.prog ops Q rest (a.put o.dst v') w') : wpList Try.prog ops Q (o :: rest) a w :=
  wpList_append_S w hgd s y 23 23 ho B 52 52 8 144 Try.underlying23 Try.underlying23 info_en EnS EnS.still EnS.one S v xs hsv hown p n c ys hx hs
    (by omega) (by simp only [maxLen]; omega) hbase h

/-- A new entry, as a slice of one. -/
theorem new1En {S : Nat → Prop} {w : World} {v : Value} {x : EnV} {a : EnP} (h : EnL (fun k => S k ∧ rowOf v ≠ some k) w x a) (h0 : S w.heap.size) (hv : rowOf v ≠ some w.heap.size) :
    SliceS 8 EnS (fun k => S k ∧ rowOf v ≠ some k) (w.alloc (.cells #[.int .i64 x.kind, .bool x.hide, .string x.frm, .string x.dst, .slice a.pg x.good.length a.cg, .slice a.pb x.bad.length a.cb, .slice a.pc x.cache.length a.cc, .slice a.pr x.reply.length a.cr] 52)) [.slice (some ⟨w.heap.size, 0, none⟩) 1 1] [x] :=
  SliceS.new1 EnS.still w 52 #[.int .i64 x.kind, .bool x.hide, .string x.frm, .string x.dst, .slice a.pg x.good.length a.cg, .slice a.pb x.bad.length a.cb, .slice a.pc x.cache.length a.cc, .slice a.pr x.reply.length a.cr] x ⟨a, rfl, h⟩ rfl (fun k _ hs => hs) ⟨h0, hv⟩

/-- The i-th entry of a slice. -/
theorem en_at {S : Nat → Prop} {w : World} {p : Option Addr} {n c k : Nat} {xs : List EnV} (h : SliceS 8 EnS S w [.slice p n c] xs) (hk : k < xs.length) :
    ∃ b o a, p = some ⟨b, o, none⟩ ∧ S b ∧ b < w.heap.size ∧ EnL S w xs[k] a ∧
      w.cell? ⟨b, o + k * 8, none⟩ = some (.int .i64 xs[k].kind) ∧ w.cell? ⟨b, o + k * 8 + 1, none⟩ = some (.bool xs[k].hide) ∧ w.cell? ⟨b, o + k * 8 + 2, none⟩ = some (.string xs[k].frm) ∧ w.cell? ⟨b, o + k * 8 + 3, none⟩ = some (.string xs[k].dst) ∧
      w.cell? ⟨b, o + k * 8 + 4, none⟩ = some (.slice a.pg xs[k].good.length a.cg) ∧ w.cell? ⟨b, o + k * 8 + 5, none⟩ = some (.slice a.pb xs[k].bad.length a.cb) ∧ w.cell? ⟨b, o + k * 8 + 6, none⟩ = some (.slice a.pc xs[k].cache.length a.cc) ∧ w.cell? ⟨b, o + k * 8 + 7, none⟩ = some (.slice a.pr xs[k].reply.length a.cr) := by
  obtain ⟨b, o, cs, rfl, hS, hb, _, hc, a, rfl, hl⟩ := h.elem (by omega) k xs[k] (List.getElem?_eq_getElem hk)
  have c0 := hc 0 _ rfl
  rw [Nat.add_zero] at c0
  exact ⟨b, o, a, rfl, hS, hb, hl, c0, hc 1 _ rfl, hc 2 _ rfl, hc 3 _ rfl, hc 4 _ rfl, hc 5 _ rfl, hc 6 _ rfl, hc 7 _ rfl⟩

end Go.Proofs.Ytacnmdlefonjmaa

/-
  The document's view of a table, Lookup, Many (layer 16).
-/
namespace Go.Proofs.Ytacnmdlefonjmaa
open Go.RowKit Go.Maps
set_option linter.unusedVariables false
set_option linter.unusedSimpArgs false

theorem set_big {t : TbV} {most : Nat} {s : List UInt8} {i : Int} (h : t.n < most) : t.set most s i = t.put s i := by
  have : t.full most s = false := by
    unfold TbV.full
    cases t.getB s <;> simp
    omega
  unfold TbV.set
  rw [this]
  rfl
/-- A view while it is made. -/
def VwI (w0 : World) (xb : Nat) (t : TbV) (O : List OpV) (N : Nat) (w : World) : Prop := (∃ v L, XbO w0.heap.size w xb 1073741824 v L (opsT t O)) ∧ O.length ≤ N ∧ Below w0.heap.size w0 w
theorem VwI.still {w0 w w1 : World} {xb : Nat} {t : TbV} {O : List OpV} {N : Nat} (h : VwI w0 xb t O N w) (hb : Below w.heap.size w w1) : VwI w0 xb t O N w1 := by
  obtain ⟨⟨v, L, hx⟩, h1, h2⟩ := h
  exact ⟨⟨v, L, hx.still hb⟩, h1, h2.trans (hb.mono h2.size)⟩
theorem VwI.step {w0 w w1 : World} {xb N : Nat} {t : TbV} {O O' : List OpV} {v : Value} {L : List NmV} (hx : XbO w0.heap.size w xb 1073741824 v L (opsT t O)) (hb : Below w0.heap.size w0 w) (h : XbR w0.heap.size xb 1073741824 v (opsT t O') w w1) (hl : O'.length ≤ N) : VwI w0 xb t O' N w1 := by
  obtain ⟨v', L', r1, r2, r3⟩ := h
  exact ⟨⟨v', L', r1⟩, hl, hb.trans (r3.below hb.size (fun k e => by
    rcases e with e | e
    · rw [e]; exact hx.sB
    · exact (hx.own.row k e).1))⟩
theorem vw_set (w0 : World) (xb : Nat) (t : TbV) (O : List OpV) (N : Nat) (s : ByteArray) (i : Int) (w : World) (h : VwI w0 xb t O N w) (hn : t.n + N ≤ 90000) :
    Calls Try.prog 32 #[.pointer (some ⟨xb, 0, none⟩), .string s, .int .i64 i] w fun e w' => ∃ v, e = .returned v ∧ VwI w0 xb t (O ++ [⟨true, s, i⟩]) (N + 1) w' := by
  obtain ⟨⟨v, L, hx⟩, hl, hb⟩ := h
  have hle := opsT_le t O
  have hlen := hx.rd.len
  refine (xSet_any _ _ _ v L _ s i w hx hb.size (by omega)).mono ?_
  rintro e w1 ⟨rfl, hr⟩
  rw [set_big (by omega)] at hr
  have e1 : (opsT t O).put (nmB s) i = opsT t (O ++ [⟨true, s, i⟩]) := by rw [opsT_snoc]; rfl
  rw [e1] at hr
  exact ⟨_, rfl, VwI.step hx hb hr (by rw [List.length_append]; simp; omega)⟩
theorem vw_del (w0 : World) (xb : Nat) (t : TbV) (O : List OpV) (N : Nat) (s : ByteArray) (i : Int) (w : World) (h : VwI w0 xb t O N w) (hn : t.n + N ≤ 90000) :
    Calls Try.prog 38 #[.pointer (some ⟨xb, 0, none⟩), .string s] w fun e w' => ∃ v, e = .returned v ∧ VwI w0 xb t (O ++ [⟨false, s, i⟩]) (N + 1) w' := by
  obtain ⟨⟨v, L, hx⟩, hl, hb⟩ := h
  have hle := opsT_le t O
  have hlen := hx.rd.len
  refine (xDelete_any _ _ _ v L _ s w hx hb.size (by omega)).mono ?_
  rintro e w1 ⟨rfl, hr⟩
  have e1 : (opsT t O).del (nmB s) = opsT t (O ++ [⟨false, s, i⟩]) := by rw [opsT_snoc]; rfl
  rw [e1] at hr
  exact ⟨_, rfl, VwI.step hx hb hr (by rw [List.length_append]; simp; omega)⟩
theorem opsE_snoc (L : List EnV) (k : Nat) (hk : k < L.length) : opsE (L.take (k + 1)) = opsE (L.take k) ++ L[k].good := by
  unfold opsE
  rw [List.take_succ_eq_append_getElem hk, List.map_append, List.flatten_append]
  simp
/-- The j-th op of a list. -/
theorem opL_at {S : Nat → Prop} {w : World} {p : Option Addr} {n c j : Nat} {g : List OpV} (h : SliceS 3 OpS S w [.slice p n c] g) (hj : j < g.length) :
    ∃ b o, p = some ⟨b, o, none⟩ ∧ S b ∧ b < w.heap.size ∧ w.cell? ⟨b, o + j * 3, none⟩ = some (.bool g[j].set) ∧ w.cell? ⟨b, o + j * 3 + 1, none⟩ = some (.string g[j].name) ∧ w.cell? ⟨b, o + j * 3 + 2, none⟩ = some (.int .i64 g[j].id) := by
  obtain ⟨b, o, cs, rfl, hS, hb, _, hc, hr⟩ := h.elem (by omega) j g[j] (List.getElem?_eq_getElem hj)
  unfold OpS at hr
  subst hr
  have c0 := hc 0 _ rfl
  rw [Nat.add_zero] at c0
  exact ⟨b, o, rfl, hS, hb, c0, hc 1 _ rfl, hc 2 _ rfl⟩

/-- What a table is to the document: none, or one in memory. -/
def XbP (B : Nat) (w : World) (p : Option Addr) (t : TbV) : Prop := (p = none ∧ t = tbNo) ∨ ∃ xb most v L, p = some ⟨xb, 0, none⟩ ∧ XbO B w xb most v L t

theorem step_appendNm {ops : Array Oper} {rest : List Oper} {o : Oper} {a : Act} {Q : Exit → Act → World → Prop} (w : World) (hgd : o.guard = none) (s y : Operand)
    (ho : o.op = .call { callee := .builtin .append, args := #[s, y], argTypes := #[45, 45] })
    (B : Nat) (v : Value) (xs : List NmV) (hsv : a.eval s = v) (hown : OwnN B w v xs) (p : Option Addr) (n c : Nat) (ys : List NmV) (hx : a.eval y = .slice p n c) (hs : SliceS 2 NmS (fun k => False ∧ rowOf v ≠ some k) w [.slice p n c] ys ∨ SliceS 2 NmS (fun _ => True) w [.slice p n c] ys)
    (hroom : xs.length + ys.length ≤ 1000000) (hbase : B ≤ w.heap.size)
    (h : ∀ v' w', OwnN B w' v' (xs ++ ys) → w.grownBy w' (rowOf v) → (∀ k, rowOf v' = some k → rowOf v = some k ∨ w.heap.size ≤ k) → wpList Try.prog ops Q rest (a.put o.dst v') w') : wpList Try.prog ops Q (o :: rest) a w := by
  have hs' : SliceS 2 NmS (fun _ => True) w [.slice p n c] ys := by
    rcases hs with hs | hs
    · exact hs.weak NmS.still (fun _ _ _ => trivial)
    · exact hs
  obtain ⟨i, z, hi, hz, hsize, hby, hzs⟩ := info_nm
  obtain ⟨css, k1, k2⟩ := hown
  obtain ⟨dss, rfl, k3, k4⟩ := hs'.src (P := Try.prog) NmS.one Try.underlying45
  refine wpList_append_R w hgd s y 45 45 ho B 91 i z 2 24 Try.underlying45 hi hz hsize hby hzs v _ _ hsv k1 _ _ _ hx k3 (by simp only [maxLen]; omega) (by omega) hbase ?_
  intro v' w' r1 r2 r3
  refine h v' w' ⟨css ++ dss, ?_, ?_⟩ r2 r3
  · rw [List.length_append, List.flatten_append]; exact r1
  · exact All2.append (k2.imp (fun _ _ h => h)) (k4.imp (fun _ _ h => h))

set_option maxRecDepth 100000 in
set_option maxHeartbeats 16000000 in
theorem view_any (B : Nat) (S : Nat → Prop) (px : Option Addr) (t : TbV) (p : Option Addr) (n c : Nat) (l : List EnV) (w : World) (ht : XbP B w px t) (hn : t.n ≤ 50000) (h : SliceS 8 EnS S w [.slice p n c] l) (hs : ∀ x ∈ l, EnSmall x) (hl : l.length ≤ 30) :
    Calls Try.prog 36 #[.pointer px, .slice p n c] w fun e w' => e = .returned (.pointer (some ⟨w.heap.size, 0, none⟩)) ∧ VwI w w.heap.size t (opsE l) 30000 w' := by
  have H := Lib.hid (h.weak EnS.still (S' := fun k => k < w.heap.size) (fun k hk _ => hk))
  have Hs := Lib.hid hs
  obtain ⟨rfl, hlc, hcm⟩ := h.len
  unfold maxLen at hcm
  have hal := (Below.refl w.heap.size w).alloc (Nat.le_refl _) (.cells #[.slice none 0 0, .int .i64 1073741824] 47)
  have HAl := Lib.hid hal
  have hnew : Blk (w.alloc (.cells #[.slice none 0 0, .int .i64 1073741824] 47)) w.heap.size 47 #[.slice none 0 0, .int .i64 ((1073741824 : Nat) : Int)] := Blk.new _ _ _
  have Hnew := Lib.hid hnew
  clear h hs hal hnew
  rcases ht with ⟨rfl, ht0⟩ | ⟨xb, most, v, L, rfl, hx⟩
  · have Hv : Hid (VwI w w.heap.size t [] 0 (w.alloc (.cells #[.slice none 0 0, .int .i64 1073741824] 47))) := Lib.hid ⟨⟨.slice none 0 0, [], Hnew.out, OwnS.empty _, Nat.le_refl _, by simp [rowOf], by rw [ht0]; exact TbN.no⟩, Nat.le_refl _, HAl.out⟩
    clear Hnew HAl ht0
    go_enter Try.func36, Try.ntmps36
    go_wp2_with fail
    generalize (w.alloc (.cells #[.slice none 0 0, .int .i64 1073741824] 47)) = w5 at *
    go_loopw [6] (fun i wr => ∃ k : Nat, k ≤ l.length ∧ i = .int .i64 k ∧ VwI w w.heap.size t (opsE (l.take k)) (k * 1000) wr) (fun i _ => l.length - (intOf i).toNat)
    case atStart => exact ⟨0, Nat.zero_le _, rfl, by simpa [opsE] using Hv.out⟩
    case round =>
      obtain ⟨k, hk, rfl, hv⟩ := hrel
      have Hvk := Lib.hid hv
      clear hv Hv
      have hwk : IntKind.i64.wrap ((k : Int) + 1) = (k : Int) + 1 := by rw [IntKind.wrap_i64]; omega
      by_cases hlt : k < l.length
      · obtain ⟨b, o, a, rfl, hS, hbl, hL, c0, c1, c2, c3, c4, c5, c6, c7⟩ := en_at H.out hlt
        have Hg := Lib.hid hL.good
        have Hx := Lib.hid (Hs.out l[k] (List.getElem_mem hlt)).1
        have Hsn := Lib.hid (opsE_snoc l k hlt)
        clear hL c0 c1 c2 c3 c5 c6 c7
        have Hc4 := Lib.hid c4
        generalize l[k] = x at *
        have hgl := Hx.out
        have hlti : (k : Int) < (l.length : Int) := by omega
        clear c4
        obtain ⟨pg, cg, pb, cb, pc, cc, pr, cr⟩ := a
        dsimp only at *
        have Hgl := Hg.out.len
        obtain ⟨_, hgc, hgm⟩ := Hgl
        unfold maxLen at hgm
        go_wp2_with fail
        go_loopw [7] (fun i wi => ∃ j : Nat, j ≤ x.good.length ∧ i = .int .i64 j ∧ VwI w w.heap.size t (opsE (l.take k) ++ x.good.take j) (k * 1000 + j) wi) (fun i _ => x.good.length - (intOf i).toNat)
        case atStart => exact ⟨0, Nat.zero_le _, rfl, by simpa using Hvk.out⟩
        case round =>
          obtain ⟨j, hj, rfl, hv⟩ := hrel
          have Hvj := Lib.hid hv
          clear hv
          have hwj : IntKind.i64.wrap ((j : Int) + 1) = (j : Int) + 1 := by rw [IntKind.wrap_i64]; omega
          have c4 := (Hvj.out.2.2.cell (p := ⟨b, o + k * 8 + 4, none⟩) hbl).trans Hc4.out
          by_cases hltj : j < x.good.length
          · obtain ⟨gb, go, rfl, hgS, hgbl, d0, d1, d2⟩ := opL_at Hg.out hltj
            have d0' := (Hvj.out.2.2.cell (p := ⟨gb, go + j * 3, none⟩) hgbl).trans d0
            have d1' := (Hvj.out.2.2.cell (p := ⟨gb, go + j * 3 + 1, none⟩) hgbl).trans d1
            have d2' := (Hvj.out.2.2.cell (p := ⟨gb, go + j * 3 + 2, none⟩) hgbl).trans d2
            have Htk : Hid (x.good.take (j + 1) = x.good.take j ++ [x.good[j]]) := Lib.hid (by rw [List.take_succ_eq_append_getElem hltj])
            clear d0 d1 d2
            generalize x.good[j] = y at *
            obtain ⟨ys, yn, yi⟩ := y
            dsimp only at *
            have hltji : (j : Int) < (x.good.length : Int) := by omega
            have hbal := (Below.refl wr.heap.size wr).alloc (Nat.le_refl _) (.cells #[.bool ys, .string yn, .int .i64 yi] 55)
            have Hva := Lib.hid (Hvj.out.still hbal)
            have hopc := (Blk.new wr 55 #[.bool ys, .string yn, .int .i64 yi]).cell
            clear hbal Hvj
            cases ys with
            | false =>
              have Hcall := Lib.hid (vw_del w w.heap.size t _ _ yn yi _ Hva.out (by omega))
              go_wp2_with fail
              refine Hcall.out.mono ?_
              rintro e w9 ⟨v9, rfl, hv9⟩
              have Hv9 := Lib.hid hv9
              clear hv9 Hcall Hva hopc
              go_wp2_with fail
              go_roundw
              case rel => exact ⟨j + 1, by omega, by go_num, by rw [Htk.out, ← List.append_assoc]; exact Hv9.out⟩
              case measure => simp [intOf]; omega
            | true =>
              have Hcall := Lib.hid (vw_set w w.heap.size t _ _ yn yi _ Hva.out (by omega))
              go_wp2_with fail
              refine Hcall.out.mono ?_
              rintro e w9 ⟨v9, rfl, hv9⟩
              have Hv9 := Lib.hid hv9
              clear hv9 Hcall Hva hopc
              go_wp2_with fail
              go_roundw
              case rel => exact ⟨j + 1, by omega, by go_num, by rw [Htk.out, ← List.append_assoc]; exact Hv9.out⟩
              case measure => simp [intOf]; omega
          · obtain rfl : j = x.good.length := by omega
            rw [List.take_length, ← Hsn.out] at Hvj
            have Hfin : Hid (VwI w w.heap.size t (opsE (l.take (k + 1))) ((k + 1) * 1000) wr) := Lib.hid ⟨Hvj.out.1, Nat.le_trans Hvj.out.2.1 (by omega), Hvj.out.2.2⟩
            clear Hvj
            go_wp2_with fail
            go_roundw
            case rel => exact ⟨k + 1, by omega, by go_num, Hfin.out⟩
            case measure => simp [intOf]; omega
      · obtain rfl : k = l.length := by omega
        rw [List.take_length] at Hvk
        go_wp2
        go_ret
        exact ⟨rfl, Hvk.out.1, Nat.le_trans Hvk.out.2.1 (by omega), Hvk.out.2.2⟩
  · have hx1 := hx.still HAl.out
    obtain ⟨pv, cv, rfl, hsl⟩ := hx1.slice
    obtain ⟨_, hvlc, hvcm⟩ := hsl.len
    unfold maxLen at hvcm
    have hc := hx1.blk.cell
    have HS := Lib.hid (hsl.weak NmS.still (S' := fun _ => True) (fun _ _ _ => trivial))
    have HL : Hid (L.length = t.n) := Lib.hid hx.rd.len
    have Hrd := Lib.hid hx.rd
    have hzw : (w.alloc (.cells #[.slice none 0 0, .int .i64 1073741824] 47)).heap.size = w.heap.size + 1 := by simp
    have HZW := Lib.hid hzw
    clear hx hx1 hsl hzw
    go_enter Try.func36, Try.ntmps36
    go_upto_region 3 with (fail)
    generalize (w.alloc (.cells #[.slice none 0 0, .int .i64 1073741824] 47)) = w4 at *
    have hroom : ([] : List NmV).length + L.length ≤ 1000000 := by have := HL.out; simp; omega
    go_wp2_with (at_builtin; go_loud (refine step_appendNm _ rfl (.const (.slice none 0 0)) (.tmp 17) rfl w4.heap.size (.slice none 0 0) [] rfl (OwnS.empty _) pv L.length cv L rfl (.inr HS.out) hroom (Nat.le_refl _) ?_; intro v6 w6 ho6 hg6 hn6; have hb6 := (Below.of_row hg6 (Nat.le_refl w4.heap.size) (fun k hk => by simp [rowOf] at hk)); have hb6w : Below w.heap.size w w6 := HAl.out.trans (hb6.mono HAl.out.size); obtain ⟨p6, c6, hv6, _⟩ := ho6.slice NmS.still (S' := fun _ => True) (fun _ _ _ => trivial) (fun _ _ => trivial); generalize ([] ++ L).length = n6 at hv6; subst hv6; have hbk := Hnew.out.below hb6 Hnew.out.lt; have hX := XbO.set (B := w.heap.size) hbk (Nat.le_refl _) (ho6.base (HAl.out.size)) (fun e => by have := (ho6.row _ e).1; have := HZW.out; omega) (show TbN ([] ++ L) t from Hrd.out); have hc6 := hbk.cell; have hf6 := hbk.frozen; have HV : Hid (VwI w w.heap.size t [] 0 (w6.setCell ⟨w.heap.size, 0, none⟩ (.slice p6 n6 c6))) := Lib.hid ⟨⟨_, _, hX⟩, Nat.le_refl _, hb6w.setCell (p := ⟨w.heap.size, 0, none⟩) (Nat.le_refl _) _⟩; clear ho6 hg6 hn6 hb6 hb6w hbk hX))
    have Hv := HV
    clear HV hc6 hf6 hc HS Hnew HAl
    generalize (w6.setCell ⟨w.heap.size, 0, none⟩ (.slice p6 n6 c6)) = w5 at *
    go_loopw [6] (fun i wr => ∃ k : Nat, k ≤ l.length ∧ i = .int .i64 k ∧ VwI w w.heap.size t (opsE (l.take k)) (k * 1000) wr) (fun i _ => l.length - (intOf i).toNat)
    case atStart => exact ⟨0, Nat.zero_le _, rfl, by simpa [opsE] using Hv.out⟩
    case round =>
      obtain ⟨k, hk, rfl, hv⟩ := hrel
      have Hvk := Lib.hid hv
      clear hv Hv
      have hwk : IntKind.i64.wrap ((k : Int) + 1) = (k : Int) + 1 := by rw [IntKind.wrap_i64]; omega
      by_cases hlt : k < l.length
      · obtain ⟨b, o, a, rfl, hS, hbl, hL, c0, c1, c2, c3, c4, c5, c6, c7⟩ := en_at H.out hlt
        have Hg := Lib.hid hL.good
        have Hx := Lib.hid (Hs.out l[k] (List.getElem_mem hlt)).1
        have Hsn := Lib.hid (opsE_snoc l k hlt)
        clear hL c0 c1 c2 c3 c5 c6 c7
        have Hc4 := Lib.hid c4
        generalize l[k] = x at *
        have hgl := Hx.out
        have hlti : (k : Int) < (l.length : Int) := by omega
        clear c4
        obtain ⟨pg, cg, pb, cb, pc, cc, pr, cr⟩ := a
        dsimp only at *
        have Hgl := Hg.out.len
        obtain ⟨_, hgc, hgm⟩ := Hgl
        unfold maxLen at hgm
        go_wp2_with fail
        go_loopw [7] (fun i wi => ∃ j : Nat, j ≤ x.good.length ∧ i = .int .i64 j ∧ VwI w w.heap.size t (opsE (l.take k) ++ x.good.take j) (k * 1000 + j) wi) (fun i _ => x.good.length - (intOf i).toNat)
        case atStart => exact ⟨0, Nat.zero_le _, rfl, by simpa using Hvk.out⟩
        case round =>
          obtain ⟨j, hj, rfl, hv⟩ := hrel
          have Hvj := Lib.hid hv
          clear hv
          have hwj : IntKind.i64.wrap ((j : Int) + 1) = (j : Int) + 1 := by rw [IntKind.wrap_i64]; omega
          have c4 := (Hvj.out.2.2.cell (p := ⟨b, o + k * 8 + 4, none⟩) hbl).trans Hc4.out
          by_cases hltj : j < x.good.length
          · obtain ⟨gb, go, rfl, hgS, hgbl, d0, d1, d2⟩ := opL_at Hg.out hltj
            have d0' := (Hvj.out.2.2.cell (p := ⟨gb, go + j * 3, none⟩) hgbl).trans d0
            have d1' := (Hvj.out.2.2.cell (p := ⟨gb, go + j * 3 + 1, none⟩) hgbl).trans d1
            have d2' := (Hvj.out.2.2.cell (p := ⟨gb, go + j * 3 + 2, none⟩) hgbl).trans d2
            have Htk : Hid (x.good.take (j + 1) = x.good.take j ++ [x.good[j]]) := Lib.hid (by rw [List.take_succ_eq_append_getElem hltj])
            clear d0 d1 d2
            generalize x.good[j] = y at *
            obtain ⟨ys, yn, yi⟩ := y
            dsimp only at *
            have hltji : (j : Int) < (x.good.length : Int) := by omega
            have hbal := (Below.refl wr.heap.size wr).alloc (Nat.le_refl _) (.cells #[.bool ys, .string yn, .int .i64 yi] 55)
            have Hva := Lib.hid (Hvj.out.still hbal)
            have hopc := (Blk.new wr 55 #[.bool ys, .string yn, .int .i64 yi]).cell
            clear hbal Hvj
            cases ys with
            | false =>
              have Hcall := Lib.hid (vw_del w w.heap.size t _ _ yn yi _ Hva.out (by omega))
              go_wp2_with fail
              refine Hcall.out.mono ?_
              rintro e w9 ⟨v9, rfl, hv9⟩
              have Hv9 := Lib.hid hv9
              clear hv9 Hcall Hva hopc
              go_wp2_with fail
              go_roundw
              case rel => exact ⟨j + 1, by omega, by go_num, by rw [Htk.out, ← List.append_assoc]; exact Hv9.out⟩
              case measure => simp [intOf]; omega
            | true =>
              have Hcall := Lib.hid (vw_set w w.heap.size t _ _ yn yi _ Hva.out (by omega))
              go_wp2_with fail
              refine Hcall.out.mono ?_
              rintro e w9 ⟨v9, rfl, hv9⟩
              have Hv9 := Lib.hid hv9
              clear hv9 Hcall Hva hopc
              go_wp2_with fail
              go_roundw
              case rel => exact ⟨j + 1, by omega, by go_num, by rw [Htk.out, ← List.append_assoc]; exact Hv9.out⟩
              case measure => simp [intOf]; omega
          · obtain rfl : j = x.good.length := by omega
            rw [List.take_length, ← Hsn.out] at Hvj
            have Hfin : Hid (VwI w w.heap.size t (opsE (l.take (k + 1))) ((k + 1) * 1000) wr) := Lib.hid ⟨Hvj.out.1, Nat.le_trans Hvj.out.2.1 (by omega), Hvj.out.2.2⟩
            clear Hvj
            go_wp2_with fail
            go_roundw
            case rel => exact ⟨k + 1, by omega, by go_num, Hfin.out⟩
            case measure => simp [intOf]; omega
      · obtain rfl : k = l.length := by omega
        rw [List.take_length] at Hvk
        go_wp2
        go_ret
        exact ⟨rfl, Hvk.out.1, Nat.le_trans Hvk.out.2.1 (by omega), Hvk.out.2.2⟩

theorem XbP.still {B : Nat} {w w' : World} {p : Option Addr} {t : TbV} (h : XbP B w p t) (hb : Below w.heap.size w w') : XbP B w' p t := by
  rcases h with ⟨h1, h2⟩ | ⟨xb, most, v, L, h1, h2⟩
  · exact .inl ⟨h1, h2⟩
  · exact .inr ⟨xb, most, v, L, h1, h2.still hb⟩

set_option maxRecDepth 100000 in
theorem rLookup_any (B : Nat) (S : Nat → Prop) (px : Option Addr) (t : TbV) (p : Option Addr) (n c : Nat) (l : List EnV) (s : ByteArray) (w : World) (ht : XbP B w px t) (hn : t.n ≤ 50000) (h : SliceS 8 EnS S w [.slice p n c] l) (hs : ∀ x ∈ l, EnSmall x) (hl : l.length ≤ 30) :
    Calls Try.prog 12 #[.pointer px, .slice p n c, .string s] w fun e w' => e = .returned (.tuple #[.int .i64 ((viewT t l).getI (nmB s)), .bool ((viewT t l).getB (nmB s))]) ∧ Below w.heap.size w w' := by
  have HV := Lib.hid (view_any B S px t p n c l w ht hn h hs hl)
  clear ht h hs
  go_enter Try.func12, Try.ntmps12
  go_wp2_with fail
  refine HV.out.mono ?_
  rintro e w1 ⟨rfl, ⟨v, L, hx⟩, _, hb⟩
  have HG := Lib.hid (xGet_any _ _ _ v L _ s w1 hx)
  have Hb := Lib.hid hb
  clear hx hb
  go_wp2_with fail
  refine HG.out.mono ?_
  rintro e w2 ⟨rfl, rfl⟩
  go_wp2_with fail
  go_ret2
  exact ⟨rfl, Hb.out⟩

set_option maxRecDepth 100000 in
theorem rMany_any (B : Nat) (S : Nat → Prop) (px : Option Addr) (t : TbV) (p : Option Addr) (n c : Nat) (l : List EnV) (w : World) (ht : XbP B w px t) (hn : t.n ≤ 50000) (h : SliceS 8 EnS S w [.slice p n c] l) (hs : ∀ x ∈ l, EnSmall x) (hl : l.length ≤ 30) :
    Calls Try.prog 14 #[.pointer px, .slice p n c] w fun e w' => e = .returned (.int .i64 ((viewT t l).n : Nat)) ∧ Below w.heap.size w w' := by
  have HV := Lib.hid (view_any B S px t p n c l w ht hn h hs hl)
  clear ht h hs
  go_enter Try.func14, Try.ntmps14
  go_wp2_with fail
  refine HV.out.mono ?_
  rintro e w1 ⟨rfl, ⟨v, L, hx⟩, _, hb⟩
  obtain ⟨pv, cv, rfl, _⟩ := hx.slice
  have hc := hx.blk.cell
  have HL : Hid (L.length = (viewT t l).n) := Lib.hid hx.rd.len
  have Hb := Lib.hid hb
  clear hx hb
  go_wp2_with fail
  go_ret
  exact ⟨ret_int (by rw [HL.out]), Hb.out⟩
end Go.Proofs.Ytacnmdlefonjmaa

