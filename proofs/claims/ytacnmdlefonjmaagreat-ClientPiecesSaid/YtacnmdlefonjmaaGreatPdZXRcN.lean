/-
  The walk of ClientPieces (layer 39; printed by gen_rcn.py).
-/
import Derived.Test.YtacnmdlefonjmaaGreatPdZP19
namespace Go.Proofs.YtacnmdlefonjmaaGreat
open Go.RowKit
set_option linter.unusedVariables false
set_option linter.unusedSimpArgs false

theorem ClO.base {B B' : Nat} {w : World} {cb sb : Nat} {t : Bool} {L : List UInt8} {most room : Nat} {e : Int} {v : Value} (h : ClO B w cb sb t L most room e v) (hb : B' ≤ B) : ClO B' w cb sb t L most room e v :=
  ⟨h.blk, ⟨h.fr.blk, OwnR.base h.fr.own hb, Nat.le_trans hb h.fr.sB, h.fr.no⟩, Nat.le_trans hb h.cB, h.ne, h.no⟩
theorem ownBR_shape {B : Nat} {w : World} {v : Value} {l : List UInt8} (h : OwnBR B w v l) : ∃ p c, v = .slice p l.length c ∧ l.length ≤ c ∧ c ≤ maxLen ∧ (c ≠ 0 → ∃ g, p = some ⟨g, 0, none⟩) ∧ BytesIn w p l := by
  rcases h.2 with ⟨p, rfl, h0⟩ | ⟨g, cap, cur, rfl, h0, h1, h2, h3, h4, h5, h6⟩
  · have hl : l = [] := List.eq_nil_of_length_eq_zero h0
    subst hl
    exact ⟨p, 0, rfl, Nat.le_refl _, by simp [maxLen], fun h => absurd rfl h, BytesIn.nil _ _⟩
  · obtain ⟨p', c', e, _, _, hin, _⟩ := OwnBR.slice h
    simp only [Value.slice.injEq, true_and] at e
    obtain ⟨rfl, rfl⟩ := e
    exact ⟨_, _, rfl, h3, h4, fun _ => ⟨g, rfl⟩, hin⟩
theorem mapTake {l : List UInt8} {a k : Nat} (h : a + k ≤ l.length) : ((l.drop a).take k).length = k := by simp; omega

set_option maxRecDepth 100000 in
set_option maxHeartbeats 16000000 in
theorem clientPieces_walk (p0 : Option Addr) (n c : Nat) (L : List FoV) (p1 : Option Addr) (m : List UInt8) (c1 : Nat) (w : World) (h0 : SliceS 10 FoS (fun k => k < w.heap.size) w [.slice p0 n c] L) (h1 : BytesIn w p1 m) :
    Calls Tryz.prog 4 #[.slice p0 n c, .slice p1 m.length c1] w fun e w' => e = .returned (.bool true) ∧ Below w.heap.size w w' := by
  have hF : Calls Tryz.prog 18 #[.slice p0 n c, .int .i64 20] w _ := fronts_any _ p0 n c L 20 w h0
  have HF := Lib.hid hF
  have H0 := Lib.hid h0
  have H1 := Lib.hid h1
  have Haw := Lib.hid clAwake
  have HN : Hid (∀ w, Calls Tryz.prog 5 #[.int .i64 60000, .int .i64 70000] w fun e w' => ∃ cb sb, e = .returned (.tuple #[.pointer (some ⟨cb, 0, none⟩), .int .i64 0]) ∧ ClO w.heap.size w' cb sb false [] 60000 70000 0 (.slice none 0 0) ∧ Below w.heap.size w w') := Lib.hid (fun w => clNew_ok 60000 70000 w (by omega) (by omega) (by omega) (by omega))
  have HVb : ∀ k (hk : k < L.length), FoB L[k] := fun k hk => by
    obtain ⟨_, _, _, _, _, _, h, _⟩ := fo_at h0 hk
    exact h
  have HV : Hid (L.length ≤ 20 → (∀ x ∈ L, FewF x) → (framesB L).length ≤ 30000 → ∃ V : List FoV, framesB V = framesB L ∧ (∀ f ∈ V, VaF f) ∧ V.length ≤ 20) := Lib.hid (fun h1 h2 h3 => ⟨L.filter (fun f => checkF f == 0), framesB_filter L, vaF_of (fun f hf => by
    obtain ⟨k, hk, rfl⟩ := List.getElem_of_mem hf
    exact HVb k hk) h2 h3, Nat.le_trans (List.length_filter_le _ _) h1⟩)
  clear h0 h1 hF HVb
  go_enter Tryz.func4, Tryz.ntmps4
  go_wp2_with fail
  refine HF.out.mono ?_
  rintro e w1 ⟨bb, rfl, hfw, hb1⟩
  have Hb1 := Lib.hid hb1
  cases bb with
  | false =>
    clear hfw hb1
    go_wp2_with (go_at_call 8; refine (Haw.out _).mono ?_; rintro e w4 ⟨rfl, hb⟩)
    go_ret
    exact ⟨rfl, Hb1.out.trans (hb.mono Hb1.out.size)⟩
  | true =>
    obtain ⟨hmany, hfew⟩ := hfw rfl
    by_cases hs : (60 : Int) < (m.length : Int)
    · clear hfw hb1 hmany hfew
      go_wp2_with (go_at_call 8; refine (Haw.out _).mono ?_; rintro e w4 ⟨rfl, hb⟩)
      go_ret
      exact ⟨rfl, Hb1.out.trans (hb.mono Hb1.out.size)⟩
    have HBy := Lib.hid (bytesFo_any _ _ _ _ _ _ (H0.out.below FoS.still hb1) hfew (by omega))
    have HV2 := Lib.hid (HV.out hmany hfew)
    clear hfw hb1 hmany hfew HV HF H0
    generalize framesB L = b at *
    go_wp2_with fail
    refine HBy.out.mono ?_
    rintro e w2 ⟨vb, rfl, hob, hbl, hb2⟩
    obtain ⟨pb, cp, hvb, hlc, hcm, hpb, _⟩ := ownBR_shape hob
    have Hob : Hid (OwnBR w.heap.size w2 vb b) := Lib.hid (OwnR.base hob Hb1.out.size)
    have Hb2 := Lib.hid (Hb1.out.trans (hb2.mono Hb1.out.size))
    have Hrb : Hid (∀ k, rowOf vb = some k → k < w2.heap.size) := Lib.hid (fun k hk => (hob.row k hk).2)
    have Hpb := Lib.hid hpb
    have Hvb := Lib.hid hvb
    clear hob hb2 hbl HBy Hb1 hpb
    unfold maxLen at hcm
    subst hvb
    go_wp2_with fail
    refine (HN.out w2).mono ?_
    rintro e w3 ⟨cb, sb, rfl, hc3, hb3⟩
    have Hc3 := Lib.hid hc3
    have Hb3 := Lib.hid (Hb2.out.trans (hb3.mono Hb2.out.size))
    have Hb23 := Lib.hid hb3
    clear hc3 hb3
    by_cases hbig : (30000 : Int) < (b.length : Int)
    · go_wp2_with (go_at_call 8; refine (Haw.out _).mono ?_; rintro e w4 ⟨rfl, hb⟩)
      go_ret
      exact ⟨rfl, Hb3.out.trans (hb.mono Hb3.out.size)⟩
    go_wp2_with fail
    refine (clBegin_any _ _ _ _ _ _ _ _ _ _ Hc3.out (by omega)).mono ?_
    rintro e w4 ⟨rfl, hc4, hT4⟩
    have HL : Hid (∃ V, PcL w w4 cb sb b (.slice pb b.length cp) 0 (.slice none 0 0) [] [] [] V (.slice none 0 0)) := Lib.hid (by
      obtain ⟨V, hv1, hv2, hv3⟩ := HV2.out (by omega)
      have l0 := Hb2.out.size
      have l1 := Hc3.out.cB
      have l2 := Hc3.out.fr.sB
      have hsep : ∀ k, rowOf (.slice pb b.length cp) = some k → k ≠ cb ∧ k ≠ sb := fun k hk => by have := Hrb.out k hk; omega
      have ob3 : OwnBR w.heap.size w3 (.slice pb b.length cp) b := Hob.out.below Hb23.out
      refine ⟨V, OwnBR.empty _ _ _, ob3.touch hT4 (fun k hk e => ?_), hc4.base l0, rfl, by rw [hv1]; rfl, hv2, Nat.zero_le _, fun k hk => by simp [rowOf] at hk, fun k hk => ⟨(hsep k hk).1, (hsep k hk).2, by simp [rowOf]⟩, Hb3.out.trans (hT4.below Hb3.out.size (fun k e => by omega)), hv3⟩
      have := hsep k hk
      rcases e with e | e
      · exact this.1 e
      · exact this.2 e)
    clear hc4 hT4 Hc3 Hb3 Hb23 HV2 Hob Hrb HN Hb2
    go_wp2_with fail
    go_loopw [8, 9, 52] (fun vg va vi wx => ∃ j a : Nat, j ≤ m.length ∧ vi = .int .i64 j ∧ va = .int .i64 a ∧ ∃ got X V v', PcL w wx cb sb b (.slice pb b.length cp) a vg got [] X V v') (fun _ _ vi _ => m.length - (intOf vi).toNat)
    case atStart =>
      obtain ⟨V, hV⟩ := HL.out
      exact ⟨0, 0, by omega, rfl, rfl, _, _, V, _, hV⟩
    case round =>
      clear HL
      obtain ⟨j, a, hj, rfl, rfl, got, X, V, v', hL⟩ := hrel
      have HL := Lib.hid hL
      have hal := hL.al
      have hlx := hL.lenX
      have hvl := hL.vl
      clear hL
      have hnb : b.length ≤ 30000 := by omega
      by_cases hlt : j < m.length
      · obtain ⟨b1, o1, rfl⟩ := H1.out.addr (by omega)
        have hx := (H1.out.below HL.out.bel).cellAt j hlt
        have hxb := u8_bd (m.getD j 0)
        generalize m.getD j 0 = x at *
        obtain ⟨xn, hX⟩ : ∃ xn : Nat, x.toNat = xn := ⟨_, rfl⟩
        rw [hX] at hxb hx
        have Hsub : IntKind.i64.wrap ((b.length : Int) - (a : Int)) = (b.length : Int) - (a : Int) := by rw [IntKind.wrap_i64]; omega
        have Hlt : (j : Int) < (m.length : Int) := by omega
        go_upto_region 14 with (fail)
        obtain ⟨k, hk, hak⟩ : ∃ k : Nat, (if (b.length : Int) - (a : Int) < (xn : Int) then (b.length : Int) - (a : Int) else (xn : Int)) = (k : Int) ∧ a + k ≤ b.length := by
          by_cases q : (b.length : Int) - (a : Int) < (xn : Int)
          · exact ⟨b.length - a, by rw [if_pos q]; omega, by omega⟩
          · exact ⟨xn, by rw [if_neg q], by omega⟩
        simp only [hk]
        clear hk hx hX hxb Hsub
        have hpl : ((b.drop a).take k).length = k := mapTake hak
        have Hfeed : Hid (∀ q d, BytesIn wr q ((b.drop a).take k) → Calls Tryz.prog 9 #[.pointer (some ⟨cb, 0, none⟩), .slice q k d] wr fun e w' => ∃ v2, e = .returned (.int .i64 0) ∧ PcL w w' cb sb b (.slice pb b.length cp) (a + k) u8 got [] (X ++ (b.drop a).take k) V v2) := Lib.hid (by
          intro q d hq
          have hf := clFeed_ok w.heap.size cb sb true X 60000 70000 0 v' q ((b.drop a).take k) d wr HL.out.cl (by omega) (by omega) (by omega) HL.out.bel.size hq
          rw [hpl] at hf
          refine hf.mono ?_
          rintro e w' ⟨v2, rfl, hf', hr', hT'⟩
          exact ⟨v2, rfl, HL.out.fed hak hf' hr' hT'⟩)
        have Hin : Hid (BytesIn wr pb b) := Lib.hid (by
          obtain ⟨p', c', e', _, _, hin, _⟩ := HL.out.ob.slice
          simp only [Value.slice.injEq, true_and] at e'
          obtain ⟨rfl, -⟩ := e'
          exact hin)
        have hws : IntKind.i64.wrap ((a : Int) + (k : Int)) = (a : Int) + (k : Int) := by rw [IntKind.wrap_i64]; omega
        have hk0 : (0 : Int) ≤ (a : Int) := by omega
        have hk1 : (a : Int) ≤ (a : Int) + (k : Int) := by omega
        have hk2 : (a : Int) + (k : Int) ≤ (cp : Int) := by omega
        have hk3 : ((a : Int) + (k : Int)).toNat = a + k := by omega
        have hk4 : a + k - a = k := by omega
        have hk5 : (0 : Int) ≤ (a : Int) + (k : Int) := by omega
        have hwj : IntKind.i64.wrap ((j : Int) + 1) = (j : Int) + 1 := by rw [IntKind.wrap_i64]; omega
        have Hlen : Hid ((X ++ (b.drop a).take k).length ≤ 70000) := Lib.hid (by rw [List.length_append, hpl]; omega)
        clear hpl
        by_cases hcc : a = cp
        · obtain rfl : k = 0 := by omega
          subst hcc
          go_wp2_with fail
          refine (Hfeed.out _ _ (BytesIn.nil _ _)).mono ?_
          rintro e w5 ⟨v3, rfl, hm⟩
          have HM := Lib.hid hm
          clear hm Hfeed
          go_wp2_with fail
          refine (ctake_any w.heap.size cb sb _ _ V v3 w5 HM.out.cl HM.out.va HM.out.rest (by omega) Hlen.out).mono ?_
          rintro e w6 ⟨vo, out, X6, V6, v6, rfl, ht, hvl6, _⟩
          have HG := Lib.hid (HM.out.took ht hvl6)
          obtain ⟨p6, c6, rfl, _, _, hin6, _⟩ := ht.own.slice
          have Hin6 := Lib.hid hin6
          have hl6 := HG.out.lenX
          have hz6 := HG.out.bel.size
          clear ht hin6 HM
          go_wp2_with (at_builtin; refine step_appendBR _ rfl _ _ rfl w.heap.size _ got rfl HG.out.own _ out _ _ rfl rfl Hin6.out (by omega) hz6 ?_; intro v7 w7 ho7 hg7 hr7; have HL7 := Lib.hid (HG.out.put ho7 hg7 hr7); clear ho7 hg7 hr7)
          go_roundw
          case rel => exact ⟨j + 1, a + 0, by omega, by go_num, by go_num, _, _, _, _, HL7.out⟩
          case measure => simp [intOf]; omega
        · have hcc2 : ¬ cp = a := fun e => hcc e.symm
          obtain ⟨gb, rfl⟩ := Hpb.out (by omega)
          have Hpc : Hid (BytesIn wr (some ⟨gb, a, none⟩) ((b.drop a).take k)) := Lib.hid (by
            have := (Hin.out.drop a).take k
            rw [Nat.zero_add] at this
            exact this)
          go_wp2_with fail
          refine (Hfeed.out _ _ Hpc.out).mono ?_
          rintro e w5 ⟨v3, rfl, hm⟩
          have HM := Lib.hid hm
          clear hm Hfeed
          go_wp2_with fail
          refine (ctake_any w.heap.size cb sb _ _ V v3 w5 HM.out.cl HM.out.va HM.out.rest (by omega) Hlen.out).mono ?_
          rintro e w6 ⟨vo, out, X6, V6, v6, rfl, ht, hvl6, _⟩
          have HG := Lib.hid (HM.out.took ht hvl6)
          obtain ⟨p6, c6, rfl, _, _, hin6, _⟩ := ht.own.slice
          have Hin6 := Lib.hid hin6
          have hl6 := HG.out.lenX
          have hz6 := HG.out.bel.size
          clear ht hin6 HM
          go_wp2_with (at_builtin; refine step_appendBR _ rfl _ _ rfl w.heap.size _ got rfl HG.out.own _ out _ _ rfl rfl Hin6.out (by omega) hz6 ?_; intro v7 w7 ho7 hg7 hr7; have HL7 := Lib.hid (HG.out.put ho7 hg7 hr7); clear ho7 hg7 hr7)
          go_roundw
          case rel => exact ⟨j + 1, a + k, by omega, by go_num, by go_num, _, _, _, _, HL7.out⟩
          case measure => simp [intOf]; omega
      · obtain rfl : j = m.length := by omega
        have hpl : ((b.drop a).take (b.length - a)).length = b.length - a := mapTake (by omega)
        have Hfeed : Hid (∀ q d, BytesIn wr q ((b.drop a).take (b.length - a)) → Calls Tryz.prog 9 #[.pointer (some ⟨cb, 0, none⟩), .slice q (b.length - a) d] wr fun e w' => ∃ v2, e = .returned (.int .i64 0) ∧ PcL w w' cb sb b (.slice pb b.length cp) (a + (b.length - a)) u8 got [] (X ++ (b.drop a).take (b.length - a)) V v2) := Lib.hid (by
          intro q d hq
          have hf := clFeed_ok w.heap.size cb sb true X 60000 70000 0 v' q ((b.drop a).take (b.length - a)) d wr HL.out.cl (by omega) (by omega) (by omega) HL.out.bel.size hq
          rw [hpl] at hf
          refine hf.mono ?_
          rintro e w' ⟨v2, rfl, hf', hr', hT'⟩
          exact ⟨v2, rfl, HL.out.fed (by omega) hf' hr' hT'⟩)
        have Hin : Hid (BytesIn wr pb b) := Lib.hid (by
          obtain ⟨p', c', e', _, _, hin, _⟩ := HL.out.ob.slice
          simp only [Value.slice.injEq, true_and] at e'
          obtain ⟨rfl, -⟩ := e'
          exact hin)
        have hk0 : (0 : Int) ≤ (a : Int) := by omega
        have hk1 : (a : Int) ≤ (b.length : Int) := by omega
        have hk2 : (b.length : Int) ≤ (cp : Int) := by omega
        have Hlen : Hid ((X ++ (b.drop a).take (b.length - a)).length ≤ 70000) := Lib.hid (by rw [List.length_append, hpl]; omega)
        clear hpl
        by_cases hcc : a = cp
        · obtain rfl : a = b.length := by omega
          subst hcc
          simp only [Nat.sub_self] at Hfeed Hlen
          go_wp2_with fail
          refine (Hfeed.out _ _ (BytesIn.nil _ _)).mono ?_
          rintro e w5 ⟨v3, rfl, hm⟩
          have HM := Lib.hid hm
          clear hm Hfeed
          go_wp2_with fail
          refine (ctake_any w.heap.size cb sb _ _ V v3 w5 HM.out.cl HM.out.va HM.out.rest (by omega) Hlen.out).mono ?_
          rintro e w6 ⟨vo, out, X6, V6, v6, rfl, ht, hvl6, hX6⟩
          have hG := HM.out.took ht hvl6
          obtain rfl : X6 = [] := hX6 (List.drop_eq_nil_of_le (by omega))
          have hgb : got ++ out = b := by
            have := hG.all
            rw [List.append_nil, List.take_of_length_le (by omega)] at this
            exact this
          have Hgb := Lib.hid hgb
          have HG := Lib.hid hG
          obtain ⟨p6, c6, rfl, _, _, hin6, _⟩ := ht.own.slice
          have Hin6 := Lib.hid hin6
          have hl6 := hG.lenX
          have hz6 := hG.bel.size
          clear ht hin6 HM hG hgb hX6 hlx
          go_wp2_with (at_builtin; go_loud (refine step_appendBR _ rfl _ _ rfl w.heap.size _ got rfl HG.out.own _ out _ _ rfl rfl Hin6.out (by omega) hz6 ?_; intro v7 w7 ho7 hg7 hr7; have hL7 := HG.out.put ho7 hg7 hr7; rw [Hgb.out] at hL7 ho7; obtain ⟨p7, c7, hv7, _, _, hin7, _⟩ := ho7.slice; subst hv7; have HL7 := Lib.hid hL7; have k1 := hin7.convert c7 32 5 9 Tryz.underlying32 Tryz.underlying5 Tryz.underlying9 (P := Tryz.prog); have k2 : (convert 32 9 (.slice pb b.length b.length)).run Tryz.prog w7 = .ok (.string (strOf b)) w7 := (by obtain ⟨p', c', e', _, _, hin, _⟩ := hL7.ob.slice; simp only [Value.slice.injEq, true_and] at e'; obtain ⟨rfl, rfl⟩ := e'; exact hin.convert _ _ _ _ Tryz.underlying32 Tryz.underlying5 Tryz.underlying9); have hse : ((strOf b).toList == (strOf b).toList) = true := (by simp); clear ho7 hg7 hr7 hL7 hin7))
          refine (clSize_any _ _ _ _ _ _ _ _ _ _ HL7.out.cl (by omega)).mono ?_
          rintro e w8 ⟨rfl, rfl⟩
          go_wp2_with fail
          refine (Haw.out _).mono ?_
          rintro e w9 ⟨rfl, hB9⟩
          have HB9 := Lib.hid (HL7.out.bel.trans (hB9.mono HL7.out.bel.size))
          clear hB9
          go_wp2_with fail
          go_ret
          exact ⟨rfl, HB9.out⟩
        · have hcc2 : ¬ cp = a := fun e => hcc e.symm
          obtain ⟨gb, rfl⟩ := Hpb.out (by omega)
          clear hcm
          have Hpc : Hid (BytesIn wr (some ⟨gb, a, none⟩) ((b.drop a).take (b.length - a))) := Lib.hid (by
            have := (Hin.out.drop a).take (b.length - a)
            rw [Nat.zero_add] at this
            exact this)
          go_wp2_with fail
          refine (Hfeed.out _ _ Hpc.out).mono ?_
          rintro e w5 ⟨v3, rfl, hm⟩
          have HM := Lib.hid hm
          clear hm Hfeed
          go_wp2_with fail
          refine (ctake_any w.heap.size cb sb _ _ V v3 w5 HM.out.cl HM.out.va HM.out.rest (by omega) Hlen.out).mono ?_
          rintro e w6 ⟨vo, out, X6, V6, v6, rfl, ht, hvl6, hX6⟩
          have hG := HM.out.took ht hvl6
          obtain rfl : X6 = [] := hX6 (List.drop_eq_nil_of_le (by omega))
          have hgb : got ++ out = b := by
            have := hG.all
            rw [List.append_nil, List.take_of_length_le (by omega)] at this
            exact this
          have Hgb := Lib.hid hgb
          have HG := Lib.hid hG
          obtain ⟨p6, c6, rfl, _, _, hin6, _⟩ := ht.own.slice
          have Hin6 := Lib.hid hin6
          have hl6 := hG.lenX
          have hz6 := hG.bel.size
          clear ht hin6 HM hG hgb hX6 hlx
          go_wp2_with (at_builtin; go_loud (refine step_appendBR _ rfl _ _ rfl w.heap.size _ got rfl HG.out.own _ out _ _ rfl rfl Hin6.out (by omega) hz6 ?_; intro v7 w7 ho7 hg7 hr7; have hL7 := HG.out.put ho7 hg7 hr7; rw [Hgb.out] at hL7 ho7; obtain ⟨p7, c7, hv7, _, _, hin7, _⟩ := ho7.slice; subst hv7; have HL7 := Lib.hid hL7; have k1 := hin7.convert c7 32 5 9 Tryz.underlying32 Tryz.underlying5 Tryz.underlying9 (P := Tryz.prog); have k2 : (convert 32 9 (.slice (some ⟨gb, 0, none⟩) b.length cp)).run Tryz.prog w7 = .ok (.string (strOf b)) w7 := (by obtain ⟨p', c', e', _, _, hin, _⟩ := hL7.ob.slice; simp only [Value.slice.injEq, true_and] at e'; obtain ⟨rfl, rfl⟩ := e'; exact hin.convert _ _ _ _ Tryz.underlying32 Tryz.underlying5 Tryz.underlying9); have hse : ((strOf b).toList == (strOf b).toList) = true := (by simp); clear ho7 hg7 hr7 hL7 hin7))
          refine (clSize_any _ _ _ _ _ _ _ _ _ _ HL7.out.cl (by omega)).mono ?_
          rintro e w8 ⟨rfl, rfl⟩
          go_wp2_with fail
          refine (Haw.out _).mono ?_
          rintro e w9 ⟨rfl, hB9⟩
          have HB9 := Lib.hid (HL7.out.bel.trans (hB9.mono HL7.out.bel.size))
          clear hB9
          go_wp2_with fail
          go_ret
          exact ⟨rfl, HB9.out⟩

theorem clientPieces_read (p0 : Option Addr) (n c : Nat) (L : List FoV) (p1 : Option Addr) (m : List UInt8) (c1 : Nat) (w : World) (r0 : SliceS 10 FoS (fun k => k < w.heap.size) w [.slice p0 n c] L) (r1 : BytesR w.heap.size w [.slice p1 m.length c1] m) :
    Calls Tryz.prog 4 #[.slice p0 n c, .slice p1 m.length c1] w fun e w' => e = .returned (.bool true) ∧ Below w.heap.size w w' := by
  obtain ⟨q, d, e', _, _, h5, _⟩ := r1
  simp only [List.cons.injEq, Value.slice.injEq, and_true] at e'
  obtain ⟨rfl, _, rfl⟩ := e'
  exact clientPieces_walk p0 n c L p1 m c1 w r0 h5

end Go.Proofs.YtacnmdlefonjmaaGreat
