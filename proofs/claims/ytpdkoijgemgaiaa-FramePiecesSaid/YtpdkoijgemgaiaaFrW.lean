/-
  The walk of FramePieces: its start (layer 4).
-/
import Derived.Test.YtpdkoijgemgaiaaFrV
namespace Go.Proofs.Ytpdkoijgemgaiaa
open Go.RowKit

theorem old_in {w w4 wx : World} {g2 : Nat} {q : Option Addr} {x : List UInt8} (hI : BytesIn w q x) (hB : Below w.heap.size w w4) (ht : Touch (fun i => i = g2) w4 wx) (hg : w.heap.size ≤ g2) : BytesIn wx q x :=
  ht.bytesIn (hI.below hB) (fun h0 a e => by have := hI.lt h0 e; omega)

theorem FpL.start {w4 : World} {l : List UInt8} {g2 : Nat} (hf : FrO g2 w4 g2 true [] 2000 4000 0 (.slice none 0 0)) (hg : g2 < w4.heap.size) : FpL w4 w4 l g2 (.slice none 0 0) (.slice none 0 0) 0 [] := by
  have e : takeF 600 (l.take 0) 0 = ([], 0) := rfl
  refine ⟨by rw [e]; exact hf, OwnBR.empty _ _ _, by rw [e]; rfl, Touch.refl _ _, fun k hk => by simp [rowOf] at hk, fun k hk => by simp [rowOf] at hk, hg, by omega⟩


theorem BytesIn.dropA {w : World} {b o : Nat} {s : Option Nat} {l : List UInt8} (h : BytesIn w (some ⟨b, o, s⟩) l) (k : Nat) : BytesIn w (some ⟨b, o + k, s⟩) (l.drop k) := by
  by_cases h0 : l = []
  · subst h0; rw [List.drop_nil]; exact BytesIn.nil _ _
  · obtain ⟨b', o', e⟩ := h.addr (List.length_pos_iff.2 h0)
    cases e
    exact h.drop k
theorem BytesIn.none {w : World} {l : List UInt8} (h : BytesIn w none l) : l = [] := by
  by_cases h0 : l = []
  · exact h0
  · obtain ⟨b', o', e⟩ := h.addr (List.length_pos_iff.2 h0)
    cases e
theorem BytesIn.dropN {w : World} {l : List UInt8} (h : BytesIn w .none l) (k : Nat) : BytesIn w .none (l.drop k) := by
  rw [h.none, List.drop_nil]; exact BytesIn.nil _ _

set_option maxRecDepth 100000 in
set_option maxHeartbeats 10000000 in
theorem framePieces_at (bb bo : Nat) (p1 : Option Addr) (l m : List UInt8) (c0 c1 : Nat) (w : World) (hc : l.length ≤ c0) (hcm : c0 ≤ maxLen) (h0 : BytesIn w (some ⟨bb, bo, none⟩) l) (h1 : BytesIn w p1 m) :
    Calls Try.prog 14 #[.slice (some ⟨bb, bo, none⟩) l.length c0, .slice p1 m.length c1] w fun e w' => e = .returned (.bool true) ∧ Below w.heap.size w w' := by
  have Haw : Hid (∀ w3, Calls Try.prog 46 #[] w3 fun e w' => e = .returned (.bool true) ∧ Below w3.heap.size w3 w') := Lib.hid frAwake
  by_cases hb1 : (3000 : Int) < (l.length : Int)
  · clear h0 h1 hc
    go_enter Try.func14, Try.ntmps14
    go_wp2_with (go_at_call 46; refine (Haw.out _).mono ?_; rintro e w2 ⟨rfl, hb⟩)
    go_ret
    exact ⟨rfl, hb⟩
  by_cases hb2 : (300 : Int) < (m.length : Int)
  · clear h0 h1 hc
    go_enter Try.func14, Try.ntmps14
    go_wp2_with (go_at_call 46; refine (Haw.out _).mono ?_; rintro e w2 ⟨rfl, hb⟩)
    go_ret
    exact ⟨rfl, hb⟩
  have H0 := Lib.hid h0
  have H1 := Lib.hid h1
  have Hc := Lib.hid hc
  have Hnew : Hid (∀ w1, Calls Try.prog 64 #[.int .i64 2000, .int .i64 4000, .bool false] w1 fun e w' =>
      e = .returned (.tuple #[.pointer (some ⟨w1.heap.size, 0, none⟩), .int .i64 0]) ∧ FrO w1.heap.size w' w1.heap.size true [] 2000 4000 0 (.slice none 0 0) ∧ Below w1.heap.size w1 w') := Lib.hid (fun w1 => frNew_ok 2000 4000 false w1 (by omega) (by omega) (by omega) (by omega))
  clear h0 h1 hc
  go_enter Try.func14, Try.ntmps14
  go_wp2_with fail
  refine (Hnew.out _).mono ?_
  rintro e w1 ⟨rfl, hf1, hB1⟩
  have HF1 := Lib.hid hf1
  have HB1 := Lib.hid hB1
  have hz1 : w.heap.size < w1.heap.size := hf1.blk.lt
  clear hf1 hB1
  go_wp2_with fail
  refine (Hnew.out _).mono ?_
  rintro e w2 ⟨rfl, hf2, hB2⟩
  have HF2 := Lib.hid hf2
  have hz2 : w1.heap.size < w2.heap.size := hf2.blk.lt
  have HF1b := Lib.hid (HF1.out.still hB2)
  have HB2 := Lib.hid (HB1.out.trans (hB2.mono HB1.out.size))
  have H0b := Lib.hid (H0.out.below HB2.out)
  clear hf2 hB2 HF1 HB1
  go_wp2_with fail
  refine (frFeed_ok w.heap.size w.heap.size true [] 2000 4000 0 _ (some ⟨bb, bo, none⟩) l c0 w2 HF1b.out (by omega) (by omega) (by simp; omega) (by omega) H0b.out).mono ?_
  rintro e w3 ⟨v1, rfl, hf3, hr3, hT3⟩
  rw [List.nil_append] at hf3
  have hz3 : w2.heap.size ≤ w3.heap.size := hT3.size
  have HF3 := Lib.hid hf3
  have HG3 := Lib.hid (HF2.out.touch hT3 (fun e => by rcases e with e | e; (· omega); (· simp [rowOf] at e)) (fun k hk => by simp [rowOf] at hk))
  have HB3 := Lib.hid (HB2.out.trans (frT_below HF1b.out hT3 (by omega)))
  have Hr3 : Hid (∀ k, rowOf v1 = some k → w2.heap.size ≤ k) := Lib.hid (fun k hk => by rcases hr3 k hk with e | e; (· simp [rowOf] at e); (· exact e))
  clear hf3 hr3 hT3 HF2 HF1b HB2 H0b
  go_wp2_with fail
  refine (take_any w.heap.size w.heap.size l 0 v1 w3 HF3.out (by omega)).mono ?_
  rintro e w4 hR
  obtain ⟨vo, out1, v1b, rfl, ho, hall, hf4, hr4, hT4⟩ := hR
  obtain ⟨po, co, rfl, _⟩ := ho.slice
  have hz4 : w3.heap.size ≤ w4.heap.size := hT4.size
  have HF4 := Lib.hid hf4
  have Ho4 := Lib.hid ho
  have Hall := Lib.hid hall
  have HG4 := Lib.hid (HG3.out.touch hT4 (fun e => by rcases e with e | e; (· omega); (· have := Hr3.out _ e; omega)) (fun k hk => by simp [rowOf] at hk))
  have HB4 := Lib.hid (HB3.out.trans (frT_below HF3.out hT4 (by omega)))
  have Hr4 : Hid (∀ k, rowOf v1b = some k → w2.heap.size ≤ k) := Lib.hid (fun k hk => Hr3.out k (hr4 k hk))
  have HL := Lib.hid (FpL.start (l := l) HG4.out (by omega))
  clear ho hall hf4 hr4 hT4 HF3 HG3 HB3 Hr3 HG4 Hnew
  go_wp2_with fail
  go_loopw [10, 11, 56] (fun vg va vi wx => ∃ j a : Nat, j ≤ m.length ∧ vi = .int .i64 j ∧ va = .int .i64 a ∧ ∃ got v2, FpL w4 wx l w1.heap.size v2 vg a got) (fun _ _ vi _ => m.length - (intOf vi).toNat)
  case atStart => exact ⟨0, 0, by omega, rfl, rfl, _, _, HL.out⟩
  case round =>
    clear HL
    obtain ⟨j, a, hj, rfl, rfl, got, v2, hL⟩ := hrel
    have HL := Lib.hid hL
    have hal := hL.al
    clear hL
    by_cases hlt : j < m.length
    · obtain ⟨b1, o1, rfl⟩ := H1.out.addr (by omega)
      have hx := (old_in H1.out HB4.out HL.out.old (by omega)).cellAt j hlt
      have hxb := u8_bd (m.getD j 0)
      generalize m.getD j 0 = x at *
      obtain ⟨xn, hX⟩ : ∃ xn : Nat, x.toNat = xn := ⟨_, rfl⟩
      rw [hX] at hxb hx
      have Hsub : IntKind.i64.wrap ((l.length : Int) - (a : Int)) = (l.length : Int) - (a : Int) := by rw [IntKind.wrap_i64]; omega
      have Hlt : (j : Int) < (m.length : Int) := by omega
      go_upto_region 14 with (fail)
      obtain ⟨k, hk, hak⟩ : ∃ k : Nat, (if (l.length : Int) - (a : Int) < (xn : Int) then (l.length : Int) - (a : Int) else (xn : Int)) = (k : Int) ∧ a + k ≤ l.length := by
        by_cases q : (l.length : Int) - (a : Int) < (xn : Int)
        · exact ⟨l.length - a, by rw [if_pos q]; omega, by omega⟩
        · exact ⟨xn, by rw [if_neg q], by omega⟩
      simp only [hk]
      clear hk hx hX hxb Hsub
      have hcl := Hc.out
      unfold maxLen at hcm
      have hleft : (takeF 600 (l.take a) 0).1.length ≤ a := by
        have := congrArg List.length HL.out.gl
        simp at this
        omega
      have hpl : ((l.drop a).take k).length = k := by simp; omega
      have Hfeed : Hid (∀ q d, BytesIn wr q ((l.drop a).take k) → Calls Try.prog 44 #[.pointer (some ⟨w1.heap.size, 0, none⟩), .slice q k d] wr fun e w' => ∃ v2', e = .returned (.int .i64 0) ∧ FpM w4 w' l w1.heap.size v2' u10 a k got) := Lib.hid (by
        intro q d hq
        have hf := frFeed_ok w1.heap.size w1.heap.size true (takeF 600 (l.take a) 0).1 2000 4000 (takeF 600 (l.take a) 0).2 v2 q ((l.drop a).take k) d wr HL.out.fr2 (by omega) (by omega) (by omega) (by have := HL.out.old.size; omega) hq
        rw [hpl] at hf
        refine hf.mono ?_
        rintro e w' ⟨v2', rfl, hf', hr', hT'⟩
        exact ⟨v2', rfl, HL.out.fed hak hf' hr' hT'⟩)
      have Hin : Hid (BytesIn wr (some ⟨bb, bo, none⟩) l) := Lib.hid (old_in H0.out HB4.out HL.out.old (by omega))
      have Hpl := Lib.hid hpl
      have hws : IntKind.i64.wrap ((a : Int) + (k : Int)) = (a : Int) + (k : Int) := by rw [IntKind.wrap_i64]; omega
      have hk0 : (0 : Int) ≤ (a : Int) := by omega
      have hk1 : (a : Int) ≤ (a : Int) + (k : Int) := by omega
      have hk2 : (a : Int) + (k : Int) ≤ (c0 : Int) := by omega
      have hk3 : ((a : Int) + (k : Int)).toNat = a + k := by omega
      have hk4 : a + k - a = k := by omega
      have hk5 : (0 : Int) ≤ (a : Int) + (k : Int) := by omega
      have Hlen : Hid (((takeF 600 (l.take a) 0).1 ++ (l.drop a).take k).length ≤ 4000) := Lib.hid (by rw [List.length_append, hpl]; omega)
      have hgot : got.length ≤ 3000 := by
        have := congrArg List.length HL.out.gl
        simp at this
        omega
      have hwj : IntKind.i64.wrap ((j : Int) + 1) = (j : Int) + 1 := by rw [IntKind.wrap_i64]; omega
      clear hpl hleft
      by_cases hcc : a = c0
      · subst hcc
        obtain rfl : k = 0 := by omega
        go_wp2_with fail
        refine (Hfeed.out _ _ (BytesIn.nil _ _)).mono ?_
        rintro e w5 ⟨v3, rfl, hm⟩
        have HM := Lib.hid hm
        clear hm Hfeed
        go_wp2_with fail
        refine (take_any w1.heap.size w1.heap.size ((takeF 600 (l.take a) 0).1 ++ (l.drop a).take 0) (takeF 600 (l.take a) 0).2 v3 w5 HM.out.fr2 Hlen.out).mono ?_
        rintro e w6 hR
        obtain ⟨pg, cg, out, v5, rfl, hol, hG⟩ := HM.out.took (by omega) hR
        have HG := Lib.hid hG
        clear hG hR HM
        go_wp2_with (at_builtin; refine step_appendBR _ rfl _ _ rfl w4.heap.size _ got rfl HG.out.own _ out _ _ rfl rfl HG.out.inn (by omega) HG.out.old.size ?_; intro v7 w7 ho7 hg7 hr7; have HL7 := Lib.hid (HG.out.put ho7 hg7 hr7); clear ho7 hg7 hr7)
        refine ⟨⟨j + 1, a + 0, by omega, by simp, by simp, _, _, HL7.out⟩, ?_⟩
        have e1 : (intOf (Value.int IntKind.i64 (↑j + 1))).toNat = j + 1 := by show ((j : Int) + 1).toNat = j + 1; omega
        have e2 : (intOf (Value.int IntKind.i64 (↑j))).toNat = j := by show ((j : Int)).toNat = j; omega
        omega
      · go_wp2_with fail
        refine (Hfeed.out _ _ ((Hin.out.drop a).take k)).mono ?_
        rintro e w5 ⟨v3, rfl, hm⟩
        have HM := Lib.hid hm
        clear hm Hfeed
        go_wp2_with fail
        refine (take_any w1.heap.size w1.heap.size ((takeF 600 (l.take a) 0).1 ++ (l.drop a).take k) (takeF 600 (l.take a) 0).2 v3 w5 HM.out.fr2 Hlen.out).mono ?_
        rintro e w6 hR
        obtain ⟨pg, cg, out, v5, rfl, hol, hG⟩ := HM.out.took (by omega) hR
        have HG := Lib.hid hG
        clear hG hR HM
        go_wp2_with (at_builtin; refine step_appendBR _ rfl _ _ rfl w4.heap.size _ got rfl HG.out.own _ out _ _ rfl rfl HG.out.inn (by omega) HG.out.old.size ?_; intro v7 w7 ho7 hg7 hr7; have HL7 := Lib.hid (HG.out.put ho7 hg7 hr7); clear ho7 hg7 hr7)
        refine ⟨⟨j + 1, a + k, by omega, by simp, by simp, _, _, HL7.out⟩, ?_⟩
        have e1 : (intOf (Value.int IntKind.i64 (↑j + 1))).toNat = j + 1 := by show ((j : Int) + 1).toNat = j + 1; omega
        have e2 : (intOf (Value.int IntKind.i64 (↑j))).toNat = j := by show ((j : Int)).toNat = j; omega
        omega
    · obtain rfl : j = m.length := by omega
      have hcl := Hc.out
      unfold maxLen at hcm
      have hleft : (takeF 600 (l.take a) 0).1.length ≤ a := by
        have := congrArg List.length HL.out.gl
        simp at this
        omega
      have hpl : ((l.drop a).take (l.length - a)).length = l.length - a := by simp
      have Hfeed : Hid (∀ q d, BytesIn wr q ((l.drop a).take (l.length - a)) → Calls Try.prog 44 #[.pointer (some ⟨w1.heap.size, 0, none⟩), .slice q (l.length - a) d] wr fun e w' => ∃ v2', e = .returned (.int .i64 0) ∧ FpM w4 w' l w1.heap.size v2' u10 a (l.length - a) got) := Lib.hid (by
        intro q d hq
        have hf := frFeed_ok w1.heap.size w1.heap.size true (takeF 600 (l.take a) 0).1 2000 4000 (takeF 600 (l.take a) 0).2 v2 q ((l.drop a).take (l.length - a)) d wr HL.out.fr2 (by omega) (by omega) (by omega) (by have := HL.out.old.size; omega) hq
        rw [hpl] at hf
        refine hf.mono ?_
        rintro e w' ⟨v2', rfl, hf', hr', hT'⟩
        exact ⟨v2', rfl, HL.out.fed (by omega) hf' hr' hT'⟩)
      have Hin : Hid (BytesIn wr (some ⟨bb, bo, none⟩) l) := Lib.hid (old_in H0.out HB4.out HL.out.old (by omega))
      have hk0 : (0 : Int) ≤ (a : Int) := by omega
      have hk1 : (a : Int) ≤ (l.length : Int) := by omega
      have hk2 : (l.length : Int) ≤ (c0 : Int) := by omega
      have Hlen : Hid (((takeF 600 (l.take a) 0).1 ++ (l.drop a).take (l.length - a)).length ≤ 4000) := Lib.hid (by rw [List.length_append, hpl]; omega)
      have hgot : got.length ≤ 3000 := by
        have := congrArg List.length HL.out.gl
        simp at this
        omega
      clear hpl hleft
      by_cases hcc : a = c0
      · obtain rfl : a = l.length := by omega
        subst hcc
        simp only [Nat.sub_self] at Hfeed Hlen
        go_wp2_with fail
        refine (Hfeed.out _ _ (BytesIn.nil _ _)).mono ?_
        rintro e w5 ⟨v3, rfl, hm⟩
        have HM := Lib.hid hm
        clear hm Hfeed
        go_wp2_with fail
        refine (take_any w1.heap.size w1.heap.size ((takeF 600 (l.take l.length) 0).1 ++ (l.drop l.length).take 0) (takeF 600 (l.take l.length) 0).2 v3 w5 HM.out.fr2 Hlen.out).mono ?_
        rintro e w6 hR
        obtain ⟨pg, cg, out, v5, rfl, hol, hG⟩ := HM.out.took (by omega) hR
        have HG := Lib.hid hG
        clear hG hR HM Hlen
        go_wp2_with (at_builtin; refine step_appendBR _ rfl _ _ rfl w4.heap.size _ got rfl HG.out.own _ out _ _ rfl rfl HG.out.inn (by omega) HG.out.old.size ?_; intro v7 w7 ho7 hg7 hr7; obtain ⟨p7, c7, hv7, _⟩ := ho7.slice; subst hv7; have HL7 := Lib.hid (HG.out.put ho7 hg7 hr7); clear ho7 hg7 hr7)
        have HCC := Hc.out
        simp only [Nat.add_zero, List.length_append] at HL7
        have HE := Lib.hid (fp_end (gt := got ++ out) (n7 := got.length + out.length) (g1 := w.heap.size) (g2 := w1.heap.size) (B4 := w3.heap.size) HL7.out (by rw [List.length_append]) HF4.out (by omega) (fun k hk e => by have := Hr4.out k hk; omega) Ho4.out (by omega) Hall.out _ (old_in H0.out HB4.out HL7.out.old (by omega)) HCC)
        have HB7 := Lib.hid (HB4.out.trans ((HL7.out.old.below (B := w.heap.size) (by omega) (fun k hk => by omega))))
        clear HL7 HG HF4 Ho4 Hall HB4 Hr4 HL Hin H0 H1
        generalize (takeF 600 l 0).1.length = rl at *
        refine (HE.out.eq).mono ?_
        rintro e w8 ⟨rfl, rfl⟩
        go_wp2_with fail
        refine (HE.out.pre).mono ?_
        rintro e w8 ⟨rfl, rfl⟩
        go_wp2_with fail
        refine (HE.out.s1).mono ?_
        rintro e w8 ⟨rfl, rfl⟩
        go_wp2_with fail
        refine (HE.out.s2).mono ?_
        rintro e w8 ⟨rfl, rfl⟩
        go_wp2_with fail
        refine (Haw.out _).mono ?_
        rintro e w8 ⟨rfl, hB8⟩
        have HB8 := Lib.hid (HB7.out.trans (hB8.mono HB7.out.size))
        clear hB8
        go_wp2_with fail
        go_ret
        exact ⟨rfl, HB8.out⟩
      · clear hcm
        go_wp2_with fail
        refine (Hfeed.out _ _ ((Hin.out.drop a).take (l.length - a))).mono ?_
        rintro e w5 ⟨v3, rfl, hm⟩
        have HM := Lib.hid hm
        clear hm Hfeed
        go_wp2_with fail
        refine (take_any w1.heap.size w1.heap.size ((takeF 600 (l.take a) 0).1 ++ (l.drop a).take (l.length - a)) (takeF 600 (l.take a) 0).2 v3 w5 HM.out.fr2 Hlen.out).mono ?_
        rintro e w6 hR
        obtain ⟨pg, cg, out, v5, rfl, hol, hG⟩ := HM.out.took (by omega) hR
        have HG := Lib.hid hG
        clear hG hR HM Hlen
        go_wp2_with (at_builtin; refine step_appendBR _ rfl _ _ rfl w4.heap.size _ got rfl HG.out.own _ out _ _ rfl rfl HG.out.inn (by omega) HG.out.old.size ?_; intro v7 w7 ho7 hg7 hr7; obtain ⟨p7, c7, hv7, _⟩ := ho7.slice; subst hv7; have HL7 := Lib.hid (HG.out.put ho7 hg7 hr7); clear ho7 hg7 hr7)
        rw [show a + (l.length - a) = l.length from by omega] at HL7
        have HCC := Hc.out
        simp only [List.length_append] at HL7
        have HE := Lib.hid (fp_end (gt := got ++ out) (n7 := got.length + out.length) (g1 := w.heap.size) (g2 := w1.heap.size) (B4 := w3.heap.size) HL7.out (by rw [List.length_append]) HF4.out (by omega) (fun k hk e => by have := Hr4.out k hk; omega) Ho4.out (by omega) Hall.out _ (old_in H0.out HB4.out HL7.out.old (by omega)) HCC)
        have HB7 := Lib.hid (HB4.out.trans ((HL7.out.old.below (B := w.heap.size) (by omega) (fun k hk => by omega))))
        clear HL7 HG HF4 Ho4 Hall HB4 Hr4 HL Hin H0 H1
        generalize (takeF 600 l 0).1.length = rl at *
        refine (HE.out.eq).mono ?_
        rintro e w8 ⟨rfl, rfl⟩
        go_wp2_with fail
        refine (HE.out.pre).mono ?_
        rintro e w8 ⟨rfl, rfl⟩
        go_wp2_with fail
        refine (HE.out.s1).mono ?_
        rintro e w8 ⟨rfl, rfl⟩
        go_wp2_with fail
        refine (HE.out.s2).mono ?_
        rintro e w8 ⟨rfl, rfl⟩
        go_wp2_with fail
        refine (Haw.out _).mono ?_
        rintro e w8 ⟨rfl, hB8⟩
        have HB8 := Lib.hid (HB7.out.trans (hB8.mono HB7.out.size))
        clear hB8
        go_wp2_with fail
        go_ret
        exact ⟨rfl, HB8.out⟩


end Go.Proofs.Ytpdkoijgemgaiaa
