/-
  The walk of FramePieces at no bytes, and whole (layer 4).
-/
import Derived.Test.YtpdkoijgemgaiaaFrW
namespace Go.Proofs.Ytpdkoijgemgaiaa
open Go.RowKit

set_option maxRecDepth 100000 in
set_option maxHeartbeats 10000000 in
theorem framePieces_zero (A : Addr) (p1 : Option Addr) (m : List UInt8) (c0 c1 : Nat) (w : World) (h1 : BytesIn w p1 m) :
    Calls Try.prog 14 #[.slice (some A) 0 c0, .slice p1 m.length c1] w fun e w' => e = .returned (.bool true) ∧ Below w.heap.size w w' := by
  have Haw : Hid (∀ w3, Calls Try.prog 46 #[] w3 fun e w' => e = .returned (.bool true) ∧ Below w3.heap.size w3 w') := Lib.hid frAwake
  by_cases hb2 : (300 : Int) < (m.length : Int)
  · clear h1
    go_enter Try.func14, Try.ntmps14
    go_wp2_with (go_at_call 46; refine (Haw.out _).mono ?_; rintro e w2 ⟨rfl, hb⟩)
    go_ret
    exact ⟨rfl, hb⟩
  have H1 := Lib.hid h1
  have Hnew : Hid (∀ w1, Calls Try.prog 64 #[.int .i64 2000, .int .i64 4000, .bool false] w1 fun e w' =>
      e = .returned (.tuple #[.pointer (some ⟨w1.heap.size, 0, none⟩), .int .i64 0]) ∧ FrO w1.heap.size w' w1.heap.size true [] 2000 4000 0 (.slice none 0 0) ∧ Below w1.heap.size w1 w') := Lib.hid (fun w1 => frNew_ok 2000 4000 false w1 (by omega) (by omega) (by omega) (by omega))
  clear h1
  go_enter Try.func14, Try.ntmps14
  go_wp2_with fail
  refine (Hnew.out _).mono ?_
  rintro e w1 ⟨rfl, hf1, hB1⟩
  have HF1 := Lib.hid hf1
  have HB1 := Lib.hid hB1
  have hz1 : w.heap.size < w1.heap.size := hf1.blk.lt
  clear hf1 hB1
  go_wp2_with fail
  refine (Hnew.out _).mono ?_
  rintro e w2 ⟨rfl, hf2, hB2⟩
  have HF2 := Lib.hid hf2
  have hz2 : w1.heap.size < w2.heap.size := hf2.blk.lt
  have HF1b := Lib.hid (HF1.out.still hB2)
  have HB2 := Lib.hid (HB1.out.trans (hB2.mono HB1.out.size))
  clear hf2 hB2 HF1 HB1
  go_wp2_with fail
  refine (frFeed_ok w.heap.size w.heap.size true [] 2000 4000 0 _ _ [] c0 w2 HF1b.out (by omega) (by omega) (by simp) (by omega) (BytesIn.nil _ _)).mono ?_
  rintro e w3 ⟨v1, rfl, hf3, hr3, hT3⟩
  rw [List.nil_append] at hf3
  have hz3 : w2.heap.size ≤ w3.heap.size := hT3.size
  have HF3 := Lib.hid hf3
  have HG3 := Lib.hid (HF2.out.touch hT3 (fun e => by rcases e with e | e; (· omega); (· simp [rowOf] at e)) (fun k hk => by simp [rowOf] at hk))
  have HB3 := Lib.hid (HB2.out.trans (frT_below HF1b.out hT3 (by omega)))
  have Hr3 : Hid (∀ k, rowOf v1 = some k → w2.heap.size ≤ k) := Lib.hid (fun k hk => by rcases hr3 k hk with e | e; (· simp [rowOf] at e); (· exact e))
  clear hf3 hr3 hT3 HF2 HF1b HB2
  go_wp2_with fail
  refine (take_any w.heap.size w.heap.size [] 0 v1 w3 HF3.out (by simp)).mono ?_
  rintro e w4 hR
  obtain ⟨vo, out1, v1b, rfl, ho, hall, hf4, hr4, hT4⟩ := hR
  obtain ⟨po, co, rfl, _⟩ := ho.slice
  have hz4 : w3.heap.size ≤ w4.heap.size := hT4.size
  have HF4 := Lib.hid hf4
  have Ho4 := Lib.hid ho
  have Hall := Lib.hid hall
  have HG4 := Lib.hid (HG3.out.touch hT4 (fun e => by rcases e with e | e; (· omega); (· have := Hr3.out _ e; omega)) (fun k hk => by simp [rowOf] at hk))
  have HB4 := Lib.hid (HB3.out.trans (frT_below HF3.out hT4 (by omega)))
  have Hr4 : Hid (∀ k, rowOf v1b = some k → w2.heap.size ≤ k) := Lib.hid (fun k hk => Hr3.out k (hr4 k hk))
  have HL := Lib.hid (FpL.start (l := []) HG4.out (by omega))
  clear ho hall hf4 hr4 hT4 HF3 HG3 HB3 Hr3 HG4 Hnew
  go_wp2_with fail
  go_loopw [10, 11, 56] (fun vg va vi wx => ∃ j : Nat, j ≤ m.length ∧ vi = .int .i64 j ∧ va = .int .i64 0 ∧ ∃ got v2, FpL w4 wx [] w1.heap.size v2 vg 0 got) (fun _ _ vi _ => m.length - (intOf vi).toNat)
  case atStart => exact ⟨0, by omega, rfl, rfl, _, _, HL.out⟩
  case round =>
    clear HL
    obtain ⟨j, hj, rfl, rfl, got, v2, hL⟩ := hrel
    have HL := Lib.hid hL
    have e0 : (takeF 600 (([] : List UInt8).take 0) 0).1 ++ (([] : List UInt8).drop 0).take 0 = [] := rfl
    have hgot : got.length ≤ 3000 := by
      have h1 := congrArg List.length hL.gl
      simp at h1
      have h2 : got.length = 0 := by rw [h1.1]; rfl
      omega
    have Hfeed : Hid (∀ q d, Calls Try.prog 44 #[.pointer (some ⟨w1.heap.size, 0, none⟩), .slice q 0 d] wr fun e w' => ∃ v2', e = .returned (.int .i64 0) ∧ FpM w4 w' [] w1.heap.size v2' u10 0 0 got) := Lib.hid (by
      intro q d
      refine (frFeed_ok w1.heap.size w1.heap.size true (takeF 600 (([] : List UInt8).take 0) 0).1 2000 4000 (takeF 600 (([] : List UInt8).take 0) 0).2 v2 q [] d wr HL.out.fr2 (by omega) (by omega) (by show (0 : Nat) + 0 ≤ 4000; omega) (by have := HL.out.old.size; omega) (BytesIn.nil _ _)).mono ?_
      rintro e w' ⟨v2', rfl, hf', hr', hT'⟩
      exact ⟨v2', rfl, HL.out.fed (k := 0) (Nat.le_refl 0) hf' hr' hT'⟩)
    have Htake : Hid (∀ v3 w5, FpM w4 w5 [] w1.heap.size v3 u10 0 0 got → Calls Try.prog 68 #[.pointer (some ⟨w1.heap.size, 0, none⟩)] w5 fun e w6 => ∃ pg cg out v5, e = .returned (.slice pg out.length cg) ∧ out.length ≤ 3000 ∧ FpG w4 w6 [] w1.heap.size v5 u10 0 got pg out) := Lib.hid (by
      intro v3 w5 hM
      refine (take_any w1.heap.size w1.heap.size ((takeF 600 (([] : List UInt8).take 0) 0).1 ++ (([] : List UInt8).drop 0).take 0) (takeF 600 (([] : List UInt8).take 0) 0).2 v3 w5 hM.fr2 (by rw [e0]; simp)).mono ?_
      rintro e w6 hR
      obtain ⟨pg, cg, out, v5, rfl, hol, hG⟩ := hM.took (by simp) hR
      exact ⟨pg, cg, out, v5, rfl, hol, hG⟩)
    clear hL e0
    by_cases hlt : j < m.length
    · obtain ⟨b1, o1, rfl⟩ := H1.out.addr (by omega)
      have hx := (old_in H1.out HB4.out HL.out.old (by omega)).cellAt j hlt
      have hxb := u8_bd (m.getD j 0)
      generalize m.getD j 0 = x at *
      obtain ⟨xn, hX⟩ : ∃ xn : Nat, x.toNat = xn := ⟨_, rfl⟩
      rw [hX] at hxb hx
      have Hlt : (j : Int) < (m.length : Int) := by omega
      have hxx : xn = 0 ∨ (0 : Int) < (xn : Int) := by omega
      rcases hxx with rfl | hx0
      all_goals
        go_upto_region 14 with (fail)
        clear hx hX hxb
        have hwj : IntKind.i64.wrap ((j : Int) + 1) = (j : Int) + 1 := by rw [IntKind.wrap_i64]; omega
        go_wp2_with fail
        refine (Hfeed.out _ _).mono ?_
        rintro e w5 ⟨v3, rfl, hm⟩
        have HM := Lib.hid hm
        clear hm Hfeed
        go_wp2_with fail
        refine (Htake.out v3 w5 HM.out).mono ?_
        rintro e w6 ⟨pg, cg, out, v5, rfl, hol, hG⟩
        have HG := Lib.hid hG
        clear hG HM Htake
        go_wp2_with (at_builtin; refine step_appendBR _ rfl _ _ rfl w4.heap.size _ got rfl HG.out.own _ out _ _ rfl rfl HG.out.inn (by omega) HG.out.old.size ?_; intro v7 w7 ho7 hg7 hr7; have HL7 := Lib.hid (HG.out.put ho7 hg7 hr7); clear ho7 hg7 hr7)
        refine ⟨⟨j + 1, by omega, by simp, rfl, _, _, HL7.out⟩, ?_⟩
        have e1 : (intOf (Value.int IntKind.i64 (↑j + 1))).toNat = j + 1 := by show ((j : Int) + 1).toNat = j + 1; omega
        have e2 : (intOf (Value.int IntKind.i64 (↑j))).toNat = j := by show ((j : Int)).toNat = j; omega
        omega
    · obtain rfl : j = m.length := by omega
      go_wp2_with fail
      refine (Hfeed.out _ _).mono ?_
      rintro e w5 ⟨v3, rfl, hm⟩
      have HM := Lib.hid hm
      clear hm Hfeed
      go_wp2_with fail
      refine (Htake.out v3 w5 HM.out).mono ?_
      rintro e w6 ⟨pg, cg, out, v5, rfl, hol, hG⟩
      have HG := Lib.hid hG
      clear hG HM Htake
      go_wp2_with (at_builtin; refine step_appendBR _ rfl _ _ rfl w4.heap.size _ got rfl HG.out.own _ out _ _ rfl rfl HG.out.inn (by omega) HG.out.old.size ?_; intro v7 w7 ho7 hg7 hr7; obtain ⟨p7, c7, hv7, _⟩ := ho7.slice; subst hv7; have HL7 := Lib.hid (HG.out.put ho7 hg7 hr7); clear ho7 hg7 hr7)
      simp only [List.length_append] at HL7
      have HE := Lib.hid (fp_end (c0 := c0) (l := []) (gt := got ++ out) (n7 := got.length + out.length) (g1 := w.heap.size) (g2 := w1.heap.size) (B4 := w3.heap.size) HL7.out (by rw [List.length_append]) HF4.out (by omega) (fun k hk e => by have := Hr4.out k hk; omega) Ho4.out (by omega) Hall.out (some A) (BytesIn.nil _ _) (by simp))
      have HB7 := Lib.hid (HB4.out.trans ((HL7.out.old.below (B := w.heap.size) (by omega) (fun k hk => by omega))))
      have hrl : (takeF 600 [] 0).1.length = 0 := rfl
      have h00 : ([] : List UInt8).length = 0 := rfl
      rw [hrl, h00] at HE
      clear HL7 HG HF4 Ho4 Hall HB4 Hr4 HL H1 hrl h00
      refine (HE.out.eq).mono ?_
      rintro e w8 ⟨rfl, rfl⟩
      go_wp2_with fail
      refine (HE.out.pre).mono ?_
      rintro e w8 ⟨rfl, rfl⟩
      go_wp2_with fail
      refine (HE.out.s1).mono ?_
      rintro e w8 ⟨rfl, rfl⟩
      go_wp2_with fail
      refine (HE.out.s2).mono ?_
      rintro e w8 ⟨rfl, rfl⟩
      go_wp2_with fail
      refine (Haw.out _).mono ?_
      rintro e w8 ⟨rfl, hB8⟩
      have HB8 := Lib.hid (HB7.out.trans (hB8.mono HB7.out.size))
      clear hB8
      go_wp2_with fail
      go_ret
      exact ⟨rfl, HB8.out⟩

set_option maxRecDepth 100000 in
set_option maxHeartbeats 10000000 in
theorem framePieces_none (p1 : Option Addr) (m : List UInt8) (c0 c1 : Nat) (w : World) (h1 : BytesIn w p1 m) :
    Calls Try.prog 14 #[.slice none 0 c0, .slice p1 m.length c1] w fun e w' => e = .returned (.bool true) ∧ Below w.heap.size w w' := by
  have Haw : Hid (∀ w3, Calls Try.prog 46 #[] w3 fun e w' => e = .returned (.bool true) ∧ Below w3.heap.size w3 w') := Lib.hid frAwake
  by_cases hb2 : (300 : Int) < (m.length : Int)
  · clear h1
    go_enter Try.func14, Try.ntmps14
    go_wp2_with (go_at_call 46; refine (Haw.out _).mono ?_; rintro e w2 ⟨rfl, hb⟩)
    go_ret
    exact ⟨rfl, hb⟩
  have H1 := Lib.hid h1
  have Hnew : Hid (∀ w1, Calls Try.prog 64 #[.int .i64 2000, .int .i64 4000, .bool false] w1 fun e w' =>
      e = .returned (.tuple #[.pointer (some ⟨w1.heap.size, 0, none⟩), .int .i64 0]) ∧ FrO w1.heap.size w' w1.heap.size true [] 2000 4000 0 (.slice none 0 0) ∧ Below w1.heap.size w1 w') := Lib.hid (fun w1 => frNew_ok 2000 4000 false w1 (by omega) (by omega) (by omega) (by omega))
  clear h1
  go_enter Try.func14, Try.ntmps14
  go_wp2_with fail
  refine (Hnew.out _).mono ?_
  rintro e w1 ⟨rfl, hf1, hB1⟩
  have HF1 := Lib.hid hf1
  have HB1 := Lib.hid hB1
  have hz1 : w.heap.size < w1.heap.size := hf1.blk.lt
  clear hf1 hB1
  go_wp2_with fail
  refine (Hnew.out _).mono ?_
  rintro e w2 ⟨rfl, hf2, hB2⟩
  have HF2 := Lib.hid hf2
  have hz2 : w1.heap.size < w2.heap.size := hf2.blk.lt
  have HF1b := Lib.hid (HF1.out.still hB2)
  have HB2 := Lib.hid (HB1.out.trans (hB2.mono HB1.out.size))
  clear hf2 hB2 HF1 HB1
  go_wp2_with fail
  refine (frFeed_ok w.heap.size w.heap.size true [] 2000 4000 0 _ _ [] c0 w2 HF1b.out (by omega) (by omega) (by simp) (by omega) (BytesIn.nil _ _)).mono ?_
  rintro e w3 ⟨v1, rfl, hf3, hr3, hT3⟩
  rw [List.nil_append] at hf3
  have hz3 : w2.heap.size ≤ w3.heap.size := hT3.size
  have HF3 := Lib.hid hf3
  have HG3 := Lib.hid (HF2.out.touch hT3 (fun e => by rcases e with e | e; (· omega); (· simp [rowOf] at e)) (fun k hk => by simp [rowOf] at hk))
  have HB3 := Lib.hid (HB2.out.trans (frT_below HF1b.out hT3 (by omega)))
  have Hr3 : Hid (∀ k, rowOf v1 = some k → w2.heap.size ≤ k) := Lib.hid (fun k hk => by rcases hr3 k hk with e | e; (· simp [rowOf] at e); (· exact e))
  clear hf3 hr3 hT3 HF2 HF1b HB2
  go_wp2_with fail
  refine (take_any w.heap.size w.heap.size [] 0 v1 w3 HF3.out (by simp)).mono ?_
  rintro e w4 hR
  obtain ⟨vo, out1, v1b, rfl, ho, hall, hf4, hr4, hT4⟩ := hR
  obtain ⟨po, co, rfl, _⟩ := ho.slice
  have hz4 : w3.heap.size ≤ w4.heap.size := hT4.size
  have HF4 := Lib.hid hf4
  have Ho4 := Lib.hid ho
  have Hall := Lib.hid hall
  have HG4 := Lib.hid (HG3.out.touch hT4 (fun e => by rcases e with e | e; (· omega); (· have := Hr3.out _ e; omega)) (fun k hk => by simp [rowOf] at hk))
  have HB4 := Lib.hid (HB3.out.trans (frT_below HF3.out hT4 (by omega)))
  have Hr4 : Hid (∀ k, rowOf v1b = some k → w2.heap.size ≤ k) := Lib.hid (fun k hk => Hr3.out k (hr4 k hk))
  have HL := Lib.hid (FpL.start (l := []) HG4.out (by omega))
  clear ho hall hf4 hr4 hT4 HF3 HG3 HB3 Hr3 HG4 Hnew
  go_wp2_with fail
  go_loopw [10, 11, 56] (fun vg va vi wx => ∃ j : Nat, j ≤ m.length ∧ vi = .int .i64 j ∧ va = .int .i64 0 ∧ ∃ got v2, FpL w4 wx [] w1.heap.size v2 vg 0 got) (fun _ _ vi _ => m.length - (intOf vi).toNat)
  case atStart => exact ⟨0, by omega, rfl, rfl, _, _, HL.out⟩
  case round =>
    clear HL
    obtain ⟨j, hj, rfl, rfl, got, v2, hL⟩ := hrel
    have HL := Lib.hid hL
    have e0 : (takeF 600 (([] : List UInt8).take 0) 0).1 ++ (([] : List UInt8).drop 0).take 0 = [] := rfl
    have hgot : got.length ≤ 3000 := by
      have h1 := congrArg List.length hL.gl
      simp at h1
      have h2 : got.length = 0 := by rw [h1.1]; rfl
      omega
    have Hfeed : Hid (∀ q d, Calls Try.prog 44 #[.pointer (some ⟨w1.heap.size, 0, none⟩), .slice q 0 d] wr fun e w' => ∃ v2', e = .returned (.int .i64 0) ∧ FpM w4 w' [] w1.heap.size v2' u10 0 0 got) := Lib.hid (by
      intro q d
      refine (frFeed_ok w1.heap.size w1.heap.size true (takeF 600 (([] : List UInt8).take 0) 0).1 2000 4000 (takeF 600 (([] : List UInt8).take 0) 0).2 v2 q [] d wr HL.out.fr2 (by omega) (by omega) (by show (0 : Nat) + 0 ≤ 4000; omega) (by have := HL.out.old.size; omega) (BytesIn.nil _ _)).mono ?_
      rintro e w' ⟨v2', rfl, hf', hr', hT'⟩
      exact ⟨v2', rfl, HL.out.fed (k := 0) (Nat.le_refl 0) hf' hr' hT'⟩)
    have Htake : Hid (∀ v3 w5, FpM w4 w5 [] w1.heap.size v3 u10 0 0 got → Calls Try.prog 68 #[.pointer (some ⟨w1.heap.size, 0, none⟩)] w5 fun e w6 => ∃ pg cg out v5, e = .returned (.slice pg out.length cg) ∧ out.length ≤ 3000 ∧ FpG w4 w6 [] w1.heap.size v5 u10 0 got pg out) := Lib.hid (by
      intro v3 w5 hM
      refine (take_any w1.heap.size w1.heap.size ((takeF 600 (([] : List UInt8).take 0) 0).1 ++ (([] : List UInt8).drop 0).take 0) (takeF 600 (([] : List UInt8).take 0) 0).2 v3 w5 hM.fr2 (by rw [e0]; simp)).mono ?_
      rintro e w6 hR
      obtain ⟨pg, cg, out, v5, rfl, hol, hG⟩ := hM.took (by simp) hR
      exact ⟨pg, cg, out, v5, rfl, hol, hG⟩)
    clear hL e0
    by_cases hlt : j < m.length
    · obtain ⟨b1, o1, rfl⟩ := H1.out.addr (by omega)
      have hx := (old_in H1.out HB4.out HL.out.old (by omega)).cellAt j hlt
      have hxb := u8_bd (m.getD j 0)
      generalize m.getD j 0 = x at *
      obtain ⟨xn, hX⟩ : ∃ xn : Nat, x.toNat = xn := ⟨_, rfl⟩
      rw [hX] at hxb hx
      have Hlt : (j : Int) < (m.length : Int) := by omega
      have hxx : xn = 0 ∨ (0 : Int) < (xn : Int) := by omega
      rcases hxx with rfl | hx0
      all_goals
        go_upto_region 14 with (fail)
        clear hx hX hxb
        have hwj : IntKind.i64.wrap ((j : Int) + 1) = (j : Int) + 1 := by rw [IntKind.wrap_i64]; omega
        go_wp2_with fail
        refine (Hfeed.out _ _).mono ?_
        rintro e w5 ⟨v3, rfl, hm⟩
        have HM := Lib.hid hm
        clear hm Hfeed
        go_wp2_with fail
        refine (Htake.out v3 w5 HM.out).mono ?_
        rintro e w6 ⟨pg, cg, out, v5, rfl, hol, hG⟩
        have HG := Lib.hid hG
        clear hG HM Htake
        go_wp2_with (at_builtin; refine step_appendBR _ rfl _ _ rfl w4.heap.size _ got rfl HG.out.own _ out _ _ rfl rfl HG.out.inn (by omega) HG.out.old.size ?_; intro v7 w7 ho7 hg7 hr7; have HL7 := Lib.hid (HG.out.put ho7 hg7 hr7); clear ho7 hg7 hr7)
        refine ⟨⟨j + 1, by omega, by simp, rfl, _, _, HL7.out⟩, ?_⟩
        have e1 : (intOf (Value.int IntKind.i64 (↑j + 1))).toNat = j + 1 := by show ((j : Int) + 1).toNat = j + 1; omega
        have e2 : (intOf (Value.int IntKind.i64 (↑j))).toNat = j := by show ((j : Int)).toNat = j; omega
        omega
    · obtain rfl : j = m.length := by omega
      go_wp2_with fail
      refine (Hfeed.out _ _).mono ?_
      rintro e w5 ⟨v3, rfl, hm⟩
      have HM := Lib.hid hm
      clear hm Hfeed
      go_wp2_with fail
      refine (Htake.out v3 w5 HM.out).mono ?_
      rintro e w6 ⟨pg, cg, out, v5, rfl, hol, hG⟩
      have HG := Lib.hid hG
      clear hG HM Htake
      go_wp2_with (at_builtin; refine step_appendBR _ rfl _ _ rfl w4.heap.size _ got rfl HG.out.own _ out _ _ rfl rfl HG.out.inn (by omega) HG.out.old.size ?_; intro v7 w7 ho7 hg7 hr7; obtain ⟨p7, c7, hv7, _⟩ := ho7.slice; subst hv7; have HL7 := Lib.hid (HG.out.put ho7 hg7 hr7); clear ho7 hg7 hr7)
      simp only [List.length_append] at HL7
      have HE := Lib.hid (fp_end (c0 := c0) (l := []) (gt := got ++ out) (n7 := got.length + out.length) (g1 := w.heap.size) (g2 := w1.heap.size) (B4 := w3.heap.size) HL7.out (by rw [List.length_append]) HF4.out (by omega) (fun k hk e => by have := Hr4.out k hk; omega) Ho4.out (by omega) Hall.out none (BytesIn.nil _ _) (by simp))
      have HB7 := Lib.hid (HB4.out.trans ((HL7.out.old.below (B := w.heap.size) (by omega) (fun k hk => by omega))))
      have hrl : (takeF 600 [] 0).1.length = 0 := rfl
      have h00 : ([] : List UInt8).length = 0 := rfl
      rw [hrl, h00] at HE
      clear HL7 HG HF4 Ho4 Hall HB4 Hr4 HL H1 hrl h00
      refine (HE.out.eq).mono ?_
      rintro e w8 ⟨rfl, rfl⟩
      go_wp2_with fail
      refine (HE.out.pre).mono ?_
      rintro e w8 ⟨rfl, rfl⟩
      go_wp2_with fail
      refine (HE.out.s1).mono ?_
      rintro e w8 ⟨rfl, rfl⟩
      go_wp2_with fail
      refine (HE.out.s2).mono ?_
      rintro e w8 ⟨rfl, rfl⟩
      go_wp2_with fail
      refine (Haw.out _).mono ?_
      rintro e w8 ⟨rfl, hB8⟩
      have HB8 := Lib.hid (HB7.out.trans (hB8.mono HB7.out.size))
      clear hB8
      go_wp2_with fail
      go_ret
      exact ⟨rfl, HB8.out⟩


theorem framePieces_any (p0 p1 : Option Addr) (l m : List UInt8) (c0 c1 : Nat) (w : World) (hc : l.length ≤ c0) (hcm : c0 ≤ maxLen) (h0 : BytesIn w p0 l) (h1 : BytesIn w p1 m) :
    Calls Try.prog 14 #[.slice p0 l.length c0, .slice p1 m.length c1] w fun e w' => e = .returned (.bool true) ∧ Below w.heap.size w w' := by
  by_cases hl : l = []
  · subst hl
    cases p0 with
    | none => exact framePieces_none p1 m c0 c1 w h1
    | some a => exact framePieces_zero a p1 m c0 c1 w h1
  · obtain ⟨b, o, rfl⟩ := h0.addr (List.length_pos_iff.2 hl)
    exact framePieces_at b o p1 l m c0 c1 w hc hcm h0 h1

theorem framePieces_read (p0 p1 : Option Addr) (l m : List UInt8) (c0 c1 : Nat) (w : World) (r0 : BytesR w.heap.size w [.slice p0 l.length c0] l) (r1 : BytesR w.heap.size w [.slice p1 m.length c1] m) :
    Calls Try.prog 14 #[.slice p0 l.length c0, .slice p1 m.length c1] w fun e w' => e = .returned (.bool true) ∧ Below w.heap.size w w' := by
  obtain ⟨p, c, e, h1, h2, h3, _⟩ := r0
  obtain ⟨q, d, e', _, _, h5, _⟩ := r1
  simp only [List.cons.injEq, Value.slice.injEq, and_true] at e e'
  obtain ⟨rfl, _, rfl⟩ := e
  obtain ⟨rfl, _, rfl⟩ := e'
  exact framePieces_any p0 p1 l m c0 c1 w h1 h2 h3 h5

end Go.Proofs.Ytpdkoijgemgaiaa
