/-
  Faults (layer 8): awake; the walks of FaultTells and FaultWith.
-/
import Derived.Test.YthhebfknikfleaaFlC
import Derived.Test.YthhebfknikfleaaPackA
namespace Go.Proofs.Ythhebfknikfleaa
open Go.RowKit
set_option linter.unusedVariables false
set_option linter.unusedSimpArgs false

theorem awake_code : getT (makeF ⟨#[69, 82, 82, 79, 82]⟩ ⟨#[52, 50, 54, 48, 49]⟩ ⟨#[120]⟩) 67 = ⟨#[52, 50, 54, 48, 49]⟩ ∧ hasF (makeF ⟨#[69, 82, 82, 79, 82]⟩ ⟨#[52, 50, 54, 48, 49]⟩ ⟨#[120]⟩) 67 = true := ⟨rfl, rfl⟩
theorem awake_len : 10 < (bytesB [backE (makeF ⟨#[70, 65, 84, 65, 76]⟩ ⟨#[48, 56, 80, 48, 49]⟩ ⟨#[121]⟩)]).length := by decide +kernel

set_option maxRecDepth 100000 in
set_option maxHeartbeats 1000000 in
theorem flAwake_any (w : World) : Calls Try.prog 22 #[] w fun e w' => e = .returned (.bool true) ∧ Below w.heap.size w w' := by
  have HM := Lib.hid (make_any ⟨#[69, 82, 82, 79, 82]⟩ ⟨#[52, 50, 54, 48, 49]⟩ ⟨#[120]⟩ w (by simp [maxLen, ByteArray.size]) (by simp [maxLen, ByteArray.size]) (by simp [maxLen, ByteArray.size]))
  have HG := Lib.hid (fun (w0 : World) p d (h : SliceS 2 FdS (fun j => w.heap.size ≤ j) w0 [.slice p 4 d] (makeF ⟨#[69, 82, 82, 79, 82]⟩ ⟨#[52, 50, 54, 48, 49]⟩ ⟨#[120]⟩)) => fget_any _ p 4 d _ 67 w0 h)
  rw [awake_code.1, awake_code.2] at HG
  have HF := Lib.hid (fun w0 : World => ffatal_any ⟨#[48, 56, 80, 48, 49]⟩ ⟨#[121]⟩ w0 (by simp [ByteArray.size]) (by simp [ByteArray.size]))
  have hL := awake_len
  unfold BytR at HF
  generalize (bytesB [backE (makeF ⟨#[70, 65, 84, 65, 76]⟩ ⟨#[48, 56, 80, 48, 49]⟩ ⟨#[121]⟩)]) = L at *
  generalize L.length = n at *
  have hni : (10 : Int) < (n : Int) := by omega
  go_enter Try.func22, Try.ntmps22
  go_wp2_with fail
  refine HM.out.mono ?_
  rintro e w1 ⟨p, d, rfl, hs, hb⟩
  have Hg := Lib.hid (HG.out w1 p d hs)
  have HB1 := Lib.hid hb
  clear hs hb HM HG
  go_wp2_with fail
  refine Hg.out.mono ?_
  rintro e w2 ⟨rfl, hb⟩
  have HB2 := Lib.hid (HB1.out.trans (hb.mono HB1.out.size))
  clear hb
  go_wp2_with fail
  refine (HF.out w2).mono ?_
  rintro e w3 ⟨p3, d3, rfl, -, hb⟩
  have HB3 := Lib.hid (HB2.out.trans (hb.mono HB2.out.size))
  clear hb
  go_wp2_with fail
  go_ret
  exact ⟨rfl, HB3.out⟩

theorem eqF_true {S S' : Nat → Prop} {w : World} {p q : Option Addr} {n m c d : Nat} {l : List FdV} (h : SliceS 2 FdS S w [.slice p n c] l) (g : SliceS 2 FdS S' w [.slice q m d] l) :
    Calls Try.prog 27 #[.slice p n c, .slice q m d] w fun e w' => e = .returned (.bool true) ∧ Below w.heap.size w w' := by
  have := eqFields_any S S' p q n m c d l l w h g
  rw [listEq_self fdEq_self] at this
  exact this
theorem eqB_true {w : World} {p q : Option Addr} {c d : Nat} {l : List UInt8} (h : BytesIn w p l) (g : BytesIn w q l) :
    Calls Try.prog 16 #[.slice p l.length c, .slice q l.length d] w fun e w' => e = .returned (.bool true) ∧ w = w' := by
  have := equal_any p q l l c d w h g
  rw [beq_self_eq_true] at this
  exact this
theorem sameE_true {S S' : Nat → Prop} {w : World} {p q : Option Addr} {c d : Nat} {l : List FdV} (h : SliceS 2 FdS S w [.slice p 4 c] l) (g : SliceS 2 FdS S' w [.slice q 4 d] l) :
    Calls Try.prog 33 #[.agg #[.int .u8 69, .int .u8 0, .string ⟨#[]⟩, .string ⟨#[]⟩, .string ⟨#[]⟩, .int .i64 0, .int .i64 0, .slice none 0 0, .slice none 0 0, .slice none 0 0, .slice p 4 c], .agg #[.int .u8 69, .int .u8 0, .string ⟨#[]⟩, .string ⟨#[]⟩, .string ⟨#[]⟩, .int .i64 0, .int .i64 0, .slice none 0 0, .slice none 0 0, .slice none 0 0, .slice q 4 d]] w fun e w' => e = .returned (.bool true) ∧ Below w.heap.size w w' := by
  have := bsame_any S S' (backE l) (backE l) _ _ w (backE_l h) (backE_l g)
  rw [baEq_self] at this
  have h4 := h.len.1
  unfold baArg baCells backE baZero at this
  dsimp only at this
  rw [← h4] at this
  exact this

theorem opensS_fdV : OpensS Try.prog 48 FdS := by
  intro H enc w base spare held fuel cs x h
  have S : StructOf Try.prog 48 _ := ⟨Try.underlying48, by kernel_rfl, by kernel_rfl⟩
  have hl := S.len h
  match cs, hl with
  | [c0, c1], _ =>
    obtain ⟨y0, e0, hw0⟩ := S.field h 0 _ rfl c0 rfl (opens_int Try.underlying5)
    obtain ⟨y1, e1, hw1⟩ := S.field h 1 _ rfl c1 rfl (opens_str Try.underlying9)
    simp only [List.cons.injEq, and_true] at e0 e1
    subst e0 e1
    have hb := byte_of_wf hw0
    exact ⟨⟨y0, y1⟩, rfl, hw1, hb.1, hb.2⟩
theorem opensS_fds : OpensS Try.prog 31 (SliceS 2 FdS) := opensS_slice Try.underlying31 (by kernel_rfl) (by omega) opensS_fdV

set_option maxRecDepth 100000 in
set_option maxHeartbeats 4000000 in
theorem faultTells_walk (p : Option Addr) (n c : Nat) (l : List FdV) (k : Int) (sv cd tx : ByteArray) (w0 : World) (h : SliceS 2 FdS (fun k => k < w0.heap.size) w0 [.slice p n c] l) :
    Calls Try.prog 6 #[.slice p n c, .int .u8 k, .string sv, .string cd, .string tx] w0 fun e w' => e = .returned (.bool true) ∧ Below w0.heap.size w0 w' := by
  obtain ⟨rfl, hlc, hcm⟩ := h.len
  unfold maxLen at hcm
  have Haw := Lib.hid (fun w => flAwake_any w)
  have Hl := Lib.hid h
  have HB0 := Lib.hid (Below.refl w0.heap.size w0)
  have Hfr := Lib.hid (show farF l = false → l.length ≤ 50 from fun e => by unfold farF at e; simp only [Bool.or_eq_false_iff, decide_eq_false_iff_not] at e; omega)
  clear h
  go_enter Try.func6, Try.ntmps6
  go_wp2_with fail
  refine (far_any _ _ _ _ l w0 Hl.out).mono ?_
  rintro e w1 ⟨rfl, hb⟩
  have HB1 := Lib.hid (HB0.out.trans (hb.mono HB0.out.size))
  have Hl' := Lib.hid (Hl.out.below FdS.still hb)
  clear Hl
  have Hl := Hl'
  clear Hl'
  clear hb
  cases hf : farF l with
  | true =>
    clear hf
    go_wp2_with fail
    refine (Haw.out _).mono ?_
    rintro e wz ⟨rfl, hb⟩
    have HBz := Lib.hid (HB1.out.trans (hb.mono HB1.out.size))
    clear hb
    go_wp2_with fail
    go_ret
    exact ⟨rfl, HBz.out⟩
  | false =>
    have hl50 := Hfr.out hf
    clear hf
    by_cases g1 : (300 : Int) < (sv.size : Int)
    · skip
      go_wp2_with fail
      refine (Haw.out _).mono ?_
      rintro e wz ⟨rfl, hb⟩
      have HBz := Lib.hid (HB1.out.trans (hb.mono HB1.out.size))
      clear hb
      go_wp2_with fail
      go_ret
      exact ⟨rfl, HBz.out⟩
    · skip
      by_cases g2 : (300 : Int) < (cd.size : Int)
      · skip
        go_wp2_with fail
        refine (Haw.out _).mono ?_
        rintro e wz ⟨rfl, hb⟩
        have HBz := Lib.hid (HB1.out.trans (hb.mono HB1.out.size))
        clear hb
        go_wp2_with fail
        go_ret
        exact ⟨rfl, HBz.out⟩
      · skip
        by_cases g3 : (1000 : Int) < (tx.size : Int)
        · skip
          go_wp2_with fail
          refine (Haw.out _).mono ?_
          rintro e wz ⟨rfl, hb⟩
          have HBz := Lib.hid (HB1.out.trans (hb.mono HB1.out.size))
          clear hb
          go_wp2_with fail
          go_ret
          exact ⟨rfl, HBz.out⟩
        · skip
          have Hsz := Lib.hid (show sv.size ≤ 10000 ∧ cd.size ≤ 10000 ∧ tx.size ≤ 10000 by omega)
          go_wp2_with fail
          refine (fget_any _ _ _ _ l k w1 Hl.out).mono ?_
          rintro e w2 ⟨rfl, hb⟩
          have HB2 := Lib.hid (HB1.out.trans (hb.mono HB1.out.size))
          have Hl' := Lib.hid (Hl.out.below FdS.still hb)
          clear Hl
          have Hl := Hl'
          clear Hl'
          clear hb
          go_wp2_with fail
          refine (rfget_any _ _ _ _ l k w2 Hl.out).mono ?_
          rintro e w3 ⟨rfl, rfl⟩
          go_wp2_with fail
          refine (clone_fds _ _ _ _ l w2 Hl.out (by omega)).mono ?_
          rintro e w3 ⟨vo, rfl, ho, hb⟩
          have HB3 := Lib.hid (HB2.out.trans (hb.mono HB2.out.size))
          have Hl' := Lib.hid (Hl.out.below FdS.still hb)
          clear Hl
          have Hl := Hl'
          clear Hl'
          clear hb
          obtain ⟨po, co, hvo, hso⟩ := OwnF.lst ho
          have Ho := Lib.hid hso
          subst hvo
          clear ho hso
          go_wp2_with fail
          refine (with_any _ _ _ _ l k tx w3 Hl.out (by omega) (mx Hsz.out.2.2)).mono ?_
          rintro e w4 ⟨pm, cm, rfl, hm, hb⟩
          have HB4 := Lib.hid (HB3.out.trans (hb.mono HB3.out.size))
          have Hl' := Lib.hid (Hl.out.below FdS.still hb)
          clear Hl
          have Hl := Hl'
          clear Hl'
          have Ho' := Lib.hid (Ho.out.below FdS.still hb)
          clear Ho
          have Ho := Ho'
          clear Ho'
          have Hm := Lib.hid hm
          clear hb hm
          go_wp2_with fail
          refine (rwith_any _ _ _ _ l k tx w4 Hl.out (by omega) (mx Hsz.out.2.2)).mono ?_
          rintro e w5 ⟨pr, cr, rfl, hr, hb⟩
          have HB5 := Lib.hid (HB4.out.trans (hb.mono HB4.out.size))
          have Hl' := Lib.hid (Hl.out.below FdS.still hb)
          clear Hl
          have Hl := Hl'
          clear Hl'
          have Ho' := Lib.hid (Ho.out.below FdS.still hb)
          clear Ho
          have Ho := Ho'
          clear Ho'
          have Hm' := Lib.hid (Hm.out.below FdS.still hb)
          clear Hm
          have Hm := Hm'
          clear Hm'
          have Hr := Lib.hid hr
          clear hb hr
          go_wp2_with fail
          refine (eqF_true Hm.out Hr.out).mono ?_
          rintro e w6 ⟨rfl, hb⟩
          have HB6 := Lib.hid (HB5.out.trans (hb.mono HB5.out.size))
          have Hl' := Lib.hid (Hl.out.below FdS.still hb)
          clear Hl
          have Hl := Hl'
          clear Hl'
          have Ho' := Lib.hid (Ho.out.below FdS.still hb)
          clear Ho
          have Ho := Ho'
          clear Ho'
          have Hm' := Lib.hid (Hm.out.below FdS.still hb)
          clear Hm
          have Hm := Hm'
          clear Hm'
          have Hr' := Lib.hid (Hr.out.below FdS.still hb)
          clear Hr
          have Hr := Hr'
          clear Hr'
          clear hb
          go_wp2_with fail
          refine (eqF_true Hl.out Ho.out).mono ?_
          rintro e w7 ⟨rfl, hb⟩
          have HB7 := Lib.hid (HB6.out.trans (hb.mono HB6.out.size))
          have Hl' := Lib.hid (Hl.out.below FdS.still hb)
          clear Hl
          have Hl := Hl'
          clear Hl'
          have Ho' := Lib.hid (Ho.out.below FdS.still hb)
          clear Ho
          have Ho := Ho'
          clear Ho'
          clear hb
          go_wp2_with fail
          refine (make_any sv cd tx w7 (mx Hsz.out.1) (mx Hsz.out.2.1) (mx Hsz.out.2.2)).mono ?_
          rintro e w8 ⟨p1, c1, rfl, h1, hb⟩
          have HB8 := Lib.hid (HB7.out.trans (hb.mono HB7.out.size))
          have Hl' := Lib.hid (Hl.out.below FdS.still hb)
          clear Hl
          have Hl := Hl'
          clear Hl'
          have H1 := Lib.hid h1
          clear hb h1
          go_wp2_with fail
          refine (rmake_any sv cd tx w8 (mx Hsz.out.1) (mx Hsz.out.2.1) (mx Hsz.out.2.2)).mono ?_
          rintro e w9 ⟨p2, c2, rfl, h2, hb⟩
          have HB9 := Lib.hid (HB8.out.trans (hb.mono HB8.out.size))
          have Hl' := Lib.hid (Hl.out.below FdS.still hb)
          clear Hl
          have Hl := Hl'
          clear Hl'
          have H1' := Lib.hid (H1.out.below FdS.still hb)
          clear H1
          have H1 := H1'
          clear H1'
          have H2 := Lib.hid h2
          clear hb h2
          go_wp2_with fail
          refine (eqF_true H1.out H2.out).mono ?_
          rintro e w10 ⟨rfl, hb⟩
          have HB10 := Lib.hid (HB9.out.trans (hb.mono HB9.out.size))
          have Hl' := Lib.hid (Hl.out.below FdS.still hb)
          clear Hl
          have Hl := Hl'
          clear Hl'
          have H1' := Lib.hid (H1.out.below FdS.still hb)
          clear H1
          have H1 := H1'
          clear H1'
          have H2' := Lib.hid (H2.out.below FdS.still hb)
          clear H2
          have H2 := H2'
          clear H2'
          clear hb
          have HF := Lib.hid (fun w => ffatal_any cd tx w Hsz.out.2.1 Hsz.out.2.2)
          have HG := Lib.hid (fun w => rffatal_any cd tx w Hsz.out.2.1 Hsz.out.2.2)
          unfold BytR at HF HG
          generalize bytesB [backE (makeF ⟨#[70, 65, 84, 65, 76]⟩ cd tx)] = bz at *
          go_wp2_with fail
          refine (HF.out w10).mono ?_
          rintro e w11 ⟨p3, c3, rfl, h3, hb⟩
          have HB11 := Lib.hid (HB10.out.trans (hb.mono HB10.out.size))
          have Hl' := Lib.hid (Hl.out.below FdS.still hb)
          clear Hl
          have Hl := Hl'
          clear Hl'
          have H3 := Lib.hid h3
          clear hb h3
          go_wp2_with fail
          refine (HG.out w11).mono ?_
          rintro e w12 ⟨p4, c4, rfl, h4, hb⟩
          have HB12 := Lib.hid (HB11.out.trans (hb.mono HB11.out.size))
          have Hl' := Lib.hid (Hl.out.below FdS.still hb)
          clear Hl
          have Hl := Hl'
          clear Hl'
          have H3' := Lib.hid (H3.out.below hb)
          clear H3
          have H3 := H3'
          clear H3'
          have H4 := Lib.hid h4
          clear hb h4
          have Heq := Lib.hid (eqB_true (c := c3) (d := c4) H3.out H4.out)
          generalize bz.length = nbz at *
          go_wp2_with fail
          refine (Heq.out).mono ?_
          rintro e w13 ⟨rfl, rfl⟩
          have HE := Lib.hid (fun w => ferror_any cd tx w (mx Hsz.out.2.1) (mx Hsz.out.2.2) trivial)
          have HR := Lib.hid (fun w => rferror_any cd tx w (mx Hsz.out.2.1) (mx Hsz.out.2.2) trivial)
          unfold faultR at HE HR
          go_wp2_with fail
          refine (HE.out w12).mono ?_
          rintro e w13 ⟨p5, c5, rfl, h5, hb⟩
          have HB13 := Lib.hid (HB12.out.trans (hb.mono HB12.out.size))
          have Hl' := Lib.hid (Hl.out.below FdS.still hb)
          clear Hl
          have Hl := Hl'
          clear Hl'
          have H5 := Lib.hid h5
          clear hb h5
          go_wp2_with fail
          refine (HR.out w13).mono ?_
          rintro e w14 ⟨p6, c6, rfl, h6, hb⟩
          have HB14 := Lib.hid (HB13.out.trans (hb.mono HB13.out.size))
          have Hl' := Lib.hid (Hl.out.below FdS.still hb)
          clear Hl
          have Hl := Hl'
          clear Hl'
          have H5' := Lib.hid (H5.out.below FdS.still hb)
          clear H5
          have H5 := H5'
          clear H5'
          have H6 := Lib.hid h6
          clear hb h6
          go_wp2_with fail
          refine (sameE_true H5.out H6.out).mono ?_
          rintro e w15 ⟨rfl, hb⟩
          have HB15 := Lib.hid (HB14.out.trans (hb.mono HB14.out.size))
          have Hl' := Lib.hid (Hl.out.below FdS.still hb)
          clear Hl
          have Hl := Hl'
          clear Hl'
          have H5' := Lib.hid (H5.out.below FdS.still hb)
          clear H5
          have H5 := H5'
          clear H5'
          have H6' := Lib.hid (H6.out.below FdS.still hb)
          clear H6
          have H6 := H6'
          clear H6'
          clear hb
          go_wp2_with fail
          refine (Haw.out _).mono ?_
          rintro e wz ⟨rfl, hb⟩
          have HBz := Lib.hid (HB15.out.trans (hb.mono HB15.out.size))
          clear hb
          go_wp2_with fail
          go_ret
          exact ⟨rfl, HBz.out⟩

set_option maxRecDepth 100000 in
set_option maxHeartbeats 4000000 in
theorem faultWith_walk (p : Option Addr) (n c : Nat) (l : List FdV) (k j : Int) (tx : ByteArray) (w0 : World) (h : SliceS 2 FdS (fun k => k < w0.heap.size) w0 [.slice p n c] l) :
    Calls Try.prog 5 #[.slice p n c, .int .u8 k, .int .u8 j, .string tx] w0 fun e w' => e = .returned (.bool true) ∧ Below w0.heap.size w0 w' := by
  obtain ⟨rfl, hlc, hcm⟩ := h.len
  unfold maxLen at hcm
  have Haw := Lib.hid (fun w => flAwake_any w)
  have Hl := Lib.hid h
  have HB0 := Lib.hid (Below.refl w0.heap.size w0)
  have Hfr := Lib.hid (show farF l = false → l.length ≤ 50 from fun e => by unfold farF at e; simp only [Bool.or_eq_false_iff, decide_eq_false_iff_not] at e; omega)
  have Hh1 := Lib.hid (withF_has l k k tx)
  have Hh2 := Lib.hid (withF_has l k j tx)
  have Hg1 := Lib.hid (withF_get l k tx)
  have Hg2 := Lib.hid (withF_other l k j tx)
  have HmL := Lib.hid (withF_len l k tx)
  clear h
  go_enter Try.func5, Try.ntmps5
  go_wp2_with fail
  refine (far_any _ _ _ _ l w0 Hl.out).mono ?_
  rintro e w1 ⟨rfl, hb⟩
  have HB1 := Lib.hid (HB0.out.trans (hb.mono HB0.out.size))
  have Hl' := Lib.hid (Hl.out.below FdS.still hb)
  clear Hl
  have Hl := Hl'
  clear Hl'
  clear hb
  cases hf : farF l with
  | true =>
    clear hf
    go_wp2_with fail
    refine (Haw.out _).mono ?_
    rintro e wz ⟨rfl, hb⟩
    have HBz := Lib.hid (HB1.out.trans (hb.mono HB1.out.size))
    clear hb
    go_wp2_with fail
    go_ret
    exact ⟨rfl, HBz.out⟩
  | false =>
    have hl50 := Hfr.out hf
    clear hf
    by_cases g3 : (1000 : Int) < (tx.size : Int)
    · skip
      go_wp2_with fail
      refine (Haw.out _).mono ?_
      rintro e wz ⟨rfl, hb⟩
      have HBz := Lib.hid (HB1.out.trans (hb.mono HB1.out.size))
      clear hb
      go_wp2_with fail
      go_ret
      exact ⟨rfl, HBz.out⟩
    · skip
      have Hsz := Lib.hid (show tx.size ≤ 10000 by omega)
      go_wp2_with fail
      refine (with_any _ _ _ _ l k tx w1 Hl.out (by omega) (mx Hsz.out)).mono ?_
      rintro e w2 ⟨pm, cm, rfl, hm, hb⟩
      have HB2 := Lib.hid (HB1.out.trans (hb.mono HB1.out.size))
      have Hl' := Lib.hid (Hl.out.below FdS.still hb)
      clear Hl
      have Hl := Hl'
      clear Hl'
      have Hm := Lib.hid hm
      clear hb hm
      have hml := HmL.out
      generalize withF l k tx = m at *
      go_wp2_with fail
      refine (fget_any _ _ _ _ l k w2 Hl.out).mono ?_
      rintro e w3 ⟨rfl, hb⟩
      have HB3 := Lib.hid (HB2.out.trans (hb.mono HB2.out.size))
      have Hl' := Lib.hid (Hl.out.below FdS.still hb)
      clear Hl
      have Hl := Hl'
      clear Hl'
      have Hm' := Lib.hid (Hm.out.below FdS.still hb)
      clear Hm
      have Hm := Hm'
      clear Hm'
      clear hb
      go_wp2_with fail
      refine (fget_any _ _ _ _ m k w3 Hm.out).mono ?_
      rintro e w4 ⟨rfl, hb⟩
      have HB4 := Lib.hid (HB3.out.trans (hb.mono HB3.out.size))
      have Hl' := Lib.hid (Hl.out.below FdS.still hb)
      clear Hl
      have Hl := Hl'
      clear Hl'
      have Hm' := Lib.hid (Hm.out.below FdS.still hb)
      clear Hm
      have Hm := Hm'
      clear Hm'
      clear hb
      rw [Hh1.out]
      clear hml
      cases hh : hasF l k with
      | true =>
        rw [Hg1.out hh]
        clear Hg1 hh Hh1
        go_wp2_with fail
        refine (fget_any _ _ _ _ l j w4 Hl.out).mono ?_
        rintro e w5 ⟨rfl, hb⟩
        have HB5 := Lib.hid (HB4.out.trans (hb.mono HB4.out.size))
        have Hl' := Lib.hid (Hl.out.below FdS.still hb)
        clear Hl
        have Hl := Hl'
        clear Hl'
        have Hm' := Lib.hid (Hm.out.below FdS.still hb)
        clear Hm
        have Hm := Hm'
        clear Hm'
        clear hb
        go_wp2_with fail
        refine (fget_any _ _ _ _ m j w5 Hm.out).mono ?_
        rintro e w6 ⟨rfl, hb⟩
        have HB6 := Lib.hid (HB5.out.trans (hb.mono HB5.out.size))
        have Hl' := Lib.hid (Hl.out.below FdS.still hb)
        clear Hl
        have Hl := Hl'
        clear Hl'
        have Hm' := Lib.hid (Hm.out.below FdS.still hb)
        clear Hm
        have Hm := Hm'
        clear Hm'
        clear hb
        rw [Hh2.out]
        clear Hh2
        generalize hasF l j = hj at *
        by_cases hjk : j = k
        · subst hjk
          go_wp2_with fail
          refine (Haw.out _).mono ?_
          rintro e wz ⟨rfl, hb⟩
          have HBz := Lib.hid (HB6.out.trans (hb.mono HB6.out.size))
          clear hb
          go_wp2_with fail
          go_ret
          exact ⟨rfl, HBz.out⟩
        · have hjb : (j == k) = false := by simpa using hjk
          rw [Hg2.out hjk]
          clear hjk
          generalize getT l j = gj at *
          go_wp2_with fail
          refine (Haw.out _).mono ?_
          rintro e wz ⟨rfl, hb⟩
          have HBz := Lib.hid (HB6.out.trans (hb.mono HB6.out.size))
          clear hb
          go_wp2_with fail
          go_ret
          exact ⟨rfl, HBz.out⟩
      | false =>
        clear Hg1 hh Hh1
        generalize getT m k = gmk at *
        go_wp2_with fail
        refine (fget_any _ _ _ _ l j w4 Hl.out).mono ?_
        rintro e w5 ⟨rfl, hb⟩
        have HB5 := Lib.hid (HB4.out.trans (hb.mono HB4.out.size))
        have Hl' := Lib.hid (Hl.out.below FdS.still hb)
        clear Hl
        have Hl := Hl'
        clear Hl'
        have Hm' := Lib.hid (Hm.out.below FdS.still hb)
        clear Hm
        have Hm := Hm'
        clear Hm'
        clear hb
        go_wp2_with fail
        refine (fget_any _ _ _ _ m j w5 Hm.out).mono ?_
        rintro e w6 ⟨rfl, hb⟩
        have HB6 := Lib.hid (HB5.out.trans (hb.mono HB5.out.size))
        have Hl' := Lib.hid (Hl.out.below FdS.still hb)
        clear Hl
        have Hl := Hl'
        clear Hl'
        have Hm' := Lib.hid (Hm.out.below FdS.still hb)
        clear Hm
        have Hm := Hm'
        clear Hm'
        clear hb
        rw [Hh2.out]
        clear Hh2
        generalize hasF l j = hj at *
        by_cases hjk : j = k
        · subst hjk
          go_wp2_with fail
          refine (Haw.out _).mono ?_
          rintro e wz ⟨rfl, hb⟩
          have HBz := Lib.hid (HB6.out.trans (hb.mono HB6.out.size))
          clear hb
          go_wp2_with fail
          go_ret
          exact ⟨rfl, HBz.out⟩
        · have hjb : (j == k) = false := by simpa using hjk
          rw [Hg2.out hjk]
          clear hjk
          generalize getT l j = gj at *
          go_wp2_with fail
          refine (Haw.out _).mono ?_
          rintro e wz ⟨rfl, hb⟩
          have HBz := Lib.hid (HB6.out.trans (hb.mono HB6.out.size))
          clear hb
          go_wp2_with fail
          go_ret
          exact ⟨rfl, HBz.out⟩

end Go.Proofs.Ythhebfknikfleaa
