/-
  Statements as keys (layer 12): the walk of KeyBack; the statements' arguments.
-/
import Derived.Test.YtldjfmddjbdciaaKeK
namespace Go.Proofs.Ytldjfmddjbdciaa
open Go.RowKit
set_option linter.unusedVariables false
set_option linter.unusedSimpArgs false

set_option maxRecDepth 100000 in
set_option maxHeartbeats 4000000 in
theorem keyBack_walk (x y : StV) (p q : Option Addr) (c d : Nat) (w : World) (hx : SliceS 1 IntU (fun k => k < w.heap.size) w [.slice p x.oids.length c] x.oids) (hy : SliceS 1 IntU (fun k => k < w.heap.size) w [.slice q y.oids.length d] y.oids) :
    Calls Try.prog 4 #[stArg x p c, stArg y q d] w fun e w' => e = .returned (.bool true) ∧ Below w.heap.size w w' := by
  have H0 := Lib.hid (SkA.start hx hy)
  have Haw := Lib.hid (fun w0 => keAwake w0)
  have HC : Hid (∀ w1 : World, SkA w w1 x y p c q d → (∀ i, w1.cell? ⟨w.heap.size, i, none⟩ = (#[.string x.text, .slice p x.oids.length c] : Array Value)[i]?) ∧ (∀ i, w1.cell? ⟨w.heap.size + 1, i, none⟩ = (#[.string y.text, .slice q y.oids.length d] : Array Value)[i]?)) := Lib.hid (fun w1 H => H.cells)
  have HF := Lib.hid (fun (w0 : World) => fewK_any x p c w0)
  have HG := Lib.hid (fun (w0 : World) => fewK_any y q d w0)
  have HO := Lib.hid (fun (hf : fewK x = true) (w0 : World) (H : SkA w w0 x y p c q d) => keyOf_any _ x p c w0 H.l1 (by have := (fewK_parts hf).1; omega) (by have := (fewK_parts hf).2; omega))
  have HP := Lib.hid (fun (hf : fewK y = true) (w0 : World) (H : SkA w w0 x y p c q d) => keyOf_any _ y q d w0 H.l2 (by have := (fewK_parts hf).1; omega) (by have := (fewK_parts hf).2; omega))
  have HS := Lib.hid (fun (w0 : World) (H : SkA w w0 x y p c q d) => stSame_any _ _ x y p q c d w0 H.l1 H.l2)
  have HU := Lib.hid (fun (w0 : World) (g : Nat) (p9 : Option Addr) (c9 : Nat) (H1 : SkB w0 g x p9 c9) (H : SkA w w0 x y p c q d) => stSame_any _ _ x x p9 p c9 c w0 H1.l H.l1)
  rw [stEq_self] at HU
  have HX := Lib.hid (fun (hf : fairK x = true) (hw : fewK x = true) (w0 : World) => split_any (keyV x) w0 (by
    have e : keyV x = strOf (keyB x) := by unfold keyV; rw [if_pos hf]
    have h1 := numsK_len (putV [] (x.text.size : Int) 4 ++ x.text.data.toList) x.oids x.oids.length (Nat.le_refl _)
    rw [numsK_all] at h1
    have h2 := putV_len4 [] (x.text.size : Int) 4
    have h3 := fewK_parts hw
    rw [e, size_data, data_strOf]
    show (numsB _ _).length ≤ _
    rw [List.length_append, ← size_data] at h1
    simp only [List.length_nil] at h2
    omega))
  have Hsp : Hid (fairK x = true → splitK (keyV x).data.toList = (x, true)) := Lib.hid (fun hf => by
    have e : keyV x = strOf (keyB x) := by unfold keyV; rw [if_pos hf]
    rw [e, data_strOf]
    exact split_key hf)
  have Hkx := Lib.hid (key_some x)
  have Hky := Lib.hid (key_some y)
  have Hsm : Hid (fairK x = true → fairK y = true → ((keyV x).toList == (keyV y).toList) = stEq x y) := Lib.hid (fun h1 h2 => key_same h1 h2)
  unfold SplitR at HX
  generalize keyV x = kx at *
  generalize keyV y = ky at *
  generalize stEq x y = sv at *
  generalize splitK kx.data.toList = sp at *
  generalize fewK x = fx at *
  generalize fewK y = fy at *
  generalize fairK x = rx at *
  generalize fairK y = ry at *
  obtain ⟨xt, xo⟩ := x
  obtain ⟨yt, yo⟩ := y
  clear hx hy
  unfold stArg at *
  dsimp only at *
  go_enter Try.func4, Try.ntmps4
  go_upto_region 1 with (fail)
  generalize (w.alloc (.cells #[.string xt, .slice p xo.length c] 24)).alloc (.cells #[.string yt, .slice q yo.length d] 24) = w1 at *
  obtain ⟨c1, d1⟩ := HC.out w1 H0.out
  go_wp2_with fail
  refine (HF.out w1).mono ?_
  rintro e w2 ⟨rfl, hb⟩
  have H2 := Lib.hid (H0.out.step hb)
  obtain ⟨c2, d2⟩ := HC.out w2 H2.out
  clear hb c1 d1 HF H0
  cases fx with
  | false =>
    go_wp2_with (first | (go_at_call 11; refine (Haw.out _).mono ?_; rintro e wz ⟨rfl, hb⟩; have HZ := Lib.hid (H2.out.step hb); clear hb))
    go_ret
    exact ⟨rfl, HZ.out.bel⟩
  | true =>
    have HO' := Lib.hid (HO.out rfl)
    clear HO
    go_wp2_with fail
    refine (HG.out w2).mono ?_
    rintro e w3 ⟨rfl, hb⟩
    have H3 := Lib.hid (H2.out.step hb)
    obtain ⟨c3, d3⟩ := HC.out w3 H3.out
    clear hb c2 d2 HG H2
    cases fy with
    | false =>
      go_wp2_with (first | (go_at_call 11; refine (Haw.out _).mono ?_; rintro e wz ⟨rfl, hb⟩; have HZ := Lib.hid (H3.out.step hb); clear hb))
      go_ret
      exact ⟨rfl, HZ.out.bel⟩
    | true =>
      have HP' := Lib.hid (HP.out rfl)
      clear HP
      go_wp2_with fail
      refine (HO'.out w3 H3.out).mono ?_
      rintro e w4 ⟨rfl, hb⟩
      have H4 := Lib.hid (H3.out.step hb)
      obtain ⟨c4, d4⟩ := HC.out w4 H4.out
      clear hb c3 d3 H3
      cases rx with
      | false =>
        have hk0 : kx.toList = [] := by have := Hkx.out; simpa using this
        go_wp2_with (first | (go_at_call 11; refine (Haw.out _).mono ?_; rintro e wz ⟨rfl, hb⟩; have HZ := Lib.hid (H4.out.step hb); clear hb))
        go_ret
        exact ⟨rfl, HZ.out.bel⟩
      | true =>
        have hk0 : ¬ kx.toList = [] := by have := Hkx.out; simpa using this
        go_wp2_with fail
        refine (HP'.out w4 H4.out).mono ?_
        rintro e w5 ⟨rfl, hb⟩
        have H5 := Lib.hid (H4.out.step hb)
        obtain ⟨c5, d5⟩ := HC.out w5 H5.out
        clear hb c4 d4 H4
        cases ry with
        | false =>
          have hk2 : ky.toList = [] := by have := Hky.out; simpa using this
          go_wp2_with (first | (go_at_call 11; refine (Haw.out _).mono ?_; rintro e wz ⟨rfl, hb⟩; have HZ := Lib.hid (H5.out.step hb); clear hb))
          go_ret
          exact ⟨rfl, HZ.out.bel⟩
        | true =>
          have hk2 : ¬ ky.toList = [] := by have := Hky.out; simpa using this
          have hk0b : kx.toList.isEmpty = false := by simpa using hk0
          have hk2b : ky.toList.isEmpty = false := by simpa using hk2
          have HX' := Lib.hid (HX.out (by first | rfl | trivial) (by first | rfl | trivial))
          rw [Hsp.out (by first | rfl | trivial)] at HX'
          dsimp only at HX'
          have hsv : (kx.toList == ky.toList) = sv := Hsm.out (by first | rfl | trivial) (by first | rfl | trivial)
          have Hsv := Lib.hid hsv
          clear HX Hsp Hsm Hkx Hky hsv
          go_upto_region 3 with fail
          clear hk0 hk2 hk0b hk2b
          go_wp2_with fail
          refine (HO'.out w5 H5.out).mono ?_
          rintro e w6 ⟨rfl, hb⟩
          have H6 := Lib.hid (H5.out.step hb)
          clear hb c5 d5 H5
          go_wp2_with fail
          refine (HX'.out w6).mono ?_
          rintro e w7 ⟨p7, c7, rfl, hs7, hb7⟩
          have hal : Below w7.heap.size w7 (w7.alloc (.cells #[.string xt, .slice p7 xo.length c7] 24)) := (Below.refl _ _).alloc (Nat.le_refl _) _
          have H8 := Lib.hid ((H6.out.step hb7).step hal)
          have HB8 : Hid (SkB (w7.alloc (.cells #[.string xt, .slice p7 xo.length c7] 24)) w7.heap.size ⟨xt, xo⟩ p7 c7) := Lib.hid (SkB.new (s := ⟨xt, xo⟩) hs7)
          clear hs7 hb7 hal HX' H6
          go_upto_region 4 with fail
          generalize w7.alloc (.cells #[.string xt, .slice p7 xo.length c7] 24) = w8 at *
          generalize w7.heap.size = g7 at *
          have hS1 := HC.out w8 H8.out
          have hS2 := HB8.out.cell
          dsimp only at hS2
          have H9 := Lib.hid (H8.out.step (bel_drewN1' w8))
          have HB9 := Lib.hid (HB8.out.step (bel_drewN1' w8))
          have hsv := Hsv.out
          clear H8 HB8
          go_region_held3 (fun w' => ((∀ i, w'.cell? ⟨w.heap.size, i, none⟩ = (#[.string xt, .slice p xo.length c] : Array Value)[i]?) ∧ (∀ i, w'.cell? ⟨w.heap.size + 1, i, none⟩ = (#[.string yt, .slice q yo.length d] : Array Value)[i]?)) ∧ (∀ i, w'.cell? ⟨g7, i, none⟩ = (#[.string xt, .slice p7 xo.length c7] : Array Value)[i]?))
            (first | exact ⟨hS1, hS2⟩ | exact ⟨HC.out _ HA.out, HBA.out.cell⟩ | exact ⟨HC.out _ HE.out, HBE.out.cell⟩ | exact ⟨HC.out _ HI.out, HBI.out.cell⟩ | exact ⟨HC.out _ HJ.out, HBJ.out.cell⟩ | exact ⟨HC.out _ HK.out, HBK.out.cell⟩ | go_keep)
            (first
              | (go_at_call 16; refine (HS.out _ HI.out).mono ?_; rintro e wJ ⟨rfl, hb⟩; have HJ := Lib.hid (HI.out.step hb); have HBJ := Lib.hid (HBI.out.step hb); clear hb)
              | (go_at_call 16; refine (HU.out _ g7 p7 c7 HB9.out H9.out).mono ?_; rintro e wA ⟨rfl, hb⟩; have HA := Lib.hid (H9.out.step hb); have HBA := Lib.hid (HB9.out.step hb); clear hb)
              | (go_at_call 14; refine (HP'.out _ HE.out).mono ?_; rintro e wI ⟨rfl, hb⟩; have HI := Lib.hid (HE.out.step hb); have HBI := Lib.hid (HBE.out.step hb); clear hb)
              | (go_at_call 14; refine (HO'.out _ HA.out).mono ?_; rintro e wE ⟨rfl, hb⟩; have HE := Lib.hid (HA.out.step hb); have HBE := Lib.hid (HBA.out.step hb); clear hb)
              | (go_at_call 11; refine (Haw.out _).mono ?_; rintro e wK ⟨rfl, hb⟩; have HK := Lib.hid (HJ.out.step hb); have HBK := Lib.hid (HBJ.out.step hb); clear hb))
          go_wp2
          go_ret
          exact ⟨rfl, HK.out.bel⟩

theorem keyTells_read (s t : Array Value) (x y : StV) (k : ByteArray) (w : World) (h : StS (fun k => k < w.heap.size) w s.toList x) (g : StS (fun k => k < w.heap.size) w t.toList y) :
    Calls Try.prog 3 #[.agg s, .agg t, .string k] w fun e w' => e = .returned (.bool true) ∧ Below w.heap.size w w' := by
  obtain ⟨p, c, hs, hl⟩ := h
  obtain ⟨q, d, ks, kl⟩ := g
  obtain rfl : s = #[.string x.text, .slice p x.oids.length c] := Array.toList_inj.1 hs
  obtain rfl : t = #[.string y.text, .slice q y.oids.length d] := Array.toList_inj.1 ks
  exact keyTells_walk x y p q c d k w hl kl
theorem keyBack_read (s t : Array Value) (x y : StV) (w : World) (h : StS (fun k => k < w.heap.size) w s.toList x) (g : StS (fun k => k < w.heap.size) w t.toList y) :
    Calls Try.prog 4 #[.agg s, .agg t] w fun e w' => e = .returned (.bool true) ∧ Below w.heap.size w w' := by
  obtain ⟨p, c, hs, hl⟩ := h
  obtain ⟨q, d, ks, kl⟩ := g
  obtain rfl : s = #[.string x.text, .slice p x.oids.length c] := Array.toList_inj.1 hs
  obtain rfl : t = #[.string y.text, .slice q y.oids.length d] := Array.toList_inj.1 ks
  exact keyBack_walk x y p q c d w hl kl

end Go.Proofs.Ytldjfmddjbdciaa
