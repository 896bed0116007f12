/-
  Statements as keys (layer 12): the walks of KeyTells and KeyBack.
-/
import Derived.Test.YtldjfmddjbdciaaKeJ
import Derived.Deep.RegionHeld3
namespace Go.Proofs.Ytldjfmddjbdciaa
open Go.RowKit
set_option linter.unusedVariables false
set_option linter.unusedSimpArgs false

/-- Two statements in their blocks. -/
structure SkA (w0 w : World) (x y : StV) (p : Option Addr) (c : Nat) (q : Option Addr) (d : Nat) : Prop where
  b1 : Blk w w0.heap.size 24 #[.string x.text, .slice p x.oids.length c]
  b2 : Blk w (w0.heap.size + 1) 24 #[.string y.text, .slice q y.oids.length d]
  l1 : SliceS 1 IntU (fun _ => True) w [.slice p x.oids.length c] x.oids
  l2 : SliceS 1 IntU (fun _ => True) w [.slice q y.oids.length d] y.oids
  bel : Below w0.heap.size w0 w
/-- A statement that was made, in its block. -/
structure SkB (w : World) (g : Nat) (s : StV) (p : Option Addr) (c : Nat) : Prop where
  b : Blk w g 24 #[.string s.text, .slice p s.oids.length c]
  l : SliceS 1 IntU (fun _ => True) w [.slice p s.oids.length c] s.oids
section
variable {w0 w w' : World} {x y s : StV} {p q : Option Addr} {c d g : Nat}
theorem SkA.step (H : SkA w0 w x y p c q d) (hb : Below w.heap.size w w') : SkA w0 w' x y p c q d :=
  ⟨H.b1.below hb H.b1.lt, H.b2.below hb H.b2.lt, H.l1.below IntU.still hb, H.l2.below IntU.still hb, H.bel.trans (hb.mono H.bel.size)⟩
theorem SkA.cells (H : SkA w0 w x y p c q d) : (∀ i, w.cell? ⟨w0.heap.size, i, none⟩ = (#[.string x.text, .slice p x.oids.length c] : Array Value)[i]?) ∧ (∀ i, w.cell? ⟨w0.heap.size + 1, i, none⟩ = (#[.string y.text, .slice q y.oids.length d] : Array Value)[i]?) := ⟨H.b1.cell, H.b2.cell⟩
theorem SkA.start {S S' : Nat → Prop} {w : World} (h1 : SliceS 1 IntU S w [.slice p x.oids.length c] x.oids) (h2 : SliceS 1 IntU S' w [.slice q y.oids.length d] y.oids) :
    SkA w ((w.alloc (.cells #[.string x.text, .slice p x.oids.length c] 24)).alloc (.cells #[.string y.text, .slice q y.oids.length d] 24)) x y p c q d := by
  have e1 : (w.alloc (.cells #[.string x.text, .slice p x.oids.length c] 24)).heap.size = w.heap.size + 1 := by simp
  have hb : Below w.heap.size w ((w.alloc (.cells #[.string x.text, .slice p x.oids.length c] 24)).alloc (.cells #[.string y.text, .slice q y.oids.length d] 24)) := ((Below.refl _ _).alloc (Nat.le_refl _) _).alloc (by simp) _
  refine ⟨(Blk.new _ _ _).alloc _, ?_, (h1.below IntU.still hb).weak IntU.still (fun _ _ _ => trivial), (h2.below IntU.still hb).weak IntU.still (fun _ _ _ => trivial), hb⟩
  have := Blk.new (w.alloc (.cells #[.string x.text, .slice p x.oids.length c] 24)) 24 #[.string y.text, .slice q y.oids.length d]
  rw [e1] at this
  exact this
theorem SkB.step (H : SkB w g s p c) (hb : Below w.heap.size w w') : SkB w' g s p c := ⟨H.b.below hb H.b.lt, H.l.below IntU.still hb⟩
theorem SkB.cell (H : SkB w g s p c) : (∀ i, w.cell? ⟨g, i, none⟩ = (#[.string s.text, .slice p s.oids.length c] : Array Value)[i]?) := H.b.cell
theorem SkB.new {S : Nat → Prop} {w : World} (h : SliceS 1 IntU S w [.slice p s.oids.length c] s.oids) : SkB (w.alloc (.cells #[.string s.text, .slice p s.oids.length c] 24)) w.heap.size s p c :=
  ⟨Blk.new _ _ _, (h.below IntU.still ((Below.refl _ _).alloc (Nat.le_refl _) _)).weak IntU.still (fun _ _ _ => trivial)⟩
end

set_option maxRecDepth 100000 in
set_option maxHeartbeats 4000000 in
theorem keyTells_walk (x y : StV) (p q : Option Addr) (c d : Nat) (k : ByteArray) (w : World) (hx : SliceS 1 IntU (fun k => k < w.heap.size) w [.slice p x.oids.length c] x.oids) (hy : SliceS 1 IntU (fun k => k < w.heap.size) w [.slice q y.oids.length d] y.oids) :
    Calls Try.prog 3 #[stArg x p c, stArg y q d, .string k] w fun e w' => e = .returned (.bool true) ∧ Below w.heap.size w w' := by
  have H0 := Lib.hid (SkA.start hx hy)
  have Haw := Lib.hid (fun w0 => keAwake w0)
  have HC : Hid (∀ w1 : World, SkA w w1 x y p c q d → (∀ i, w1.cell? ⟨w.heap.size, i, none⟩ = (#[.string x.text, .slice p x.oids.length c] : Array Value)[i]?) ∧ (∀ i, w1.cell? ⟨w.heap.size + 1, i, none⟩ = (#[.string y.text, .slice q y.oids.length d] : Array Value)[i]?)) := Lib.hid (fun w1 H => H.cells)
  have HF := Lib.hid (fun (w0 : World) => fewK_any x p c w0)
  have HG := Lib.hid (fun (w0 : World) => fewK_any y q d w0)
  have HO := Lib.hid (fun (hf : fewK x = true) (w0 : World) (H : SkA w w0 x y p c q d) => keyOf_any _ x p c w0 H.l1 (by have := (fewK_parts hf).1; omega) (by have := (fewK_parts hf).2; omega))
  have HR := Lib.hid (fun (hf : fewK x = true) (w0 : World) (H : SkA w w0 x y p c q d) => rkeyOf_any _ x p c w0 H.l1 (by have := (fewK_parts hf).1; omega) (by have := (fewK_parts hf).2; omega))
  have HS := Lib.hid (fun (w0 : World) (H : SkA w w0 x y p c q d) => stSame_any _ _ x y p q c d w0 H.l1 H.l2)
  have HT := Lib.hid (fun (w0 : World) (H : SkA w w0 x y p c q d) => rstSame_any _ _ x y p q c d w0 H.l1 H.l2)
  have HX := Lib.hid (fun (hk : k.size ≤ 100000) (w0 : World) => split_any k w0 hk)
  have HY := Lib.hid (fun (hk : k.size ≤ 100000) (w0 : World) => rsplit_any k w0 hk)
  unfold SplitR at HX HY
  generalize keyV x = kv at *
  generalize stEq x y = sv at *
  generalize splitK k.data.toList = sp at *
  generalize fewK x = fx at *
  generalize fewK y = fy at *
  obtain ⟨s, ok⟩ := sp
  have HU := Lib.hid (fun (w0 : World) (g h : Nat) (p9 q9 : Option Addr) (c9 d9 : Nat) (H1 : SkB w0 g s p9 c9) (H2 : SkB w0 h s q9 d9) => rstSame_any _ _ s s p9 q9 c9 d9 w0 H1.l H2.l)
  rw [stEq_self] at HU
  dsimp only at HX HY
  obtain ⟨xt, xo⟩ := x
  obtain ⟨yt, yo⟩ := y
  obtain ⟨st, so⟩ := s
  clear hx hy
  unfold stArg at *
  dsimp only at *
  go_enter Try.func3, Try.ntmps3
  go_upto_region 1 with (fail)
  generalize (w.alloc (.cells #[.string xt, .slice p xo.length c] 24)).alloc (.cells #[.string yt, .slice q yo.length d] 24) = w1 at *
  obtain ⟨c1, d1⟩ := HC.out w1 H0.out
  go_wp2_with fail
  refine (HF.out w1).mono ?_
  rintro e w2 ⟨rfl, hb⟩
  have H2 := Lib.hid (H0.out.step hb)
  obtain ⟨c2, d2⟩ := HC.out w2 H2.out
  clear hb c1 d1 HF H0
  cases fx with
  | false =>
    go_wp2_with (first | (go_at_call 11; refine (Haw.out _).mono ?_; rintro e wz ⟨rfl, hb⟩; have HZ := Lib.hid (H2.out.step hb); clear hb))
    go_ret
    exact ⟨rfl, HZ.out.bel⟩
  | true =>
    have HO' := Lib.hid (HO.out rfl)
    have HR' := Lib.hid (HR.out rfl)
    clear HO HR
    go_wp2_with fail
    refine (HG.out w2).mono ?_
    rintro e w3 ⟨rfl, hb⟩
    have H3 := Lib.hid (H2.out.step hb)
    obtain ⟨c3, d3⟩ := HC.out w3 H3.out
    clear hb c2 d2 HG H2
    cases fy with
    | false =>
      go_wp2_with (first | (go_at_call 11; refine (Haw.out _).mono ?_; rintro e wz ⟨rfl, hb⟩; have HZ := Lib.hid (H3.out.step hb); clear hb))
      go_ret
      exact ⟨rfl, HZ.out.bel⟩
    | true =>
      by_cases hk : (2000 : Int) < (k.size : Int)
      · go_wp2_with (first | (go_at_call 11; refine (Haw.out _).mono ?_; rintro e wz ⟨rfl, hb⟩; have HZ := Lib.hid (H3.out.step hb); clear hb))
        go_ret
        exact ⟨rfl, HZ.out.bel⟩
      · have HX' := Lib.hid (HX.out (by omega))
        have HY' := Lib.hid (HY.out (by omega))
        clear HX HY
        go_wp2_with fail
        refine (HX'.out w3).mono ?_
        rintro e w4 ⟨p4, c4, rfl, hs4, hb4⟩
        have hal : Below w4.heap.size w4 (w4.alloc (.cells #[.string st, .slice p4 so.length c4] 24)) := (Below.refl _ _).alloc (Nat.le_refl _) _
        have H4 := Lib.hid ((H3.out.step hb4).step hal)
        have HB4 : Hid (SkB (w4.alloc (.cells #[.string st, .slice p4 so.length c4] 24)) w4.heap.size ⟨st, so⟩ p4 c4) := Lib.hid (SkB.new (s := ⟨st, so⟩) hs4)
        clear hs4 hb4 hal c3 d3 HX' H3
        go_upto_region 4 with fail
        generalize w4.alloc (.cells #[.string st, .slice p4 so.length c4] 24) = w5 at *
        generalize w4.heap.size = g4 at *
        go_wp2_with fail
        refine (HY'.out w5).mono ?_
        rintro e w6 ⟨p6, c6, rfl, hs6, hb6⟩
        have hal : Below w6.heap.size w6 (w6.alloc (.cells #[.string st, .slice p6 so.length c6] 24)) := (Below.refl _ _).alloc (Nat.le_refl _) _
        have H6 := Lib.hid ((H4.out.step hb6).step hal)
        have HB6 := Lib.hid ((HB4.out.step hb6).step hal)
        have HD6 : Hid (SkB (w6.alloc (.cells #[.string st, .slice p6 so.length c6] 24)) w6.heap.size ⟨st, so⟩ p6 c6) := Lib.hid (SkB.new (s := ⟨st, so⟩) hs6)
        clear hs6 hb6 hal HY' H4 HB4
        go_upto_region 5 with fail
        generalize w6.alloc (.cells #[.string st, .slice p6 so.length c6] 24) = w7 at *
        generalize w6.heap.size = g6 at *
        have hS1 := HC.out w7 H6.out
        have hS2 := HB6.out.cell
        have hS3 := HD6.out.cell
        dsimp only at hS2 hS3
        have H8 := Lib.hid (H6.out.step (bel_drewN1' w7))
        have HB8 := Lib.hid (HB6.out.step (bel_drewN1' w7))
        have HD8 := Lib.hid (HD6.out.step (bel_drewN1' w7))
        clear H6 HB6 HD6
        go_region_held3 (fun w' => ((∀ i, w'.cell? ⟨w.heap.size, i, none⟩ = (#[.string xt, .slice p xo.length c] : Array Value)[i]?) ∧ (∀ i, w'.cell? ⟨w.heap.size + 1, i, none⟩ = (#[.string yt, .slice q yo.length d] : Array Value)[i]?)) ∧ (∀ i, w'.cell? ⟨g4, i, none⟩ = (#[.string st, .slice p4 so.length c4] : Array Value)[i]?) ∧ (∀ i, w'.cell? ⟨g6, i, none⟩ = (#[.string st, .slice p6 so.length c6] : Array Value)[i]?))
          (first | exact ⟨hS1, hS2, hS3⟩ | exact ⟨HC.out _ H9.out, HB9.out.cell, HD9.out.cell⟩ | exact ⟨HC.out _ HA.out, HBA.out.cell, HDA.out.cell⟩ | exact ⟨HC.out _ HE.out, HBE.out.cell, HDE.out.cell⟩ | exact ⟨HC.out _ HI.out, HBI.out.cell, HDI.out.cell⟩ | exact ⟨HC.out _ HJ.out, HBJ.out.cell, HDJ.out.cell⟩ | exact ⟨HC.out _ HK.out, HBK.out.cell, HDK.out.cell⟩ | go_keep)
          (first
            | (go_at_call 14; refine (HO'.out _ H8.out).mono ?_; rintro e w9 ⟨rfl, hb⟩; have H9 := Lib.hid (H8.out.step hb); have HB9 := Lib.hid (HB8.out.step hb); have HD9 := Lib.hid (HD8.out.step hb); clear hb)
            | (go_at_call 15; refine (HR'.out _ H9.out).mono ?_; rintro e wA ⟨rfl, hb⟩; have HA := Lib.hid (H9.out.step hb); have HBA := Lib.hid (HB9.out.step hb); have HDA := Lib.hid (HD9.out.step hb); clear hb)
            | (go_at_call 16; refine (HS.out _ HA.out).mono ?_; rintro e wE ⟨rfl, hb⟩; have HE := Lib.hid (HA.out.step hb); have HBE := Lib.hid (HBA.out.step hb); have HDE := Lib.hid (HDA.out.step hb); clear hb)
            | (go_at_call 17; refine (HU.out _ g4 g6 p4 p6 c4 c6 HBI.out HDI.out).mono ?_; rintro e wJ ⟨rfl, hb⟩; have HJ := Lib.hid (HI.out.step hb); have HBJ := Lib.hid (HBI.out.step hb); have HDJ := Lib.hid (HDI.out.step hb); clear hb)
            | (go_at_call 17; refine (HT.out _ HE.out).mono ?_; rintro e wI ⟨rfl, hb⟩; have HI := Lib.hid (HE.out.step hb); have HBI := Lib.hid (HBE.out.step hb); have HDI := Lib.hid (HDE.out.step hb); clear hb)
            | (go_at_call 11; refine (Haw.out _).mono ?_; rintro e wK ⟨rfl, hb⟩; have HK := Lib.hid (HJ.out.step hb); have HBK := Lib.hid (HBJ.out.step hb); have HDK := Lib.hid (HDJ.out.step hb); clear hb))
        go_wp2
        go_ret
        exact ⟨rfl, HK.out.bel⟩

end Go.Proofs.Ytldjfmddjbdciaa
