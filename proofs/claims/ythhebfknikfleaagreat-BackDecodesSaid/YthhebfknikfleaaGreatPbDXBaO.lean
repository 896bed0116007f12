/-
  Messages of servers (layer 7): back.Encode by kinds.
-/
import Derived.Test.YthhebfknikfleaaGreatPbDP6
import Derived.Test.YthhebfknikfleaaGreatPbDP7
import Derived.Test.YthhebfknikfleaaGreatPbDP10
namespace Go.Proofs.YthhebfknikfleaaGreat
open Go.RowKit
set_option linter.unusedVariables false
set_option linter.unusedSimpArgs false

/-- A message is short. -/
structure SmallB (x : BaV) : Prop where
  t : x.tag.size ≤ 100000
  n : x.name.size ≤ 100000
  v : x.value.size ≤ 100000
  o : x.oids.length ≤ 100000
  c : x.cols.length ≤ 1000
  cn : ∀ c ∈ x.cols, c.name.size ≤ 10000
  r : x.row.length ≤ 1000
  rb : ∀ c ∈ x.row, c.bytes.length ≤ 2000
  f : x.fields.length ≤ 1000
  ft : ∀ c ∈ x.fields, c.text.size ≤ 10000

/-- What Encode leaves. -/
def EncB (x : BaV) (w : World) (e : Ending) (w' : World) : Prop :=
  ∃ v, e = .returned (.tuple #[.agg #[.int .u8 (encB x).1, v], .int .i64 (encB x).2.2]) ∧ OwnBR w.heap.size w' v (encB x).2.1 ∧ Below w.heap.size w w'

/-- The message and the result in their blocks. -/
structure EbI (w0 w : World) (x : BaV) (a : BaP) : Prop where
  b : Blk w w0.heap.size 39 (baCells x a)
  m : Blk w (w0.heap.size + 1) 42 #[.int .u8 0, .slice none 0 0]
  l : BaL (fun k => k < w0.heap.size) w x a
  bel : Below w0.heap.size w0 w
section
variable {w0 w w' : World} {x : BaV} {a : BaP}
theorem EbI.step2 (h : EbI w0 w x a) (hb : Below (w0.heap.size + 2) w w') : EbI w0 w' x a :=
  ⟨h.b.below hb (by omega), h.m.below hb (by omega), h.l.keep (Kept.below hb (fun k _ hs => ⟨hs, by omega⟩)), h.bel.trans (hb.mono (by omega))⟩
theorem EbI.step (h : EbI w0 w x a) (hb : Below w.heap.size w w') : EbI w0 w' x a := by
  have h2 := h.m.lt
  exact h.step2 (hb.mono (by omega))
theorem EbI.start {S : Nat → Prop} {w : World} (h : BaL S w x a) : EbI w ((w.alloc (.cells (baCells x a) 39)).alloc (.cells #[.int .u8 0, .slice none 0 0] 42)) x a := by
  have hb : Below w.heap.size w ((w.alloc (.cells (baCells x a) 39)).alloc (.cells #[.int .u8 0, .slice none 0 0] 42)) := ((Below.refl _ _).alloc (Nat.le_refl _) _).alloc (by simp) _
  refine ⟨(Blk.new _ _ _).alloc _, ?_, ((h.weak (S' := fun k => k < w.heap.size) (fun k hk _ => hk)).below hb), hb⟩
  have := Blk.new (w.alloc (.cells (baCells x a) 39)) 42 #[.int .u8 0, .slice none 0 0]
  simpa using this
end
theorem set_alloc_commB (w : World) (p : Addr) (u : Value) (o : Obj) (h : p.block < w.heap.size) : (w.alloc o).setCell p u = (w.setCell p u).alloc o := by
  simp only [World.setCell, World.alloc]
  congr 1
  apply Array.ext
  · simp
  · intro i h1 h2
    simp only [Array.getElem_modify, Array.getElem_push, Array.size_modify]
    by_cases e : p.block = i
    · subst e
      simp [h]
    · simp [e]
theorem own_byteB (w : World) (B : Nat) (k : Int) (hB : B ≤ w.heap.size) (h0 : 0 ≤ k) (h1 : k < 256) : OwnBR B (w.alloc (.cells #[.int .u8 k] 5)) (.slice (some ⟨w.heap.size, 0, none⟩) 1 1) [UInt8.ofNat k.toNat] := by
  have h := OwnR.new (e := 5) (size := 1) B w 1 #[.int .u8 k] (by omega) (by simp [maxLen]) rfl hB
  have e : bytesV [UInt8.ofNat k.toNat] = [.int .u8 k] := by
    have : ((UInt8.ofNat k.toNat).toNat : Int) = k := by simp; omega
    simp only [bytesV, byteV, List.map_cons, List.map_nil, this]
  unfold OwnBR
  rw [e]
  exact h
theorem listB_lenB (b : List UInt8) (l : List Int) (size : Nat) : (listB b l size).length ≤ b.length + 4 + 4 * l.length := by
  rw [← listP_all]
  exact listP_len b l size _ (Nat.le_refl _)
theorem rowB_lenB (b : List UInt8) (l : List CeV) (m : Nat) (hm : ∀ c ∈ l, c.bytes.length ≤ m) : (rowB b l).length ≤ b.length + 4 + (m + 4) * l.length := by
  rw [← rowP_all]
  exact rowP_len b l m hm _ (Nat.le_refl _)
theorem nilLen : ([] : List UInt8).length = 0 := rfl

set_option maxRecDepth 100000 in
set_option maxHeartbeats 4000000 in
theorem benc_no (S : Nat → Prop) (x : BaV) (a : BaP) (w : World) (h : BaL S w x a) (hfb : BaB x) (hsm : SmallB x) (hck : checkB x ≠ 0) : Calls Tryz.prog 17 #[baArg x a] w (EncB x w) := by
  have H0 := Lib.hid (EbI.start h)
  have HK := Lib.hid (fun (w0 : World) (H : EbI w w0 x a) => bcheck_any _ x a w0 H.l hfb)
  have Hev : Hid (encB x = (0, [], checkB x)) := Lib.hid (by unfold encB; rw [if_neg hck])
  generalize checkB x = cv at *
  have Hsm := Lib.hid hsm
  have Hfb := Lib.hid hfb
  have HC : Hid (∀ w1 : World, EbI w w1 x a → (∀ i, w1.cell? ⟨w.heap.size, i, none⟩ = (baCells x a)[i]?) ∧ (∀ i, w1.cell? ⟨w.heap.size + 1, i, none⟩ = (#[.int .u8 0, .slice none 0 0] : Array Value)[i]?) ∧ (∀ i, w1.frozen? ⟨w.heap.size + 1, i, none⟩ = false)) := Lib.hid (fun w1 H => ⟨H.b.cell, H.m.cell, H.m.frozen⟩)
  unfold EncB
  rw [Hev.out]
  dsimp only
  obtain ⟨xk, xs, xt, xn, xv, xa, xb, xo, xc, xr, xf⟩ := x
  obtain ⟨apo, aco, apc, acc, apr, acr, apf, acf⟩ := a
  clear h hfb hsm
  unfold baArg at *
  unfold baCells at *
  dsimp only at *
  go_enter Tryz.func17, Tryz.ntmps17
  go_upto_region 1 with (fail)
  generalize (w.alloc (.cells #[.int .u8 xk, .int .u8 xs, .string xt, .string xn, .string xv, .int .i64 xa, .int .i64 xb, .slice apo xo.length aco, .slice apc xc.length acc, .slice apr xr.length acr, .slice apf xf.length acf] 39)).alloc (.cells #[.int .u8 0, .slice none 0 0] 42) = w1 at *
  obtain ⟨hc1, hm1, hf1⟩ := HC.out w1 H0.out
  go_wp2_with fail
  refine (HK.out w1 H0.out).mono ?_
  rintro e w2 ⟨rfl, hb2⟩
  have H2 := Lib.hid (H0.out.step hb2)
  obtain ⟨hc2, hm2, hf2⟩ := HC.out w2 H2.out
  clear hb2 hc1 hm1 hf1
  have hcb : (cv == 0) = false := by simpa using hck
  clear hck
  go_wp2_with fail
  have hM2 := H2.out
  have hT9 : Touch (fun k => k = w.heap.size + 1) w2 ((w2.setCell ⟨w.heap.size + 1, 0, none⟩ (.int .u8 0)).setCell ⟨w.heap.size + 1, 1, none⟩ (.slice none 0 0)) := ((Touch.refl (fun k => k = w.heap.size + 1) _).setCell (x := ⟨w.heap.size + 1, 0, none⟩) (fun _ => rfl) _).setCell (x := ⟨w.heap.size + 1, 1, none⟩) (fun _ => rfl) _
  have h9 := ((hM2.m.set_ 0 (.int .u8 0)).set_ 1 (.slice none 0 0))
  simp only [List.setIfInBounds_toArray, List.set_cons_succ, List.set_cons_zero] at h9
  have hcf := h9.cell
  have HB := Lib.hid (hM2.bel.trans (hT9.below hM2.bel.size (fun k hk => by omega)))
  clear hT9 h9 hM2 hc2 hm2 hf2
  refine bodyPost_ret (v := .tuple #[.agg #[.int .u8 0, .slice none 0 0], .int .i64 cv]) (by simp [results, Tryz.results17, go_sem, hcf]) rfl ?_
  exact ⟨_, rfl, OwnBR.empty _ _ _, HB.out⟩

set_option maxRecDepth 100000 in
set_option maxHeartbeats 4000000 in
theorem benc_R (S : Nat → Prop) (x : BaV) (a : BaP) (w : World) (h : BaL S w x a) (hfb : BaB x) (hsm : SmallB x) (hck : checkB x = 0) (hk : x.kind = 82) : Calls Tryz.prog 17 #[baArg x a] w (EncB x w) := by
  have H0 := Lib.hid (EbI.start h)
  have HK := Lib.hid (fun (w0 : World) (H : EbI w w0 x a) => bcheck_any _ x a w0 H.l hfb)
  have Hev : Hid (encB x = (82, putV [] 0 4, 0)) := Lib.hid (by unfold encB; rw [if_pos hck]; unfold bodyB; simp_all)
  rw [hck] at HK
  clear hck
  have Hsm := Lib.hid hsm
  have Hfb := Lib.hid hfb
  have HC : Hid (∀ w1 : World, EbI w w1 x a → (∀ i, w1.cell? ⟨w.heap.size, i, none⟩ = (baCells x a)[i]?) ∧ (∀ i, w1.cell? ⟨w.heap.size + 1, i, none⟩ = (#[.int .u8 0, .slice none 0 0] : Array Value)[i]?) ∧ (∀ i, w1.frozen? ⟨w.heap.size + 1, i, none⟩ = false)) := Lib.hid (fun w1 H => ⟨H.b.cell, H.m.cell, H.m.frozen⟩)
  unfold EncB
  rw [Hev.out]
  dsimp only
  obtain ⟨xk, xs, xt, xn, xv, xa, xb, xo, xc, xr, xf⟩ := x
  obtain ⟨apo, aco, apc, acc, apr, acr, apf, acf⟩ := a
  clear h hfb hsm
  unfold baArg at *
  unfold baCells at *
  dsimp only at *
  subst hk
  go_enter Tryz.func17, Tryz.ntmps17
  go_upto_region 1 with (fail)
  generalize (w.alloc (.cells #[.int .u8 82, .int .u8 xs, .string xt, .string xn, .string xv, .int .i64 xa, .int .i64 xb, .slice apo xo.length aco, .slice apc xc.length acc, .slice apr xr.length acr, .slice apf xf.length acf] 39)).alloc (.cells #[.int .u8 0, .slice none 0 0] 42) = w1 at *
  obtain ⟨hc1, hm1, hf1⟩ := HC.out w1 H0.out
  go_wp2_with fail
  refine (HK.out w1 H0.out).mono ?_
  rintro e w2 ⟨rfl, hb2⟩
  have H2 := Lib.hid (H0.out.step hb2)
  obtain ⟨hc2, hm2, hf2⟩ := HC.out w2 H2.out
  clear hb2 hc1 hm1 hf1
  have HW3 : Hid (WbO w2.heap.size (fun k => k < w2.heap.size) (w2.alloc (.cells #[.slice none 0 0] 91)) w2.heap.size []) := Lib.hid (WbO.new w2.heap.size w2 (Nat.le_refl _))
  have H3 := Lib.hid (H2.out.step ((Below.refl _ _).alloc (Nat.le_refl _) (.cells #[.slice none 0 0] 91)))
  have hz3 : w2.heap.size ≤ (w2.alloc (.cells #[.slice none 0 0] 91)).heap.size := by simp
  have hg2 : w.heap.size + 2 ≤ w2.heap.size := by have := H2.out.m.lt; omega
  go_upto_region 5 with fail
  generalize w2.alloc (.cells #[.slice none 0 0] 91) = w3 at *
  generalize w2.heap.size = wb at *
  clear hc2 hm2 hf2 H2
  obtain ⟨hc3, hm3, hf3⟩ := HC.out w3 H3.out
  have Ht := Lib.hid (bnum_any wb _ wb _ 0 4 w3 HW3.out hz3 (by simp only [nilLen] at *; omega))
  unfold WbR at Ht
  go_wp2_with fail
  refine Ht.out.mono ?_
  rintro e w4 ⟨rfl, ho, hT⟩
  have HW4 := Lib.hid ho
  have H4 := Lib.hid (H3.out.step2 (wbD_below hT (by omega) (by omega)))
  have hz4 : wb ≤ w4.heap.size := by have := hT.size; omega
  obtain ⟨hc4, hm4, hf4⟩ := HC.out w4 H4.out
  clear ho hT hc3 hm3 hf3 Ht
  obtain ⟨ve, hve⟩ := HW4.out
  have HV := Lib.hid hve
  obtain ⟨pe, ce, hpe, -⟩ := hve.own.slice
  obtain ⟨ne, hne⟩ : ∃ n, ve = .slice pe n ce := ⟨_, hpe⟩
  subst hne
  have hcw := HV.out.b.cell
  clear hpe hve
  go_upto_region 37 with fail
  go_region
  all_goals
    have hM2 := H4.out
    have hT9 : Touch (fun k => k = w.heap.size + 1) w4 ((w4.setCell ⟨w.heap.size + 1, 0, none⟩ (.int .u8 82)).setCell ⟨w.heap.size + 1, 1, none⟩ (.slice pe ne ce)).drew := (((Touch.refl (fun k => k = w.heap.size + 1) _).setCell (x := ⟨w.heap.size + 1, 0, none⟩) (fun _ => rfl) _).setCell (x := ⟨w.heap.size + 1, 1, none⟩) (fun _ => rfl) _).drew
    have h9 := ((hM2.m.set_ 0 (.int .u8 82)).set_ 1 (.slice pe ne ce)).drew
    simp only [List.setIfInBounds_toArray, List.set_cons_succ, List.set_cons_zero] at h9
    have HO := Lib.hid (OwnR.base (HV.out.own.touch hT9 (fun k hk e => by have := (HV.out.own.row k hk).1; omega)) (show w.heap.size ≤ wb by omega))
    have HB := Lib.hid (hM2.bel.trans (hT9.below hM2.bel.size (fun k hk => by omega)))
    have hcf := h9.cell
    clear hT9 h9 hM2 hc4 hm4 hf4 hcw
    go_wp2_with fail
    refine bodyPost_ret (v := .tuple #[.agg #[.int .u8 82, .slice pe ne ce], .int .i64 0]) (by simp [results, Tryz.results17, go_sem, hcf]) rfl ?_
    exact ⟨_, rfl, HO.out, HB.out⟩

set_option maxRecDepth 100000 in
set_option maxHeartbeats 4000000 in
theorem benc_S (S : Nat → Prop) (x : BaV) (a : BaP) (w : World) (h : BaL S w x a) (hfb : BaB x) (hsm : SmallB x) (hck : checkB x = 0) (hk : x.kind = 83) : Calls Tryz.prog 17 #[baArg x a] w (EncB x w) := by
  have H0 := Lib.hid (EbI.start h)
  have HK := Lib.hid (fun (w0 : World) (H : EbI w w0 x a) => bcheck_any _ x a w0 H.l hfb)
  have Hev : Hid (encB x = (83, strB (strB [] x.name) x.value, 0)) := Lib.hid (by unfold encB; rw [if_pos hck]; unfold bodyB; simp_all)
  rw [hck] at HK
  clear hck
  have Hsm := Lib.hid hsm
  have Hfb := Lib.hid hfb
  have HC : Hid (∀ w1 : World, EbI w w1 x a → (∀ i, w1.cell? ⟨w.heap.size, i, none⟩ = (baCells x a)[i]?) ∧ (∀ i, w1.cell? ⟨w.heap.size + 1, i, none⟩ = (#[.int .u8 0, .slice none 0 0] : Array Value)[i]?) ∧ (∀ i, w1.frozen? ⟨w.heap.size + 1, i, none⟩ = false)) := Lib.hid (fun w1 H => ⟨H.b.cell, H.m.cell, H.m.frozen⟩)
  unfold EncB
  rw [Hev.out]
  dsimp only
  obtain ⟨xk, xs, xt, xn, xv, xa, xb, xo, xc, xr, xf⟩ := x
  obtain ⟨apo, aco, apc, acc, apr, acr, apf, acf⟩ := a
  clear h hfb hsm
  unfold baArg at *
  unfold baCells at *
  dsimp only at *
  subst hk
  go_enter Tryz.func17, Tryz.ntmps17
  go_upto_region 1 with (fail)
  generalize (w.alloc (.cells #[.int .u8 83, .int .u8 xs, .string xt, .string xn, .string xv, .int .i64 xa, .int .i64 xb, .slice apo xo.length aco, .slice apc xc.length acc, .slice apr xr.length acr, .slice apf xf.length acf] 39)).alloc (.cells #[.int .u8 0, .slice none 0 0] 42) = w1 at *
  obtain ⟨hc1, hm1, hf1⟩ := HC.out w1 H0.out
  go_wp2_with fail
  refine (HK.out w1 H0.out).mono ?_
  rintro e w2 ⟨rfl, hb2⟩
  have H2 := Lib.hid (H0.out.step hb2)
  obtain ⟨hc2, hm2, hf2⟩ := HC.out w2 H2.out
  clear hb2 hc1 hm1 hf1
  have HW3 : Hid (WbO w2.heap.size (fun k => k < w2.heap.size) (w2.alloc (.cells #[.slice none 0 0] 91)) w2.heap.size []) := Lib.hid (WbO.new w2.heap.size w2 (Nat.le_refl _))
  have H3 := Lib.hid (H2.out.step ((Below.refl _ _).alloc (Nat.le_refl _) (.cells #[.slice none 0 0] 91)))
  have hz3 : w2.heap.size ≤ (w2.alloc (.cells #[.slice none 0 0] 91)).heap.size := by simp
  have hg2 : w.heap.size + 2 ≤ w2.heap.size := by have := H2.out.m.lt; omega
  go_upto_region 5 with fail
  generalize w2.alloc (.cells #[.slice none 0 0] 91) = w3 at *
  generalize w2.heap.size = wb at *
  clear hc2 hm2 hf2 H2
  obtain ⟨hc3, hm3, hf3⟩ := HC.out w3 H3.out
  have Ht := Lib.hid (btext_any wb _ wb _ xn w3 HW3.out hz3 (by simp only [nilLen] at *; omega) (by have := Hsm.out.n; dsimp only at this; omega))
  unfold WbR at Ht
  go_wp2_with fail
  refine Ht.out.mono ?_
  rintro e w4 ⟨rfl, ho, hT⟩
  have HW4 := Lib.hid ho
  have H4 := Lib.hid (H3.out.step2 (wbD_below hT (by omega) (by omega)))
  have hz4 : wb ≤ w4.heap.size := by have := hT.size; omega
  obtain ⟨hc4, hm4, hf4⟩ := HC.out w4 H4.out
  clear ho hT hc3 hm3 hf3 Ht
  have Ht := Lib.hid (btext_any wb _ wb _ xv w4 HW4.out hz4 (by have e1 := strB_len [] xn; have := Hsm.out.n; dsimp only at this; simp only [nilLen] at *; omega) (by have := Hsm.out.v; dsimp only at this; omega))
  unfold WbR at Ht
  go_wp2_with fail
  refine Ht.out.mono ?_
  rintro e w5 ⟨rfl, ho, hT⟩
  have HW5 := Lib.hid ho
  have H5 := Lib.hid (H4.out.step2 (wbD_below hT (by omega) (by omega)))
  have hz5 : wb ≤ w5.heap.size := by have := hT.size; omega
  obtain ⟨hc5, hm5, hf5⟩ := HC.out w5 H5.out
  clear ho hT hc4 hm4 hf4 Ht
  obtain ⟨ve, hve⟩ := HW5.out
  have HV := Lib.hid hve
  obtain ⟨pe, ce, hpe, -⟩ := hve.own.slice
  obtain ⟨ne, hne⟩ : ∃ n, ve = .slice pe n ce := ⟨_, hpe⟩
  subst hne
  have hcw := HV.out.b.cell
  clear hpe hve
  go_upto_region 37 with fail
  go_region
  all_goals
    have hM2 := H5.out
    have hT9 : Touch (fun k => k = w.heap.size + 1) w5 ((w5.setCell ⟨w.heap.size + 1, 0, none⟩ (.int .u8 83)).setCell ⟨w.heap.size + 1, 1, none⟩ (.slice pe ne ce)).drew := (((Touch.refl (fun k => k = w.heap.size + 1) _).setCell (x := ⟨w.heap.size + 1, 0, none⟩) (fun _ => rfl) _).setCell (x := ⟨w.heap.size + 1, 1, none⟩) (fun _ => rfl) _).drew
    have h9 := ((hM2.m.set_ 0 (.int .u8 83)).set_ 1 (.slice pe ne ce)).drew
    simp only [List.setIfInBounds_toArray, List.set_cons_succ, List.set_cons_zero] at h9
    have HO := Lib.hid (OwnR.base (HV.out.own.touch hT9 (fun k hk e => by have := (HV.out.own.row k hk).1; omega)) (show w.heap.size ≤ wb by omega))
    have HB := Lib.hid (hM2.bel.trans (hT9.below hM2.bel.size (fun k hk => by omega)))
    have hcf := h9.cell
    clear hT9 h9 hM2 hc5 hm5 hf5 hcw
    go_wp2_with fail
    refine bodyPost_ret (v := .tuple #[.agg #[.int .u8 83, .slice pe ne ce], .int .i64 0]) (by simp [results, Tryz.results17, go_sem, hcf]) rfl ?_
    exact ⟨_, rfl, HO.out, HB.out⟩

set_option maxRecDepth 100000 in
set_option maxHeartbeats 4000000 in
theorem benc_K (S : Nat → Prop) (x : BaV) (a : BaP) (w : World) (h : BaL S w x a) (hfb : BaB x) (hsm : SmallB x) (hck : checkB x = 0) (hk : x.kind = 75) : Calls Tryz.prog 17 #[baArg x a] w (EncB x w) := by
  have H0 := Lib.hid (EbI.start h)
  have HK := Lib.hid (fun (w0 : World) (H : EbI w w0 x a) => bcheck_any _ x a w0 H.l hfb)
  have Hev : Hid (encB x = (75, putV (putV [] x.n 4) x.m 4, 0)) := Lib.hid (by unfold encB; rw [if_pos hck]; unfold bodyB; simp_all)
  rw [hck] at HK
  clear hck
  have Hsm := Lib.hid hsm
  have Hfb := Lib.hid hfb
  have HC : Hid (∀ w1 : World, EbI w w1 x a → (∀ i, w1.cell? ⟨w.heap.size, i, none⟩ = (baCells x a)[i]?) ∧ (∀ i, w1.cell? ⟨w.heap.size + 1, i, none⟩ = (#[.int .u8 0, .slice none 0 0] : Array Value)[i]?) ∧ (∀ i, w1.frozen? ⟨w.heap.size + 1, i, none⟩ = false)) := Lib.hid (fun w1 H => ⟨H.b.cell, H.m.cell, H.m.frozen⟩)
  unfold EncB
  rw [Hev.out]
  dsimp only
  obtain ⟨xk, xs, xt, xn, xv, xa, xb, xo, xc, xr, xf⟩ := x
  obtain ⟨apo, aco, apc, acc, apr, acr, apf, acf⟩ := a
  clear h hfb hsm
  unfold baArg at *
  unfold baCells at *
  dsimp only at *
  subst hk
  go_enter Tryz.func17, Tryz.ntmps17
  go_upto_region 1 with (fail)
  generalize (w.alloc (.cells #[.int .u8 75, .int .u8 xs, .string xt, .string xn, .string xv, .int .i64 xa, .int .i64 xb, .slice apo xo.length aco, .slice apc xc.length acc, .slice apr xr.length acr, .slice apf xf.length acf] 39)).alloc (.cells #[.int .u8 0, .slice none 0 0] 42) = w1 at *
  obtain ⟨hc1, hm1, hf1⟩ := HC.out w1 H0.out
  go_wp2_with fail
  refine (HK.out w1 H0.out).mono ?_
  rintro e w2 ⟨rfl, hb2⟩
  have H2 := Lib.hid (H0.out.step hb2)
  obtain ⟨hc2, hm2, hf2⟩ := HC.out w2 H2.out
  clear hb2 hc1 hm1 hf1
  have HW3 : Hid (WbO w2.heap.size (fun k => k < w2.heap.size) (w2.alloc (.cells #[.slice none 0 0] 91)) w2.heap.size []) := Lib.hid (WbO.new w2.heap.size w2 (Nat.le_refl _))
  have H3 := Lib.hid (H2.out.step ((Below.refl _ _).alloc (Nat.le_refl _) (.cells #[.slice none 0 0] 91)))
  have hz3 : w2.heap.size ≤ (w2.alloc (.cells #[.slice none 0 0] 91)).heap.size := by simp
  have hg2 : w.heap.size + 2 ≤ w2.heap.size := by have := H2.out.m.lt; omega
  go_upto_region 5 with fail
  generalize w2.alloc (.cells #[.slice none 0 0] 91) = w3 at *
  generalize w2.heap.size = wb at *
  clear hc2 hm2 hf2 H2
  obtain ⟨hc3, hm3, hf3⟩ := HC.out w3 H3.out
  have Ht := Lib.hid (bnum_any wb _ wb _ xa 4 w3 HW3.out hz3 (by simp only [nilLen] at *; omega))
  unfold WbR at Ht
  go_wp2_with fail
  refine Ht.out.mono ?_
  rintro e w4 ⟨rfl, ho, hT⟩
  have HW4 := Lib.hid ho
  have H4 := Lib.hid (H3.out.step2 (wbD_below hT (by omega) (by omega)))
  have hz4 : wb ≤ w4.heap.size := by have := hT.size; omega
  obtain ⟨hc4, hm4, hf4⟩ := HC.out w4 H4.out
  clear ho hT hc3 hm3 hf3 Ht
  have Ht := Lib.hid (bnum_any wb _ wb _ xb 4 w4 HW4.out hz4 (by have e1 := putV_len4 [] xa 4; simp only [nilLen] at *; omega))
  unfold WbR at Ht
  go_wp2_with fail
  refine Ht.out.mono ?_
  rintro e w5 ⟨rfl, ho, hT⟩
  have HW5 := Lib.hid ho
  have H5 := Lib.hid (H4.out.step2 (wbD_below hT (by omega) (by omega)))
  have hz5 : wb ≤ w5.heap.size := by have := hT.size; omega
  obtain ⟨hc5, hm5, hf5⟩ := HC.out w5 H5.out
  clear ho hT hc4 hm4 hf4 Ht
  obtain ⟨ve, hve⟩ := HW5.out
  have HV := Lib.hid hve
  obtain ⟨pe, ce, hpe, -⟩ := hve.own.slice
  obtain ⟨ne, hne⟩ : ∃ n, ve = .slice pe n ce := ⟨_, hpe⟩
  subst hne
  have hcw := HV.out.b.cell
  clear hpe hve
  go_upto_region 37 with fail
  go_region
  all_goals
    have hM2 := H5.out
    have hT9 : Touch (fun k => k = w.heap.size + 1) w5 ((w5.setCell ⟨w.heap.size + 1, 0, none⟩ (.int .u8 75)).setCell ⟨w.heap.size + 1, 1, none⟩ (.slice pe ne ce)).drew := (((Touch.refl (fun k => k = w.heap.size + 1) _).setCell (x := ⟨w.heap.size + 1, 0, none⟩) (fun _ => rfl) _).setCell (x := ⟨w.heap.size + 1, 1, none⟩) (fun _ => rfl) _).drew
    have h9 := ((hM2.m.set_ 0 (.int .u8 75)).set_ 1 (.slice pe ne ce)).drew
    simp only [List.setIfInBounds_toArray, List.set_cons_succ, List.set_cons_zero] at h9
    have HO := Lib.hid (OwnR.base (HV.out.own.touch hT9 (fun k hk e => by have := (HV.out.own.row k hk).1; omega)) (show w.heap.size ≤ wb by omega))
    have HB := Lib.hid (hM2.bel.trans (hT9.below hM2.bel.size (fun k hk => by omega)))
    have hcf := h9.cell
    clear hT9 h9 hM2 hc5 hm5 hf5 hcw
    go_wp2_with fail
    refine bodyPost_ret (v := .tuple #[.agg #[.int .u8 75, .slice pe ne ce], .int .i64 0]) (by simp [results, Tryz.results17, go_sem, hcf]) rfl ?_
    exact ⟨_, rfl, HO.out, HB.out⟩

set_option maxRecDepth 100000 in
set_option maxHeartbeats 4000000 in
theorem benc_Z (S : Nat → Prop) (x : BaV) (a : BaP) (w : World) (h : BaL S w x a) (hfb : BaB x) (hsm : SmallB x) (hck : checkB x = 0) (hk : x.kind = 90) : Calls Tryz.prog 17 #[baArg x a] w (EncB x w) := by
  have H0 := Lib.hid (EbI.start h)
  have HK := Lib.hid (fun (w0 : World) (H : EbI w w0 x a) => bcheck_any _ x a w0 H.l hfb)
  have Hev : Hid (encB x = (90, [UInt8.ofNat x.status.toNat], 0)) := Lib.hid (by unfold encB; rw [if_pos hck]; unfold bodyB; simp_all)
  rw [hck] at HK
  clear hck
  have Hsm := Lib.hid hsm
  have Hfb := Lib.hid hfb
  have HC : Hid (∀ w1 : World, EbI w w1 x a → (∀ i, w1.cell? ⟨w.heap.size, i, none⟩ = (baCells x a)[i]?) ∧ (∀ i, w1.cell? ⟨w.heap.size + 1, i, none⟩ = (#[.int .u8 0, .slice none 0 0] : Array Value)[i]?) ∧ (∀ i, w1.frozen? ⟨w.heap.size + 1, i, none⟩ = false)) := Lib.hid (fun w1 H => ⟨H.b.cell, H.m.cell, H.m.frozen⟩)
  unfold EncB
  rw [Hev.out]
  dsimp only
  obtain ⟨xk, xs, xt, xn, xv, xa, xb, xo, xc, xr, xf⟩ := x
  obtain ⟨apo, aco, apc, acc, apr, acr, apf, acf⟩ := a
  clear h hfb hsm
  unfold baArg at *
  unfold baCells at *
  dsimp only at *
  subst hk
  go_enter Tryz.func17, Tryz.ntmps17
  go_upto_region 1 with (fail)
  generalize (w.alloc (.cells #[.int .u8 90, .int .u8 xs, .string xt, .string xn, .string xv, .int .i64 xa, .int .i64 xb, .slice apo xo.length aco, .slice apc xc.length acc, .slice apr xr.length acr, .slice apf xf.length acf] 39)).alloc (.cells #[.int .u8 0, .slice none 0 0] 42) = w1 at *
  obtain ⟨hc1, hm1, hf1⟩ := HC.out w1 H0.out
  go_wp2_with fail
  refine (HK.out w1 H0.out).mono ?_
  rintro e w2 ⟨rfl, hb2⟩
  have H2 := Lib.hid (H0.out.step hb2)
  obtain ⟨hc2, hm2, hf2⟩ := HC.out w2 H2.out
  clear hb2 hc1 hm1 hf1
  have HW3 : Hid (WbO w2.heap.size (fun k => k < w2.heap.size) (w2.alloc (.cells #[.slice none 0 0] 91)) w2.heap.size []) := Lib.hid (WbO.new w2.heap.size w2 (Nat.le_refl _))
  have H3 := Lib.hid (H2.out.step ((Below.refl _ _).alloc (Nat.le_refl _) (.cells #[.slice none 0 0] 91)))
  have hz3 : w2.heap.size ≤ (w2.alloc (.cells #[.slice none 0 0] 91)).heap.size := by simp
  have hg2 : w.heap.size + 2 ≤ w2.heap.size := by have := H2.out.m.lt; omega
  go_upto_region 5 with fail
  generalize w2.alloc (.cells #[.slice none 0 0] 91) = w3 at *
  generalize w2.heap.size = wb at *
  clear hc2 hm2 hf2 H2
  obtain ⟨hc3, hm3, hf3⟩ := HC.out w3 H3.out
  have hb0 := Hfb.out.2.2.1
  have hb1 := Hfb.out.2.2.2
  dsimp only at hb0 hb1
  obtain ⟨v3, hv3⟩ := HW3.out
  have HV3 := Lib.hid hv3
  have hwl := hv3.b.lt
  have hal : Below w3.heap.size w3 (w3.alloc (.cells #[.int .u8 xs] 5)) := (Below.refl _ _).alloc (Nat.le_refl _) _
  have HP := Lib.hid (HV3.out.put hz3 hal (own_byteB w3 w3.heap.size xs (Nat.le_refl _) hb0 hb1)).store
  have Ha := Lib.hid (H3.out.step hal)
  have hcw := hv3.b.cell
  have hfw := hv3.b.frozen
  have hcomm : (w3.alloc (.cells #[.int .u8 xs] 5)).setCell ⟨wb, 0, none⟩ (.slice (some ⟨w3.heap.size, 0, none⟩) 1 1) = (w3.setCell ⟨wb, 0, none⟩ (.slice (some ⟨w3.heap.size, 0, none⟩) 1 1)).alloc (.cells #[.int .u8 xs] 5) := set_alloc_commB w3 ⟨wb, 0, none⟩ _ _ hwl
  have Hcm := Lib.hid hcomm
  have Hal := Lib.hid hal.size
  clear hv3 hcomm hal hb0 hb1
  go_upto_region 37 with fail
  have HW4 : Hid (WbO wb (fun k => k < wb) ((w3.alloc (.cells #[.int .u8 xs] 5)).setCell ⟨wb, 0, none⟩ (.slice (some ⟨w3.heap.size, 0, none⟩) 1 1)) wb _) := Lib.hid ⟨_, HP.out.1⟩
  have H4 := Lib.hid (Ha.out.step2 (wbD_below HP.out.2 (by have := Hal.out; omega) (by omega)))
  have hz4 : wb ≤ ((w3.alloc (.cells #[.int .u8 xs] 5)).setCell ⟨wb, 0, none⟩ (.slice (some ⟨w3.heap.size, 0, none⟩) 1 1)).heap.size := by have := HP.out.2.size; have := Hal.out; omega
  clear HP Ha hcw hfw hc3 hm3 hf3 HV3
  rw [Hcm.out] at H4 HW4 hz4
  clear Hcm Hal
  generalize ((w3.setCell ⟨wb, 0, none⟩ (.slice (some ⟨w3.heap.size, 0, none⟩) 1 1)).alloc (.cells #[.int .u8 xs] 5)) = w4 at *
  obtain ⟨hc4, hm4, hf4⟩ := HC.out w4 H4.out
  obtain ⟨ve, hve⟩ := HW4.out
  have HV := Lib.hid hve
  obtain ⟨pe, ce, hpe, -⟩ := hve.own.slice
  obtain ⟨ne, hne⟩ : ∃ n, ve = .slice pe n ce := ⟨_, hpe⟩
  subst hne
  have hcw := HV.out.b.cell
  clear hpe hve
  go_upto_region 37 with fail
  go_region
  all_goals
    have hM2 := H4.out
    have hT9 : Touch (fun k => k = w.heap.size + 1) w4 ((w4.setCell ⟨w.heap.size + 1, 0, none⟩ (.int .u8 90)).setCell ⟨w.heap.size + 1, 1, none⟩ (.slice pe ne ce)).drew := (((Touch.refl (fun k => k = w.heap.size + 1) _).setCell (x := ⟨w.heap.size + 1, 0, none⟩) (fun _ => rfl) _).setCell (x := ⟨w.heap.size + 1, 1, none⟩) (fun _ => rfl) _).drew
    have h9 := ((hM2.m.set_ 0 (.int .u8 90)).set_ 1 (.slice pe ne ce)).drew
    simp only [List.setIfInBounds_toArray, List.set_cons_succ, List.set_cons_zero] at h9
    have HO := Lib.hid (OwnR.base (HV.out.own.touch hT9 (fun k hk e => by have := (HV.out.own.row k hk).1; omega)) (show w.heap.size ≤ wb by omega))
    have HB := Lib.hid (hM2.bel.trans (hT9.below hM2.bel.size (fun k hk => by omega)))
    have hcf := h9.cell
    clear hT9 h9 hM2 hc4 hm4 hf4 hcw
    go_wp2_with fail
    refine bodyPost_ret (v := .tuple #[.agg #[.int .u8 90, .slice pe ne ce], .int .i64 0]) (by simp [results, Tryz.results17, go_sem, hcf]) rfl ?_
    exact ⟨_, rfl, HO.out, HB.out⟩

set_option maxRecDepth 100000 in
set_option maxHeartbeats 4000000 in
theorem benc_C (S : Nat → Prop) (x : BaV) (a : BaP) (w : World) (h : BaL S w x a) (hfb : BaB x) (hsm : SmallB x) (hck : checkB x = 0) (hk : x.kind = 67) : Calls Tryz.prog 17 #[baArg x a] w (EncB x w) := by
  have H0 := Lib.hid (EbI.start h)
  have HK := Lib.hid (fun (w0 : World) (H : EbI w w0 x a) => bcheck_any _ x a w0 H.l hfb)
  have Hev : Hid (encB x = (67, strB [] x.tag, 0)) := Lib.hid (by unfold encB; rw [if_pos hck]; unfold bodyB; simp_all)
  rw [hck] at HK
  clear hck
  have Hsm := Lib.hid hsm
  have Hfb := Lib.hid hfb
  have HC : Hid (∀ w1 : World, EbI w w1 x a → (∀ i, w1.cell? ⟨w.heap.size, i, none⟩ = (baCells x a)[i]?) ∧ (∀ i, w1.cell? ⟨w.heap.size + 1, i, none⟩ = (#[.int .u8 0, .slice none 0 0] : Array Value)[i]?) ∧ (∀ i, w1.frozen? ⟨w.heap.size + 1, i, none⟩ = false)) := Lib.hid (fun w1 H => ⟨H.b.cell, H.m.cell, H.m.frozen⟩)
  unfold EncB
  rw [Hev.out]
  dsimp only
  obtain ⟨xk, xs, xt, xn, xv, xa, xb, xo, xc, xr, xf⟩ := x
  obtain ⟨apo, aco, apc, acc, apr, acr, apf, acf⟩ := a
  clear h hfb hsm
  unfold baArg at *
  unfold baCells at *
  dsimp only at *
  subst hk
  go_enter Tryz.func17, Tryz.ntmps17
  go_upto_region 1 with (fail)
  generalize (w.alloc (.cells #[.int .u8 67, .int .u8 xs, .string xt, .string xn, .string xv, .int .i64 xa, .int .i64 xb, .slice apo xo.length aco, .slice apc xc.length acc, .slice apr xr.length acr, .slice apf xf.length acf] 39)).alloc (.cells #[.int .u8 0, .slice none 0 0] 42) = w1 at *
  obtain ⟨hc1, hm1, hf1⟩ := HC.out w1 H0.out
  go_wp2_with fail
  refine (HK.out w1 H0.out).mono ?_
  rintro e w2 ⟨rfl, hb2⟩
  have H2 := Lib.hid (H0.out.step hb2)
  obtain ⟨hc2, hm2, hf2⟩ := HC.out w2 H2.out
  clear hb2 hc1 hm1 hf1
  have HW3 : Hid (WbO w2.heap.size (fun k => k < w2.heap.size) (w2.alloc (.cells #[.slice none 0 0] 91)) w2.heap.size []) := Lib.hid (WbO.new w2.heap.size w2 (Nat.le_refl _))
  have H3 := Lib.hid (H2.out.step ((Below.refl _ _).alloc (Nat.le_refl _) (.cells #[.slice none 0 0] 91)))
  have hz3 : w2.heap.size ≤ (w2.alloc (.cells #[.slice none 0 0] 91)).heap.size := by simp
  have hg2 : w.heap.size + 2 ≤ w2.heap.size := by have := H2.out.m.lt; omega
  go_upto_region 5 with fail
  generalize w2.alloc (.cells #[.slice none 0 0] 91) = w3 at *
  generalize w2.heap.size = wb at *
  clear hc2 hm2 hf2 H2
  obtain ⟨hc3, hm3, hf3⟩ := HC.out w3 H3.out
  have Ht := Lib.hid (btext_any wb _ wb _ xt w3 HW3.out hz3 (by simp only [nilLen] at *; omega) (by have := Hsm.out.t; dsimp only at this; omega))
  unfold WbR at Ht
  go_wp2_with fail
  refine Ht.out.mono ?_
  rintro e w4 ⟨rfl, ho, hT⟩
  have HW4 := Lib.hid ho
  have H4 := Lib.hid (H3.out.step2 (wbD_below hT (by omega) (by omega)))
  have hz4 : wb ≤ w4.heap.size := by have := hT.size; omega
  obtain ⟨hc4, hm4, hf4⟩ := HC.out w4 H4.out
  clear ho hT hc3 hm3 hf3 Ht
  obtain ⟨ve, hve⟩ := HW4.out
  have HV := Lib.hid hve
  obtain ⟨pe, ce, hpe, -⟩ := hve.own.slice
  obtain ⟨ne, hne⟩ : ∃ n, ve = .slice pe n ce := ⟨_, hpe⟩
  subst hne
  have hcw := HV.out.b.cell
  clear hpe hve
  go_upto_region 37 with fail
  go_region
  all_goals
    have hM2 := H4.out
    have hT9 : Touch (fun k => k = w.heap.size + 1) w4 ((w4.setCell ⟨w.heap.size + 1, 0, none⟩ (.int .u8 67)).setCell ⟨w.heap.size + 1, 1, none⟩ (.slice pe ne ce)).drew := (((Touch.refl (fun k => k = w.heap.size + 1) _).setCell (x := ⟨w.heap.size + 1, 0, none⟩) (fun _ => rfl) _).setCell (x := ⟨w.heap.size + 1, 1, none⟩) (fun _ => rfl) _).drew
    have h9 := ((hM2.m.set_ 0 (.int .u8 67)).set_ 1 (.slice pe ne ce)).drew
    simp only [List.setIfInBounds_toArray, List.set_cons_succ, List.set_cons_zero] at h9
    have HO := Lib.hid (OwnR.base (HV.out.own.touch hT9 (fun k hk e => by have := (HV.out.own.row k hk).1; omega)) (show w.heap.size ≤ wb by omega))
    have HB := Lib.hid (hM2.bel.trans (hT9.below hM2.bel.size (fun k hk => by omega)))
    have hcf := h9.cell
    clear hT9 h9 hM2 hc4 hm4 hf4 hcw
    go_wp2_with fail
    refine bodyPost_ret (v := .tuple #[.agg #[.int .u8 67, .slice pe ne ce], .int .i64 0]) (by simp [results, Tryz.results17, go_sem, hcf]) rfl ?_
    exact ⟨_, rfl, HO.out, HB.out⟩

end Go.Proofs.YthhebfknikfleaaGreat
