/-
  Messages of clients (layer 6): front.Encode.
-/
import Derived.Test.YtldjfmddjbdciaaFoO
import Derived.Test.YtldjfmddjbdciaaFoJ
namespace Go.Proofs.Ytldjfmddjbdciaa
open Go.RowKit
set_option linter.unusedVariables false
set_option linter.unusedSimpArgs false

/-- A message is short. -/
structure SmallF (x : FoV) : Prop where
  n : x.name.size ≤ 100000
  p : x.portal.size ≤ 100000
  t : x.text.size ≤ 100000
  o : x.oids.length ≤ 100000
  f : x.formats.length ≤ 100000
  r : x.results.length ≤ 100000
  c : x.params.length ≤ 1000
  b : ∀ c ∈ x.params, c.bytes.length ≤ 2000

/-- What Encode leaves. -/
def EncR (x : FoV) (w : World) (e : Ending) (w' : World) : Prop :=
  ∃ v, e = .returned (.tuple #[.agg #[.int .u8 (encF x).1, v], .int .i64 (encF x).2.2]) ∧ OwnBR w.heap.size w' v (encF x).2.1 ∧ Below w.heap.size w w'

/-- The message and the result in their blocks. -/
structure EnI (w0 w : World) (x : FoV) (a : FoP) : Prop where
  b : Blk w w0.heap.size 44 (foCells x a)
  m : Blk w (w0.heap.size + 1) 47 #[.int .u8 0, .slice none 0 0]
  l : FoL (fun k => k < w0.heap.size) w x a
  bel : Below w0.heap.size w0 w
section
variable {w0 w w' : World} {x : FoV} {a : FoP}
theorem EnI.step2 (h : EnI w0 w x a) (hb : Below (w0.heap.size + 2) w w') : EnI w0 w' x a :=
  ⟨h.b.below hb (by omega), h.m.below hb (by omega), h.l.keep (Kept.below hb (fun k _ hs => ⟨hs, by omega⟩)), h.bel.trans (hb.mono (by omega))⟩
theorem EnI.step (h : EnI w0 w x a) (hb : Below w.heap.size w w') : EnI w0 w' x a := by
  have h2 := h.m.lt
  exact h.step2 (hb.mono (by omega))
theorem EnI.start {S : Nat → Prop} {w : World} (h : FoL S w x a) : EnI w ((w.alloc (.cells (foCells x a) 44)).alloc (.cells #[.int .u8 0, .slice none 0 0] 47)) x a := by
  have hb : Below w.heap.size w ((w.alloc (.cells (foCells x a) 44)).alloc (.cells #[.int .u8 0, .slice none 0 0] 47)) := ((Below.refl _ _).alloc (Nat.le_refl _) _).alloc (by simp) _
  refine ⟨(Blk.new _ _ _).alloc _, ?_, ((h.weak (S' := fun k => k < w.heap.size) (fun k hk _ => hk)).below hb), hb⟩
  have := Blk.new (w.alloc (.cells (foCells x a) 44)) 47 #[.int .u8 0, .slice none 0 0]
  simpa using this
end

theorem slice1 (w : World) (e : TypeId) (a : ByteArray) : SliceS 1 StrU (fun k => k = w.heap.size) (w.alloc (.cells #[.string a] e)) [.slice (some ⟨w.heap.size, 0, none⟩) 1 1] [a] := by
  refine ⟨_, _, [[.string a]], rfl, Nat.le_refl _, by simp [maxLen], fun j u hu => ⟨_, _, rfl, rfl, ?_⟩, ?_⟩
  · rw [Nat.zero_add, World.cell?_alloc_new]
    simpa using hu
  · exact ⟨⟨rfl, rfl⟩, trivial⟩
theorem slice2 (w : World) (e : TypeId) (a b : ByteArray) : SliceS 1 StrU (fun k => k = w.heap.size) (w.alloc (.cells #[.string a, .string b] e)) [.slice (some ⟨w.heap.size, 0, none⟩) 2 2] [a, b] := by
  refine ⟨_, _, [[.string a], [.string b]], rfl, Nat.le_refl _, by simp [maxLen], fun j u hu => ⟨_, _, rfl, rfl, ?_⟩, ?_⟩
  · rw [Nat.zero_add, World.cell?_alloc_new]
    simpa using hu
  · exact ⟨⟨rfl, rfl⟩, ⟨rfl, rfl⟩, trivial⟩

theorem set_alloc_comm (w : World) (p : Addr) (u : Value) (o : Obj) (h : p.block < w.heap.size) : (w.alloc o).setCell p u = (w.setCell p u).alloc o := by
  simp only [World.setCell, World.alloc]
  congr 1
  apply Array.ext
  · simp
  · intro i h1 h2
    simp only [Array.getElem_modify, Array.getElem_push, Array.size_modify]
    by_cases e : p.block = i
    · subst e
      simp [h]
    · simp [e]
theorem own_byte (w : World) (B : Nat) (k : Int) (hB : B ≤ w.heap.size) (h0 : 0 ≤ k) (h1 : k < 256) : OwnBR B (w.alloc (.cells #[.int .u8 k] 5)) (.slice (some ⟨w.heap.size, 0, none⟩) 1 1) [UInt8.ofNat k.toNat] := by
  have h := OwnR.new (e := 5) (size := 1) B w 1 #[.int .u8 k] (by omega) (by simp [maxLen]) rfl hB
  have e : bytesV [UInt8.ofNat k.toNat] = [.int .u8 k] := by
    have : ((UInt8.ofNat k.toNat).toNat : Int) = k := by simp; omega
    simp only [bytesV, byteV, List.map_cons, List.map_nil, this]
  unfold OwnBR
  rw [e]
  exact h

theorem listB_len (b : List UInt8) (l : List Int) (size : Nat) : (listB b l size).length ≤ b.length + 4 + 4 * l.length := by
  rw [← listP_all]
  exact listP_len b l size _ (Nat.le_refl _)
theorem rowB_len (b : List UInt8) (l : List CeV) (m : Nat) (hm : ∀ c ∈ l, c.bytes.length ≤ m) : (rowB b l).length ≤ b.length + 4 + (m + 4) * l.length := by
  rw [← rowP_all]
  exact rowP_len b l m hm _ (Nat.le_refl _)

set_option maxRecDepth 100000 in
set_option maxHeartbeats 4000000 in
theorem enc_no (S : Nat → Prop) (x : FoV) (a : FoP) (w : World) (h : FoL S w x a) (hfb : FoB x) (hsm : SmallF x) (hck : checkF x ≠ 0) : Calls Try.prog 26 #[foArg x a] w (EncR x w) := by
  have H0 := Lib.hid (EnI.start h)
  have HK := Lib.hid (fun (w0 : World) (H : EnI w w0 x a) => check_any _ x a w0 H.l hfb)
  have Hev : Hid (encF x = (0, [], checkF x)) := Lib.hid (by unfold encF; rw [if_neg hck])
  generalize checkF x = cv at *
  have Hsm := Lib.hid hsm
  obtain ⟨hn, hp, ht, ho, hf, hr, hc, hb⟩ := hsm
  have HC : Hid (∀ w1 : World, EnI w w1 x a → (∀ i, w1.cell? ⟨w.heap.size, i, none⟩ = (foCells x a)[i]?) ∧ (∀ i, w1.cell? ⟨w.heap.size + 1, i, none⟩ = (#[.int .u8 0, .slice none 0 0] : Array Value)[i]?) ∧ (∀ i, w1.frozen? ⟨w.heap.size + 1, i, none⟩ = false)) := Lib.hid (fun w1 H => ⟨H.b.cell, H.m.cell, H.m.frozen⟩)
  have Hhb := Lib.hid hb
  unfold EncR
  rw [Hev.out]
  dsimp only
  obtain ⟨xk, xw, xn, xp, xt, xo, xf, xr, xc, xm⟩ := x
  obtain ⟨apo, aco, apf, acf, apr, acr, app, acp⟩ := a
  clear h hfb hb
  unfold foArg at *
  unfold foCells at *
  dsimp only at *
  go_enter Try.func26, Try.ntmps26
  go_upto_region 1 with (fail)
  generalize (w.alloc (.cells #[.int .u8 xk, .int .u8 xw, .string xn, .string xp, .string xt, .slice apo xo.length aco, .slice apf xf.length acf, .slice apr xr.length acr, .slice app xc.length acp, .int .i64 xm] 44)).alloc (.cells #[.int .u8 0, .slice none 0 0] 47) = w1 at *
  obtain ⟨hc1, hm1, hf1⟩ := HC.out w1 H0.out
  go_wp2_with fail
  refine (HK.out w1 H0.out).mono ?_
  rintro e w2 ⟨rfl, hb2⟩
  have H2 := Lib.hid (H0.out.step hb2)
  obtain ⟨hc2, hm2, hf2⟩ := HC.out w2 H2.out
  clear hb2 hc1 hm1 hf1
  have hcb : (cv == 0) = false := by simpa using hck
  clear hck
  go_wp2_with fail
  have hM2 := H2.out
  have hT9 : Touch (fun k => k = w.heap.size + 1) w2 ((w2.setCell ⟨w.heap.size + 1, 0, none⟩ (.int .u8 0)).setCell ⟨w.heap.size + 1, 1, none⟩ (.slice none 0 0)) := ((Touch.refl (fun k => k = w.heap.size + 1) _).setCell (x := ⟨w.heap.size + 1, 0, none⟩) (fun _ => rfl) _).setCell (x := ⟨w.heap.size + 1, 1, none⟩) (fun _ => rfl) _
  have h9 := ((hM2.m.set_ 0 (.int .u8 0)).set_ 1 (.slice none 0 0))
  simp only [List.setIfInBounds_toArray, List.set_cons_succ, List.set_cons_zero] at h9
  have hcf := h9.cell
  have HB := Lib.hid (hM2.bel.trans (hT9.below hM2.bel.size (fun k hk => by omega)))
  clear hT9 h9 hM2 hc2 hm2 hf2
  refine bodyPost_ret (v := .tuple #[.agg #[.int .u8 0, .slice none 0 0], .int .i64 cv]) (by simp [results, Try.results26, go_sem, hcf]) rfl ?_
  exact ⟨_, rfl, OwnBR.empty _ _ _, HB.out⟩

set_option maxRecDepth 100000 in
set_option maxHeartbeats 4000000 in
theorem enc_P (S : Nat → Prop) (x : FoV) (a : FoP) (w : World) (h : FoL S w x a) (hfb : FoB x) (hsm : SmallF x) (hck : checkF x = 0) (hk : x.kind = 80) : Calls Try.prog 26 #[foArg x a] w (EncR x w) := by
  have H0 := Lib.hid (EnI.start h)
  have HK := Lib.hid (fun (w0 : World) (H : EnI w w0 x a) => check_any _ x a w0 H.l hfb)
  have Hev : Hid (encF x = (80, listB (strB (strB [] x.name) x.text) x.oids 4, 0)) := Lib.hid (by unfold encF; rw [if_pos hck]; unfold bodyF; simp_all)
  rw [hck] at HK
  clear hck
  have Hsm := Lib.hid hsm
  obtain ⟨hn, hp, ht, ho, hf, hr, hc, hb⟩ := hsm
  have HC : Hid (∀ w1 : World, EnI w w1 x a → (∀ i, w1.cell? ⟨w.heap.size, i, none⟩ = (foCells x a)[i]?) ∧ (∀ i, w1.cell? ⟨w.heap.size + 1, i, none⟩ = (#[.int .u8 0, .slice none 0 0] : Array Value)[i]?) ∧ (∀ i, w1.frozen? ⟨w.heap.size + 1, i, none⟩ = false)) := Lib.hid (fun w1 H => ⟨H.b.cell, H.m.cell, H.m.frozen⟩)
  have Hhb := Lib.hid hb
  unfold EncR
  rw [Hev.out]
  dsimp only
  obtain ⟨xk, xw, xn, xp, xt, xo, xf, xr, xc, xm⟩ := x
  obtain ⟨apo, aco, apf, acf, apr, acr, app, acp⟩ := a
  clear h hfb hb
  unfold foArg at *
  unfold foCells at *
  dsimp only at *
  subst hk
  go_enter Try.func26, Try.ntmps26
  go_upto_region 1 with (fail)
  generalize (w.alloc (.cells #[.int .u8 80, .int .u8 xw, .string xn, .string xp, .string xt, .slice apo xo.length aco, .slice apf xf.length acf, .slice apr xr.length acr, .slice app xc.length acp, .int .i64 xm] 44)).alloc (.cells #[.int .u8 0, .slice none 0 0] 47) = w1 at *
  obtain ⟨hc1, hm1, hf1⟩ := HC.out w1 H0.out
  go_wp2_with fail
  refine (HK.out w1 H0.out).mono ?_
  rintro e w2 ⟨rfl, hb2⟩
  have H2 := Lib.hid (H0.out.step hb2)
  obtain ⟨hc2, hm2, hf2⟩ := HC.out w2 H2.out
  clear hb2 hc1 hm1 hf1
  have HW3 : Hid (WrO w2.heap.size (w2.alloc (.cells #[.slice none 0 0] 75)) w2.heap.size (.slice none 0 0) []) := Lib.hid ⟨Blk.new _ _ _, OwnBR.empty _ _ _, by simp [rowOf], Nat.le_refl _⟩
  have H3 := Lib.hid (H2.out.step ((Below.refl _ _).alloc (Nat.le_refl _) (.cells #[.slice none 0 0] 75)))
  have hz3 : w2.heap.size ≤ (w2.alloc (.cells #[.slice none 0 0] 75)).heap.size := by simp
  have hg2 : w.heap.size + 2 ≤ w2.heap.size := by have := H2.out.m.lt; omega
  go_upto_region 5 with fail
  generalize w2.alloc (.cells #[.slice none 0 0] 75) = w3 at *
  generalize w2.heap.size = wb at *
  clear hc2 hm2 hf2 H2
  obtain ⟨hc3, hm3, hf3⟩ := HC.out w3 H3.out
  have hal4 : Below w3.heap.size w3 (w3.alloc (.cells #[.string xn, .string xt] 9)) := (Below.refl _ _).alloc (Nat.le_refl _) _
  have hwl4 := HW3.out.b.lt
  have hrw4 := HW3.out.own.row
  have Ht4 := Lib.hid (wtext_any wb wb _ _ (fun k => k = w3.heap.size) (some ⟨w3.heap.size, 0, none⟩) 2 2 [xn, xt] _ (HW3.out.below hal4) (by have := hal4.size; omega) (slice2 w3 9 xn xt) (fun k _ hk h => by rcases h with h | h; omega; have := (hrw4 k h).2; omega) (by simp) (by simp) (by intro s hs; simp at hs; rcases hs with rfl | rfl <;> assumption))
  have Ha4 := Lib.hid (H3.out.step hal4)
  have Hza4 := Lib.hid hal4.size
  unfold WrR at Ht4
  go_wp2_with fail
  refine Ht4.out.mono ?_
  rintro e w4 ⟨rfl, v4, hw, hn', hT⟩
  have HW4 : Hid (WrO wb w4 wb v4 _) := Lib.hid hw
  have H4 := Lib.hid (Ha4.out.step2 (wrT_below (w0 := w) hT (HW3.out.below hal4) (by have := Hza4.out; omega) hg2))
  have hz4 : wb ≤ w4.heap.size := by have := hT.size; have := Hza4.out; omega
  obtain ⟨hc4, hm4, hf4⟩ := HC.out w4 H4.out
  clear hw hn' hT hc3 hm3 hf3 Ht4 Ha4 hal4 hwl4 hrw4
  have hwl5 := HW4.out.b.lt
  have Ht5 := Lib.hid (wlist_any wb wb _ _ _ _ _ _ _ 4 4 rfl w4 HW4.out hz4 H4.out.l.lo (fun k _ hk => by have hk' : k < w.heap.size := hk; omega) (by have e1 := strB_len [] xn; have e2 := strB_len (strB [] xn) xt; simp only [List.foldl_cons, List.foldl_nil, List.length_nil] at *; omega) (by omega))
  unfold WrR at Ht5
  go_wp2_with fail
  refine Ht5.out.mono ?_
  rintro e w5 ⟨rfl, v5, hw, hn', hT⟩
  have HW5 : Hid (WrO wb w5 wb v5 _) := Lib.hid hw
  have H5 := Lib.hid (H4.out.step2 (wrT_below (w0 := w) hT HW4.out (by omega) hg2))
  have hz5 : wb ≤ w5.heap.size := by have := hT.size; omega
  obtain ⟨hc5, hm5, hf5⟩ := HC.out w5 H5.out
  clear hw hn' hT hc4 hm4 hf4 Ht5 hwl5
  obtain ⟨pe, ce, hve, -⟩ := HW5.out.own.slice
  obtain ⟨ne, hne⟩ : ∃ n, v5 = .slice pe n ce := ⟨_, hve⟩
  subst hne
  have hcw := HW5.out.b.cell
  clear hve
  go_upto_region 25 with fail
  go_region
  all_goals
    have hM2 := H5.out
    have hT9 : Touch (fun k => k = w.heap.size + 1) w5 ((w5.setCell ⟨w.heap.size + 1, 0, none⟩ (.int .u8 80)).setCell ⟨w.heap.size + 1, 1, none⟩ (.slice pe ne ce)).drew := (((Touch.refl (fun k => k = w.heap.size + 1) _).setCell (x := ⟨w.heap.size + 1, 0, none⟩) (fun _ => rfl) _).setCell (x := ⟨w.heap.size + 1, 1, none⟩) (fun _ => rfl) _).drew
    have h9 := ((hM2.m.set_ 0 (.int .u8 80)).set_ 1 (.slice pe ne ce)).drew
    simp only [List.setIfInBounds_toArray, List.set_cons_succ, List.set_cons_zero] at h9
    have HO := Lib.hid (OwnR.base (HW5.out.own.touch hT9 (fun k hk e => by have := (HW5.out.own.row k hk).1; omega)) (show w.heap.size ≤ wb by omega))
    have HB := Lib.hid (hM2.bel.trans (hT9.below hM2.bel.size (fun k hk => by omega)))
    have hcf := h9.cell
    clear hT9 h9 hM2 hc5 hm5 hf5 hcw
    go_wp2_with fail
    refine bodyPost_ret (v := .tuple #[.agg #[.int .u8 80, .slice pe ne ce], .int .i64 0]) (by simp [results, Try.results26, go_sem, hcf]) rfl ?_
    exact ⟨_, rfl, HO.out, HB.out⟩

set_option maxRecDepth 100000 in
set_option maxHeartbeats 4000000 in
theorem enc_B (S : Nat → Prop) (x : FoV) (a : FoP) (w : World) (h : FoL S w x a) (hfb : FoB x) (hsm : SmallF x) (hck : checkF x = 0) (hk : x.kind = 66) : Calls Try.prog 26 #[foArg x a] w (EncR x w) := by
  have H0 := Lib.hid (EnI.start h)
  have HK := Lib.hid (fun (w0 : World) (H : EnI w w0 x a) => check_any _ x a w0 H.l hfb)
  have Hev : Hid (encF x = (66, listB (rowB (listB (strB (strB [] x.portal) x.name) x.formats 2) x.params) x.results 2, 0)) := Lib.hid (by unfold encF; rw [if_pos hck]; unfold bodyF; simp_all)
  rw [hck] at HK
  clear hck
  have Hsm := Lib.hid hsm
  obtain ⟨hn, hp, ht, ho, hf, hr, hc, hb⟩ := hsm
  have HC : Hid (∀ w1 : World, EnI w w1 x a → (∀ i, w1.cell? ⟨w.heap.size, i, none⟩ = (foCells x a)[i]?) ∧ (∀ i, w1.cell? ⟨w.heap.size + 1, i, none⟩ = (#[.int .u8 0, .slice none 0 0] : Array Value)[i]?) ∧ (∀ i, w1.frozen? ⟨w.heap.size + 1, i, none⟩ = false)) := Lib.hid (fun w1 H => ⟨H.b.cell, H.m.cell, H.m.frozen⟩)
  have Hhb := Lib.hid hb
  unfold EncR
  rw [Hev.out]
  dsimp only
  obtain ⟨xk, xw, xn, xp, xt, xo, xf, xr, xc, xm⟩ := x
  obtain ⟨apo, aco, apf, acf, apr, acr, app, acp⟩ := a
  clear h hfb hb
  unfold foArg at *
  unfold foCells at *
  dsimp only at *
  subst hk
  go_enter Try.func26, Try.ntmps26
  go_upto_region 1 with (fail)
  generalize (w.alloc (.cells #[.int .u8 66, .int .u8 xw, .string xn, .string xp, .string xt, .slice apo xo.length aco, .slice apf xf.length acf, .slice apr xr.length acr, .slice app xc.length acp, .int .i64 xm] 44)).alloc (.cells #[.int .u8 0, .slice none 0 0] 47) = w1 at *
  obtain ⟨hc1, hm1, hf1⟩ := HC.out w1 H0.out
  go_wp2_with fail
  refine (HK.out w1 H0.out).mono ?_
  rintro e w2 ⟨rfl, hb2⟩
  have H2 := Lib.hid (H0.out.step hb2)
  obtain ⟨hc2, hm2, hf2⟩ := HC.out w2 H2.out
  clear hb2 hc1 hm1 hf1
  have HW3 : Hid (WrO w2.heap.size (w2.alloc (.cells #[.slice none 0 0] 75)) w2.heap.size (.slice none 0 0) []) := Lib.hid ⟨Blk.new _ _ _, OwnBR.empty _ _ _, by simp [rowOf], Nat.le_refl _⟩
  have H3 := Lib.hid (H2.out.step ((Below.refl _ _).alloc (Nat.le_refl _) (.cells #[.slice none 0 0] 75)))
  have hz3 : w2.heap.size ≤ (w2.alloc (.cells #[.slice none 0 0] 75)).heap.size := by simp
  have hg2 : w.heap.size + 2 ≤ w2.heap.size := by have := H2.out.m.lt; omega
  go_upto_region 5 with fail
  generalize w2.alloc (.cells #[.slice none 0 0] 75) = w3 at *
  generalize w2.heap.size = wb at *
  clear hc2 hm2 hf2 H2
  obtain ⟨hc3, hm3, hf3⟩ := HC.out w3 H3.out
  have hal4 : Below w3.heap.size w3 (w3.alloc (.cells #[.string xp, .string xn] 9)) := (Below.refl _ _).alloc (Nat.le_refl _) _
  have hwl4 := HW3.out.b.lt
  have hrw4 := HW3.out.own.row
  have Ht4 := Lib.hid (wtext_any wb wb _ _ (fun k => k = w3.heap.size) (some ⟨w3.heap.size, 0, none⟩) 2 2 [xp, xn] _ (HW3.out.below hal4) (by have := hal4.size; omega) (slice2 w3 9 xp xn) (fun k _ hk h => by rcases h with h | h; omega; have := (hrw4 k h).2; omega) (by simp) (by simp) (by intro s hs; simp at hs; rcases hs with rfl | rfl <;> assumption))
  have Ha4 := Lib.hid (H3.out.step hal4)
  have Hza4 := Lib.hid hal4.size
  unfold WrR at Ht4
  go_wp2_with fail
  refine Ht4.out.mono ?_
  rintro e w4 ⟨rfl, v4, hw, hn', hT⟩
  have HW4 : Hid (WrO wb w4 wb v4 _) := Lib.hid hw
  have H4 := Lib.hid (Ha4.out.step2 (wrT_below (w0 := w) hT (HW3.out.below hal4) (by have := Hza4.out; omega) hg2))
  have hz4 : wb ≤ w4.heap.size := by have := hT.size; have := Hza4.out; omega
  obtain ⟨hc4, hm4, hf4⟩ := HC.out w4 H4.out
  clear hw hn' hT hc3 hm3 hf3 Ht4 Ha4 hal4 hwl4 hrw4
  have hwl5 := HW4.out.b.lt
  have Ht5 := Lib.hid (wlist_any wb wb _ _ _ _ _ _ _ 2 2 rfl w4 HW4.out hz4 H4.out.l.lf (fun k _ hk => by have hk' : k < w.heap.size := hk; omega) (by have e1 := strB_len [] xp; have e2 := strB_len (strB [] xp) xn; simp only [List.foldl_cons, List.foldl_nil, List.length_nil] at *; omega) (by omega))
  unfold WrR at Ht5
  go_wp2_with fail
  refine Ht5.out.mono ?_
  rintro e w5 ⟨rfl, v5, hw, hn', hT⟩
  have HW5 : Hid (WrO wb w5 wb v5 _) := Lib.hid hw
  have H5 := Lib.hid (H4.out.step2 (wrT_below (w0 := w) hT HW4.out (by omega) hg2))
  have hz5 : wb ≤ w5.heap.size := by have := hT.size; omega
  obtain ⟨hc5, hm5, hf5⟩ := HC.out w5 H5.out
  clear hw hn' hT hc4 hm4 hf4 Ht5 hwl5
  have hwl6 := HW5.out.b.lt
  have Ht6 := Lib.hid (wrow_any wb wb _ _ _ _ _ _ _ w5 HW5.out hz5 H5.out.l.lp (fun k _ hk => by have hk' : k < w.heap.size := hk; omega) (by have e1 := strB_len [] xp; have e2 := strB_len (strB [] xp) xn; simp only [List.foldl_cons, List.foldl_nil, List.length_nil] at *; have e3 := listB_len (strB (strB [] xp) xn) xf 2; omega) (show xc.length ≤ 10000 by omega) (fun c hc => by have := Hhb.out c hc; omega))
  unfold WrR at Ht6
  go_wp2_with fail
  refine Ht6.out.mono ?_
  rintro e w6 ⟨rfl, v6, hw, hn', hT⟩
  have HW6 : Hid (WrO wb w6 wb v6 _) := Lib.hid hw
  have H6 := Lib.hid (H5.out.step2 (wrT_below (w0 := w) hT HW5.out (by omega) hg2))
  have hz6 : wb ≤ w6.heap.size := by have := hT.size; omega
  obtain ⟨hc6, hm6, hf6⟩ := HC.out w6 H6.out
  clear hw hn' hT hc5 hm5 hf5 Ht6 hwl6
  have hwl7 := HW6.out.b.lt
  have Ht7 := Lib.hid (wlist_any wb wb _ _ _ _ _ _ _ 2 2 rfl w6 HW6.out hz6 H6.out.l.lr (fun k _ hk => by have hk' : k < w.heap.size := hk; omega) (by have e1 := strB_len [] xp; have e2 := strB_len (strB [] xp) xn; simp only [List.foldl_cons, List.foldl_nil, List.length_nil] at *; have e3 := listB_len (strB (strB [] xp) xn) xf 2; have e4 := rowB_len (listB (strB (strB [] xp) xn) xf 2) xc 2000 Hhb.out; omega) (by omega))
  unfold WrR at Ht7
  go_wp2_with fail
  refine Ht7.out.mono ?_
  rintro e w7 ⟨rfl, v7, hw, hn', hT⟩
  have HW7 : Hid (WrO wb w7 wb v7 _) := Lib.hid hw
  have H7 := Lib.hid (H6.out.step2 (wrT_below (w0 := w) hT HW6.out (by omega) hg2))
  have hz7 : wb ≤ w7.heap.size := by have := hT.size; omega
  obtain ⟨hc7, hm7, hf7⟩ := HC.out w7 H7.out
  clear hw hn' hT hc6 hm6 hf6 Ht7 hwl7
  obtain ⟨pe, ce, hve, -⟩ := HW7.out.own.slice
  obtain ⟨ne, hne⟩ : ∃ n, v7 = .slice pe n ce := ⟨_, hve⟩
  subst hne
  have hcw := HW7.out.b.cell
  clear hve
  go_upto_region 25 with fail
  go_region
  all_goals
    have hM2 := H7.out
    have hT9 : Touch (fun k => k = w.heap.size + 1) w7 ((w7.setCell ⟨w.heap.size + 1, 0, none⟩ (.int .u8 66)).setCell ⟨w.heap.size + 1, 1, none⟩ (.slice pe ne ce)).drew := (((Touch.refl (fun k => k = w.heap.size + 1) _).setCell (x := ⟨w.heap.size + 1, 0, none⟩) (fun _ => rfl) _).setCell (x := ⟨w.heap.size + 1, 1, none⟩) (fun _ => rfl) _).drew
    have h9 := ((hM2.m.set_ 0 (.int .u8 66)).set_ 1 (.slice pe ne ce)).drew
    simp only [List.setIfInBounds_toArray, List.set_cons_succ, List.set_cons_zero] at h9
    have HO := Lib.hid (OwnR.base (HW7.out.own.touch hT9 (fun k hk e => by have := (HW7.out.own.row k hk).1; omega)) (show w.heap.size ≤ wb by omega))
    have HB := Lib.hid (hM2.bel.trans (hT9.below hM2.bel.size (fun k hk => by omega)))
    have hcf := h9.cell
    clear hT9 h9 hM2 hc7 hm7 hf7 hcw
    go_wp2_with fail
    refine bodyPost_ret (v := .tuple #[.agg #[.int .u8 66, .slice pe ne ce], .int .i64 0]) (by simp [results, Try.results26, go_sem, hcf]) rfl ?_
    exact ⟨_, rfl, HO.out, HB.out⟩

set_option maxRecDepth 100000 in
set_option maxHeartbeats 4000000 in
theorem enc_S67 (S : Nat → Prop) (x : FoV) (a : FoP) (w : World) (h : FoL S w x a) (hfb : FoB x) (hsm : SmallF x) (hck : checkF x = 0) (hk : x.kind = 67) (hw : x.what = 83) : Calls Try.prog 26 #[foArg x a] w (EncR x w) := by
  have H0 := Lib.hid (EnI.start h)
  have HK := Lib.hid (fun (w0 : World) (H : EnI w w0 x a) => check_any _ x a w0 H.l hfb)
  have Hev : Hid (encF x = (67, strB [UInt8.ofNat (83 : Int).toNat] x.name, 0)) := Lib.hid (by unfold encF; rw [if_pos hck]; unfold bodyF; simp_all)
  rw [hck] at HK
  clear hck
  have Hsm := Lib.hid hsm
  obtain ⟨hn, hp, ht, ho, hf, hr, hc, hb⟩ := hsm
  have HC : Hid (∀ w1 : World, EnI w w1 x a → (∀ i, w1.cell? ⟨w.heap.size, i, none⟩ = (foCells x a)[i]?) ∧ (∀ i, w1.cell? ⟨w.heap.size + 1, i, none⟩ = (#[.int .u8 0, .slice none 0 0] : Array Value)[i]?) ∧ (∀ i, w1.frozen? ⟨w.heap.size + 1, i, none⟩ = false)) := Lib.hid (fun w1 H => ⟨H.b.cell, H.m.cell, H.m.frozen⟩)
  have Hhb := Lib.hid hb
  unfold EncR
  rw [Hev.out]
  dsimp only
  obtain ⟨xk, xw, xn, xp, xt, xo, xf, xr, xc, xm⟩ := x
  obtain ⟨apo, aco, apf, acf, apr, acr, app, acp⟩ := a
  clear h hfb hb
  unfold foArg at *
  unfold foCells at *
  dsimp only at *
  subst hk
  subst hw
  go_enter Try.func26, Try.ntmps26
  go_upto_region 1 with (fail)
  generalize (w.alloc (.cells #[.int .u8 67, .int .u8 83, .string xn, .string xp, .string xt, .slice apo xo.length aco, .slice apf xf.length acf, .slice apr xr.length acr, .slice app xc.length acp, .int .i64 xm] 44)).alloc (.cells #[.int .u8 0, .slice none 0 0] 47) = w1 at *
  obtain ⟨hc1, hm1, hf1⟩ := HC.out w1 H0.out
  go_wp2_with fail
  refine (HK.out w1 H0.out).mono ?_
  rintro e w2 ⟨rfl, hb2⟩
  have H2 := Lib.hid (H0.out.step hb2)
  obtain ⟨hc2, hm2, hf2⟩ := HC.out w2 H2.out
  clear hb2 hc1 hm1 hf1
  have HW3 : Hid (WrO w2.heap.size (w2.alloc (.cells #[.slice none 0 0] 75)) w2.heap.size (.slice none 0 0) []) := Lib.hid ⟨Blk.new _ _ _, OwnBR.empty _ _ _, by simp [rowOf], Nat.le_refl _⟩
  have H3 := Lib.hid (H2.out.step ((Below.refl _ _).alloc (Nat.le_refl _) (.cells #[.slice none 0 0] 75)))
  have hz3 : w2.heap.size ≤ (w2.alloc (.cells #[.slice none 0 0] 75)).heap.size := by simp
  have hg2 : w.heap.size + 2 ≤ w2.heap.size := by have := H2.out.m.lt; omega
  go_upto_region 5 with fail
  generalize w2.alloc (.cells #[.slice none 0 0] 75) = w3 at *
  generalize w2.heap.size = wb at *
  clear hc2 hm2 hf2 H2
  obtain ⟨hc3, hm3, hf3⟩ := HC.out w3 H3.out
  have hal4 : Below w3.heap.size w3 (w3.alloc (.cells #[.int .u8 83] 5)) := (Below.refl _ _).alloc (Nat.le_refl _) _
  have Hn4 : Hid (OwnBR wb (w3.alloc (.cells #[.int .u8 83] 5)) (.slice (some ⟨w3.heap.size, 0, none⟩) 1 1) [UInt8.ofNat (83 : Int).toNat]) := Lib.hid (own_byte w3 wb 83 hz3 (by omega) (by omega))
  have hwl4 := HW3.out.b.lt
  have Hb4 := Lib.hid (HW3.out.below hal4)
  have Hs4 := Lib.hid (Hb4.out.store Hn4.out (by rw [rowOf_pos (by omega)]; intro e; cases e; omega))
  have hcomm4 : (w3.alloc (.cells #[.int .u8 83] 5)).setCell ⟨wb, 0, none⟩ (.slice (some ⟨w3.heap.size, 0, none⟩) 1 1) = (w3.setCell ⟨wb, 0, none⟩ (.slice (some ⟨w3.heap.size, 0, none⟩) 1 1)).alloc (.cells #[.int .u8 83] 5) := set_alloc_comm w3 ⟨wb, 0, none⟩ _ _ hwl4
  have Ha4 := Lib.hid (H3.out.step hal4)
  have hcw4 := Hb4.out.b.cell
  have hfw4 := HW3.out.b.frozen
  have hcv4 := HW3.out.b.cell
  have Hza4 := Lib.hid hal4.size
  go_upto_region 17 with fail
  have hT4 : Touch (fun k => k = wb) (w3.alloc (.cells #[.int .u8 83] 5)) ((w3.alloc (.cells #[.int .u8 83] 5)).setCell ⟨wb, 0, none⟩ (.slice (some ⟨w3.heap.size, 0, none⟩) 1 1)) := (Touch.refl (fun k => k = wb) _).setCell (x := ⟨wb, 0, none⟩) (fun _ => rfl) _
  have H4 := Lib.hid (Ha4.out.step2 (hT4.below (by have := Hza4.out; omega) (fun k hk => by omega)))
  have HW4 := Hs4
  have hz4 : wb ≤ ((w3.alloc (.cells #[.int .u8 83] 5)).setCell ⟨wb, 0, none⟩ (.slice (some ⟨w3.heap.size, 0, none⟩) 1 1)).heap.size := by have := hT4.size; have := Hza4.out; omega
  clear Hs4 hT4 hal4 Hn4 Hb4 Ha4 hcw4 hfw4 hcv4 hc3 hm3 hf3 hwl4 Hza4
  rw [hcomm4] at H4 HW4 hz4
  clear hcomm4
  generalize ((w3.setCell ⟨wb, 0, none⟩ (.slice (some ⟨w3.heap.size, 0, none⟩) 1 1)).alloc (.cells #[.int .u8 83] 5)) = w4 at *
  obtain ⟨hc4, hm4, hf4⟩ := HC.out w4 H4.out
  have hal5 : Below w4.heap.size w4 (w4.alloc (.cells #[.string xn] 9)) := (Below.refl _ _).alloc (Nat.le_refl _) _
  have hwl5 := HW4.out.b.lt
  have hrw5 := HW4.out.own.row
  have Ht5 := Lib.hid (wtext_any wb wb _ _ (fun k => k = w4.heap.size) (some ⟨w4.heap.size, 0, none⟩) 1 1 [xn] _ (HW4.out.below hal5) (by have := hal5.size; omega) (slice1 w4 9 xn) (fun k _ hk h => by rcases h with h | h; omega; have := (hrw5 k h).2; omega) (by simp) (by simp) (by intro s hs; simp at hs; subst hs; assumption))
  have Ha5 := Lib.hid (H4.out.step hal5)
  have Hza5 := Lib.hid hal5.size
  unfold WrR at Ht5
  go_wp2_with fail
  refine Ht5.out.mono ?_
  rintro e w5 ⟨rfl, v5, hw, hn', hT⟩
  have HW5 : Hid (WrO wb w5 wb v5 _) := Lib.hid hw
  have H5 := Lib.hid (Ha5.out.step2 (wrT_below (w0 := w) hT (HW4.out.below hal5) (by have := Hza5.out; omega) hg2))
  have hz5 : wb ≤ w5.heap.size := by have := hT.size; have := Hza5.out; omega
  obtain ⟨hc5, hm5, hf5⟩ := HC.out w5 H5.out
  clear hw hn' hT hc4 hm4 hf4 Ht5 Ha5 hal5 hwl5 hrw5
  obtain ⟨pe, ce, hve, -⟩ := HW5.out.own.slice
  obtain ⟨ne, hne⟩ : ∃ n, v5 = .slice pe n ce := ⟨_, hve⟩
  subst hne
  have hcw := HW5.out.b.cell
  clear hve
  go_upto_region 25 with fail
  go_region
  all_goals
    have hM2 := H5.out
    have hT9 : Touch (fun k => k = w.heap.size + 1) w5 ((w5.setCell ⟨w.heap.size + 1, 0, none⟩ (.int .u8 67)).setCell ⟨w.heap.size + 1, 1, none⟩ (.slice pe ne ce)).drew := (((Touch.refl (fun k => k = w.heap.size + 1) _).setCell (x := ⟨w.heap.size + 1, 0, none⟩) (fun _ => rfl) _).setCell (x := ⟨w.heap.size + 1, 1, none⟩) (fun _ => rfl) _).drew
    have h9 := ((hM2.m.set_ 0 (.int .u8 67)).set_ 1 (.slice pe ne ce)).drew
    simp only [List.setIfInBounds_toArray, List.set_cons_succ, List.set_cons_zero] at h9
    have HO := Lib.hid (OwnR.base (HW5.out.own.touch hT9 (fun k hk e => by have := (HW5.out.own.row k hk).1; omega)) (show w.heap.size ≤ wb by omega))
    have HB := Lib.hid (hM2.bel.trans (hT9.below hM2.bel.size (fun k hk => by omega)))
    have hcf := h9.cell
    clear hT9 h9 hM2 hc5 hm5 hf5 hcw
    go_wp2_with fail
    refine bodyPost_ret (v := .tuple #[.agg #[.int .u8 67, .slice pe ne ce], .int .i64 0]) (by simp [results, Try.results26, go_sem, hcf]) rfl ?_
    exact ⟨_, rfl, HO.out, HB.out⟩

set_option maxRecDepth 100000 in
set_option maxHeartbeats 4000000 in
theorem enc_N67 (S : Nat → Prop) (x : FoV) (a : FoP) (w : World) (h : FoL S w x a) (hfb : FoB x) (hsm : SmallF x) (hck : checkF x = 0) (hk : x.kind = 67) (hw : x.what = 80) : Calls Try.prog 26 #[foArg x a] w (EncR x w) := by
  have H0 := Lib.hid (EnI.start h)
  have HK := Lib.hid (fun (w0 : World) (H : EnI w w0 x a) => check_any _ x a w0 H.l hfb)
  have Hev : Hid (encF x = (67, strB [UInt8.ofNat (80 : Int).toNat] x.portal, 0)) := Lib.hid (by unfold encF; rw [if_pos hck]; unfold bodyF; simp_all)
  rw [hck] at HK
  clear hck
  have Hsm := Lib.hid hsm
  obtain ⟨hn, hp, ht, ho, hf, hr, hc, hb⟩ := hsm
  have HC : Hid (∀ w1 : World, EnI w w1 x a → (∀ i, w1.cell? ⟨w.heap.size, i, none⟩ = (foCells x a)[i]?) ∧ (∀ i, w1.cell? ⟨w.heap.size + 1, i, none⟩ = (#[.int .u8 0, .slice none 0 0] : Array Value)[i]?) ∧ (∀ i, w1.frozen? ⟨w.heap.size + 1, i, none⟩ = false)) := Lib.hid (fun w1 H => ⟨H.b.cell, H.m.cell, H.m.frozen⟩)
  have Hhb := Lib.hid hb
  unfold EncR
  rw [Hev.out]
  dsimp only
  obtain ⟨xk, xw, xn, xp, xt, xo, xf, xr, xc, xm⟩ := x
  obtain ⟨apo, aco, apf, acf, apr, acr, app, acp⟩ := a
  clear h hfb hb
  unfold foArg at *
  unfold foCells at *
  dsimp only at *
  subst hk
  subst hw
  go_enter Try.func26, Try.ntmps26
  go_upto_region 1 with (fail)
  generalize (w.alloc (.cells #[.int .u8 67, .int .u8 80, .string xn, .string xp, .string xt, .slice apo xo.length aco, .slice apf xf.length acf, .slice apr xr.length acr, .slice app xc.length acp, .int .i64 xm] 44)).alloc (.cells #[.int .u8 0, .slice none 0 0] 47) = w1 at *
  obtain ⟨hc1, hm1, hf1⟩ := HC.out w1 H0.out
  go_wp2_with fail
  refine (HK.out w1 H0.out).mono ?_
  rintro e w2 ⟨rfl, hb2⟩
  have H2 := Lib.hid (H0.out.step hb2)
  obtain ⟨hc2, hm2, hf2⟩ := HC.out w2 H2.out
  clear hb2 hc1 hm1 hf1
  have HW3 : Hid (WrO w2.heap.size (w2.alloc (.cells #[.slice none 0 0] 75)) w2.heap.size (.slice none 0 0) []) := Lib.hid ⟨Blk.new _ _ _, OwnBR.empty _ _ _, by simp [rowOf], Nat.le_refl _⟩
  have H3 := Lib.hid (H2.out.step ((Below.refl _ _).alloc (Nat.le_refl _) (.cells #[.slice none 0 0] 75)))
  have hz3 : w2.heap.size ≤ (w2.alloc (.cells #[.slice none 0 0] 75)).heap.size := by simp
  have hg2 : w.heap.size + 2 ≤ w2.heap.size := by have := H2.out.m.lt; omega
  go_upto_region 5 with fail
  generalize w2.alloc (.cells #[.slice none 0 0] 75) = w3 at *
  generalize w2.heap.size = wb at *
  clear hc2 hm2 hf2 H2
  obtain ⟨hc3, hm3, hf3⟩ := HC.out w3 H3.out
  have hal4 : Below w3.heap.size w3 (w3.alloc (.cells #[.int .u8 80] 5)) := (Below.refl _ _).alloc (Nat.le_refl _) _
  have Hn4 : Hid (OwnBR wb (w3.alloc (.cells #[.int .u8 80] 5)) (.slice (some ⟨w3.heap.size, 0, none⟩) 1 1) [UInt8.ofNat (80 : Int).toNat]) := Lib.hid (own_byte w3 wb 80 hz3 (by omega) (by omega))
  have hwl4 := HW3.out.b.lt
  have Hb4 := Lib.hid (HW3.out.below hal4)
  have Hs4 := Lib.hid (Hb4.out.store Hn4.out (by rw [rowOf_pos (by omega)]; intro e; cases e; omega))
  have hcomm4 : (w3.alloc (.cells #[.int .u8 80] 5)).setCell ⟨wb, 0, none⟩ (.slice (some ⟨w3.heap.size, 0, none⟩) 1 1) = (w3.setCell ⟨wb, 0, none⟩ (.slice (some ⟨w3.heap.size, 0, none⟩) 1 1)).alloc (.cells #[.int .u8 80] 5) := set_alloc_comm w3 ⟨wb, 0, none⟩ _ _ hwl4
  have Ha4 := Lib.hid (H3.out.step hal4)
  have hcw4 := Hb4.out.b.cell
  have hfw4 := HW3.out.b.frozen
  have hcv4 := HW3.out.b.cell
  have Hza4 := Lib.hid hal4.size
  go_upto_region 17 with fail
  have hT4 : Touch (fun k => k = wb) (w3.alloc (.cells #[.int .u8 80] 5)) ((w3.alloc (.cells #[.int .u8 80] 5)).setCell ⟨wb, 0, none⟩ (.slice (some ⟨w3.heap.size, 0, none⟩) 1 1)) := (Touch.refl (fun k => k = wb) _).setCell (x := ⟨wb, 0, none⟩) (fun _ => rfl) _
  have H4 := Lib.hid (Ha4.out.step2 (hT4.below (by have := Hza4.out; omega) (fun k hk => by omega)))
  have HW4 := Hs4
  have hz4 : wb ≤ ((w3.alloc (.cells #[.int .u8 80] 5)).setCell ⟨wb, 0, none⟩ (.slice (some ⟨w3.heap.size, 0, none⟩) 1 1)).heap.size := by have := hT4.size; have := Hza4.out; omega
  clear Hs4 hT4 hal4 Hn4 Hb4 Ha4 hcw4 hfw4 hcv4 hc3 hm3 hf3 hwl4 Hza4
  rw [hcomm4] at H4 HW4 hz4
  clear hcomm4
  generalize ((w3.setCell ⟨wb, 0, none⟩ (.slice (some ⟨w3.heap.size, 0, none⟩) 1 1)).alloc (.cells #[.int .u8 80] 5)) = w4 at *
  obtain ⟨hc4, hm4, hf4⟩ := HC.out w4 H4.out
  have hal5 : Below w4.heap.size w4 (w4.alloc (.cells #[.string xp] 9)) := (Below.refl _ _).alloc (Nat.le_refl _) _
  have hwl5 := HW4.out.b.lt
  have hrw5 := HW4.out.own.row
  have Ht5 := Lib.hid (wtext_any wb wb _ _ (fun k => k = w4.heap.size) (some ⟨w4.heap.size, 0, none⟩) 1 1 [xp] _ (HW4.out.below hal5) (by have := hal5.size; omega) (slice1 w4 9 xp) (fun k _ hk h => by rcases h with h | h; omega; have := (hrw5 k h).2; omega) (by simp) (by simp) (by intro s hs; simp at hs; subst hs; assumption))
  have Ha5 := Lib.hid (H4.out.step hal5)
  have Hza5 := Lib.hid hal5.size
  unfold WrR at Ht5
  go_wp2_with fail
  refine Ht5.out.mono ?_
  rintro e w5 ⟨rfl, v5, hw, hn', hT⟩
  have HW5 : Hid (WrO wb w5 wb v5 _) := Lib.hid hw
  have H5 := Lib.hid (Ha5.out.step2 (wrT_below (w0 := w) hT (HW4.out.below hal5) (by have := Hza5.out; omega) hg2))
  have hz5 : wb ≤ w5.heap.size := by have := hT.size; have := Hza5.out; omega
  obtain ⟨hc5, hm5, hf5⟩ := HC.out w5 H5.out
  clear hw hn' hT hc4 hm4 hf4 Ht5 Ha5 hal5 hwl5 hrw5
  obtain ⟨pe, ce, hve, -⟩ := HW5.out.own.slice
  obtain ⟨ne, hne⟩ : ∃ n, v5 = .slice pe n ce := ⟨_, hve⟩
  subst hne
  have hcw := HW5.out.b.cell
  clear hve
  go_upto_region 25 with fail
  go_region
  all_goals
    have hM2 := H5.out
    have hT9 : Touch (fun k => k = w.heap.size + 1) w5 ((w5.setCell ⟨w.heap.size + 1, 0, none⟩ (.int .u8 67)).setCell ⟨w.heap.size + 1, 1, none⟩ (.slice pe ne ce)).drew := (((Touch.refl (fun k => k = w.heap.size + 1) _).setCell (x := ⟨w.heap.size + 1, 0, none⟩) (fun _ => rfl) _).setCell (x := ⟨w.heap.size + 1, 1, none⟩) (fun _ => rfl) _).drew
    have h9 := ((hM2.m.set_ 0 (.int .u8 67)).set_ 1 (.slice pe ne ce)).drew
    simp only [List.setIfInBounds_toArray, List.set_cons_succ, List.set_cons_zero] at h9
    have HO := Lib.hid (OwnR.base (HW5.out.own.touch hT9 (fun k hk e => by have := (HW5.out.own.row k hk).1; omega)) (show w.heap.size ≤ wb by omega))
    have HB := Lib.hid (hM2.bel.trans (hT9.below hM2.bel.size (fun k hk => by omega)))
    have hcf := h9.cell
    clear hT9 h9 hM2 hc5 hm5 hf5 hcw
    go_wp2_with fail
    refine bodyPost_ret (v := .tuple #[.agg #[.int .u8 67, .slice pe ne ce], .int .i64 0]) (by simp [results, Try.results26, go_sem, hcf]) rfl ?_
    exact ⟨_, rfl, HO.out, HB.out⟩

set_option maxRecDepth 100000 in
set_option maxHeartbeats 4000000 in
theorem enc_S68 (S : Nat → Prop) (x : FoV) (a : FoP) (w : World) (h : FoL S w x a) (hfb : FoB x) (hsm : SmallF x) (hck : checkF x = 0) (hk : x.kind = 68) (hw : x.what = 83) : Calls Try.prog 26 #[foArg x a] w (EncR x w) := by
  have H0 := Lib.hid (EnI.start h)
  have HK := Lib.hid (fun (w0 : World) (H : EnI w w0 x a) => check_any _ x a w0 H.l hfb)
  have Hev : Hid (encF x = (68, strB [UInt8.ofNat (83 : Int).toNat] x.name, 0)) := Lib.hid (by unfold encF; rw [if_pos hck]; unfold bodyF; simp_all)
  rw [hck] at HK
  clear hck
  have Hsm := Lib.hid hsm
  obtain ⟨hn, hp, ht, ho, hf, hr, hc, hb⟩ := hsm
  have HC : Hid (∀ w1 : World, EnI w w1 x a → (∀ i, w1.cell? ⟨w.heap.size, i, none⟩ = (foCells x a)[i]?) ∧ (∀ i, w1.cell? ⟨w.heap.size + 1, i, none⟩ = (#[.int .u8 0, .slice none 0 0] : Array Value)[i]?) ∧ (∀ i, w1.frozen? ⟨w.heap.size + 1, i, none⟩ = false)) := Lib.hid (fun w1 H => ⟨H.b.cell, H.m.cell, H.m.frozen⟩)
  have Hhb := Lib.hid hb
  unfold EncR
  rw [Hev.out]
  dsimp only
  obtain ⟨xk, xw, xn, xp, xt, xo, xf, xr, xc, xm⟩ := x
  obtain ⟨apo, aco, apf, acf, apr, acr, app, acp⟩ := a
  clear h hfb hb
  unfold foArg at *
  unfold foCells at *
  dsimp only at *
  subst hk
  subst hw
  go_enter Try.func26, Try.ntmps26
  go_upto_region 1 with (fail)
  generalize (w.alloc (.cells #[.int .u8 68, .int .u8 83, .string xn, .string xp, .string xt, .slice apo xo.length aco, .slice apf xf.length acf, .slice apr xr.length acr, .slice app xc.length acp, .int .i64 xm] 44)).alloc (.cells #[.int .u8 0, .slice none 0 0] 47) = w1 at *
  obtain ⟨hc1, hm1, hf1⟩ := HC.out w1 H0.out
  go_wp2_with fail
  refine (HK.out w1 H0.out).mono ?_
  rintro e w2 ⟨rfl, hb2⟩
  have H2 := Lib.hid (H0.out.step hb2)
  obtain ⟨hc2, hm2, hf2⟩ := HC.out w2 H2.out
  clear hb2 hc1 hm1 hf1
  have HW3 : Hid (WrO w2.heap.size (w2.alloc (.cells #[.slice none 0 0] 75)) w2.heap.size (.slice none 0 0) []) := Lib.hid ⟨Blk.new _ _ _, OwnBR.empty _ _ _, by simp [rowOf], Nat.le_refl _⟩
  have H3 := Lib.hid (H2.out.step ((Below.refl _ _).alloc (Nat.le_refl _) (.cells #[.slice none 0 0] 75)))
  have hz3 : w2.heap.size ≤ (w2.alloc (.cells #[.slice none 0 0] 75)).heap.size := by simp
  have hg2 : w.heap.size + 2 ≤ w2.heap.size := by have := H2.out.m.lt; omega
  go_upto_region 5 with fail
  generalize w2.alloc (.cells #[.slice none 0 0] 75) = w3 at *
  generalize w2.heap.size = wb at *
  clear hc2 hm2 hf2 H2
  obtain ⟨hc3, hm3, hf3⟩ := HC.out w3 H3.out
  have hal4 : Below w3.heap.size w3 (w3.alloc (.cells #[.int .u8 83] 5)) := (Below.refl _ _).alloc (Nat.le_refl _) _
  have Hn4 : Hid (OwnBR wb (w3.alloc (.cells #[.int .u8 83] 5)) (.slice (some ⟨w3.heap.size, 0, none⟩) 1 1) [UInt8.ofNat (83 : Int).toNat]) := Lib.hid (own_byte w3 wb 83 hz3 (by omega) (by omega))
  have hwl4 := HW3.out.b.lt
  have Hb4 := Lib.hid (HW3.out.below hal4)
  have Hs4 := Lib.hid (Hb4.out.store Hn4.out (by rw [rowOf_pos (by omega)]; intro e; cases e; omega))
  have hcomm4 : (w3.alloc (.cells #[.int .u8 83] 5)).setCell ⟨wb, 0, none⟩ (.slice (some ⟨w3.heap.size, 0, none⟩) 1 1) = (w3.setCell ⟨wb, 0, none⟩ (.slice (some ⟨w3.heap.size, 0, none⟩) 1 1)).alloc (.cells #[.int .u8 83] 5) := set_alloc_comm w3 ⟨wb, 0, none⟩ _ _ hwl4
  have Ha4 := Lib.hid (H3.out.step hal4)
  have hcw4 := Hb4.out.b.cell
  have hfw4 := HW3.out.b.frozen
  have hcv4 := HW3.out.b.cell
  have Hza4 := Lib.hid hal4.size
  go_upto_region 17 with fail
  have hT4 : Touch (fun k => k = wb) (w3.alloc (.cells #[.int .u8 83] 5)) ((w3.alloc (.cells #[.int .u8 83] 5)).setCell ⟨wb, 0, none⟩ (.slice (some ⟨w3.heap.size, 0, none⟩) 1 1)) := (Touch.refl (fun k => k = wb) _).setCell (x := ⟨wb, 0, none⟩) (fun _ => rfl) _
  have H4 := Lib.hid (Ha4.out.step2 (hT4.below (by have := Hza4.out; omega) (fun k hk => by omega)))
  have HW4 := Hs4
  have hz4 : wb ≤ ((w3.alloc (.cells #[.int .u8 83] 5)).setCell ⟨wb, 0, none⟩ (.slice (some ⟨w3.heap.size, 0, none⟩) 1 1)).heap.size := by have := hT4.size; have := Hza4.out; omega
  clear Hs4 hT4 hal4 Hn4 Hb4 Ha4 hcw4 hfw4 hcv4 hc3 hm3 hf3 hwl4 Hza4
  rw [hcomm4] at H4 HW4 hz4
  clear hcomm4
  generalize ((w3.setCell ⟨wb, 0, none⟩ (.slice (some ⟨w3.heap.size, 0, none⟩) 1 1)).alloc (.cells #[.int .u8 83] 5)) = w4 at *
  obtain ⟨hc4, hm4, hf4⟩ := HC.out w4 H4.out
  have hal5 : Below w4.heap.size w4 (w4.alloc (.cells #[.string xn] 9)) := (Below.refl _ _).alloc (Nat.le_refl _) _
  have hwl5 := HW4.out.b.lt
  have hrw5 := HW4.out.own.row
  have Ht5 := Lib.hid (wtext_any wb wb _ _ (fun k => k = w4.heap.size) (some ⟨w4.heap.size, 0, none⟩) 1 1 [xn] _ (HW4.out.below hal5) (by have := hal5.size; omega) (slice1 w4 9 xn) (fun k _ hk h => by rcases h with h | h; omega; have := (hrw5 k h).2; omega) (by simp) (by simp) (by intro s hs; simp at hs; subst hs; assumption))
  have Ha5 := Lib.hid (H4.out.step hal5)
  have Hza5 := Lib.hid hal5.size
  unfold WrR at Ht5
  go_wp2_with fail
  refine Ht5.out.mono ?_
  rintro e w5 ⟨rfl, v5, hw, hn', hT⟩
  have HW5 : Hid (WrO wb w5 wb v5 _) := Lib.hid hw
  have H5 := Lib.hid (Ha5.out.step2 (wrT_below (w0 := w) hT (HW4.out.below hal5) (by have := Hza5.out; omega) hg2))
  have hz5 : wb ≤ w5.heap.size := by have := hT.size; have := Hza5.out; omega
  obtain ⟨hc5, hm5, hf5⟩ := HC.out w5 H5.out
  clear hw hn' hT hc4 hm4 hf4 Ht5 Ha5 hal5 hwl5 hrw5
  obtain ⟨pe, ce, hve, -⟩ := HW5.out.own.slice
  obtain ⟨ne, hne⟩ : ∃ n, v5 = .slice pe n ce := ⟨_, hve⟩
  subst hne
  have hcw := HW5.out.b.cell
  clear hve
  go_upto_region 25 with fail
  go_region
  all_goals
    have hM2 := H5.out
    have hT9 : Touch (fun k => k = w.heap.size + 1) w5 ((w5.setCell ⟨w.heap.size + 1, 0, none⟩ (.int .u8 68)).setCell ⟨w.heap.size + 1, 1, none⟩ (.slice pe ne ce)).drew := (((Touch.refl (fun k => k = w.heap.size + 1) _).setCell (x := ⟨w.heap.size + 1, 0, none⟩) (fun _ => rfl) _).setCell (x := ⟨w.heap.size + 1, 1, none⟩) (fun _ => rfl) _).drew
    have h9 := ((hM2.m.set_ 0 (.int .u8 68)).set_ 1 (.slice pe ne ce)).drew
    simp only [List.setIfInBounds_toArray, List.set_cons_succ, List.set_cons_zero] at h9
    have HO := Lib.hid (OwnR.base (HW5.out.own.touch hT9 (fun k hk e => by have := (HW5.out.own.row k hk).1; omega)) (show w.heap.size ≤ wb by omega))
    have HB := Lib.hid (hM2.bel.trans (hT9.below hM2.bel.size (fun k hk => by omega)))
    have hcf := h9.cell
    clear hT9 h9 hM2 hc5 hm5 hf5 hcw
    go_wp2_with fail
    refine bodyPost_ret (v := .tuple #[.agg #[.int .u8 68, .slice pe ne ce], .int .i64 0]) (by simp [results, Try.results26, go_sem, hcf]) rfl ?_
    exact ⟨_, rfl, HO.out, HB.out⟩

set_option maxRecDepth 100000 in
set_option maxHeartbeats 4000000 in
theorem enc_N68 (S : Nat → Prop) (x : FoV) (a : FoP) (w : World) (h : FoL S w x a) (hfb : FoB x) (hsm : SmallF x) (hck : checkF x = 0) (hk : x.kind = 68) (hw : x.what = 80) : Calls Try.prog 26 #[foArg x a] w (EncR x w) := by
  have H0 := Lib.hid (EnI.start h)
  have HK := Lib.hid (fun (w0 : World) (H : EnI w w0 x a) => check_any _ x a w0 H.l hfb)
  have Hev : Hid (encF x = (68, strB [UInt8.ofNat (80 : Int).toNat] x.portal, 0)) := Lib.hid (by unfold encF; rw [if_pos hck]; unfold bodyF; simp_all)
  rw [hck] at HK
  clear hck
  have Hsm := Lib.hid hsm
  obtain ⟨hn, hp, ht, ho, hf, hr, hc, hb⟩ := hsm
  have HC : Hid (∀ w1 : World, EnI w w1 x a → (∀ i, w1.cell? ⟨w.heap.size, i, none⟩ = (foCells x a)[i]?) ∧ (∀ i, w1.cell? ⟨w.heap.size + 1, i, none⟩ = (#[.int .u8 0, .slice none 0 0] : Array Value)[i]?) ∧ (∀ i, w1.frozen? ⟨w.heap.size + 1, i, none⟩ = false)) := Lib.hid (fun w1 H => ⟨H.b.cell, H.m.cell, H.m.frozen⟩)
  have Hhb := Lib.hid hb
  unfold EncR
  rw [Hev.out]
  dsimp only
  obtain ⟨xk, xw, xn, xp, xt, xo, xf, xr, xc, xm⟩ := x
  obtain ⟨apo, aco, apf, acf, apr, acr, app, acp⟩ := a
  clear h hfb hb
  unfold foArg at *
  unfold foCells at *
  dsimp only at *
  subst hk
  subst hw
  go_enter Try.func26, Try.ntmps26
  go_upto_region 1 with (fail)
  generalize (w.alloc (.cells #[.int .u8 68, .int .u8 80, .string xn, .string xp, .string xt, .slice apo xo.length aco, .slice apf xf.length acf, .slice apr xr.length acr, .slice app xc.length acp, .int .i64 xm] 44)).alloc (.cells #[.int .u8 0, .slice none 0 0] 47) = w1 at *
  obtain ⟨hc1, hm1, hf1⟩ := HC.out w1 H0.out
  go_wp2_with fail
  refine (HK.out w1 H0.out).mono ?_
  rintro e w2 ⟨rfl, hb2⟩
  have H2 := Lib.hid (H0.out.step hb2)
  obtain ⟨hc2, hm2, hf2⟩ := HC.out w2 H2.out
  clear hb2 hc1 hm1 hf1
  have HW3 : Hid (WrO w2.heap.size (w2.alloc (.cells #[.slice none 0 0] 75)) w2.heap.size (.slice none 0 0) []) := Lib.hid ⟨Blk.new _ _ _, OwnBR.empty _ _ _, by simp [rowOf], Nat.le_refl _⟩
  have H3 := Lib.hid (H2.out.step ((Below.refl _ _).alloc (Nat.le_refl _) (.cells #[.slice none 0 0] 75)))
  have hz3 : w2.heap.size ≤ (w2.alloc (.cells #[.slice none 0 0] 75)).heap.size := by simp
  have hg2 : w.heap.size + 2 ≤ w2.heap.size := by have := H2.out.m.lt; omega
  go_upto_region 5 with fail
  generalize w2.alloc (.cells #[.slice none 0 0] 75) = w3 at *
  generalize w2.heap.size = wb at *
  clear hc2 hm2 hf2 H2
  obtain ⟨hc3, hm3, hf3⟩ := HC.out w3 H3.out
  have hal4 : Below w3.heap.size w3 (w3.alloc (.cells #[.int .u8 80] 5)) := (Below.refl _ _).alloc (Nat.le_refl _) _
  have Hn4 : Hid (OwnBR wb (w3.alloc (.cells #[.int .u8 80] 5)) (.slice (some ⟨w3.heap.size, 0, none⟩) 1 1) [UInt8.ofNat (80 : Int).toNat]) := Lib.hid (own_byte w3 wb 80 hz3 (by omega) (by omega))
  have hwl4 := HW3.out.b.lt
  have Hb4 := Lib.hid (HW3.out.below hal4)
  have Hs4 := Lib.hid (Hb4.out.store Hn4.out (by rw [rowOf_pos (by omega)]; intro e; cases e; omega))
  have hcomm4 : (w3.alloc (.cells #[.int .u8 80] 5)).setCell ⟨wb, 0, none⟩ (.slice (some ⟨w3.heap.size, 0, none⟩) 1 1) = (w3.setCell ⟨wb, 0, none⟩ (.slice (some ⟨w3.heap.size, 0, none⟩) 1 1)).alloc (.cells #[.int .u8 80] 5) := set_alloc_comm w3 ⟨wb, 0, none⟩ _ _ hwl4
  have Ha4 := Lib.hid (H3.out.step hal4)
  have hcw4 := Hb4.out.b.cell
  have hfw4 := HW3.out.b.frozen
  have hcv4 := HW3.out.b.cell
  have Hza4 := Lib.hid hal4.size
  go_upto_region 17 with fail
  have hT4 : Touch (fun k => k = wb) (w3.alloc (.cells #[.int .u8 80] 5)) ((w3.alloc (.cells #[.int .u8 80] 5)).setCell ⟨wb, 0, none⟩ (.slice (some ⟨w3.heap.size, 0, none⟩) 1 1)) := (Touch.refl (fun k => k = wb) _).setCell (x := ⟨wb, 0, none⟩) (fun _ => rfl) _
  have H4 := Lib.hid (Ha4.out.step2 (hT4.below (by have := Hza4.out; omega) (fun k hk => by omega)))
  have HW4 := Hs4
  have hz4 : wb ≤ ((w3.alloc (.cells #[.int .u8 80] 5)).setCell ⟨wb, 0, none⟩ (.slice (some ⟨w3.heap.size, 0, none⟩) 1 1)).heap.size := by have := hT4.size; have := Hza4.out; omega
  clear Hs4 hT4 hal4 Hn4 Hb4 Ha4 hcw4 hfw4 hcv4 hc3 hm3 hf3 hwl4 Hza4
  rw [hcomm4] at H4 HW4 hz4
  clear hcomm4
  generalize ((w3.setCell ⟨wb, 0, none⟩ (.slice (some ⟨w3.heap.size, 0, none⟩) 1 1)).alloc (.cells #[.int .u8 80] 5)) = w4 at *
  obtain ⟨hc4, hm4, hf4⟩ := HC.out w4 H4.out
  have hal5 : Below w4.heap.size w4 (w4.alloc (.cells #[.string xp] 9)) := (Below.refl _ _).alloc (Nat.le_refl _) _
  have hwl5 := HW4.out.b.lt
  have hrw5 := HW4.out.own.row
  have Ht5 := Lib.hid (wtext_any wb wb _ _ (fun k => k = w4.heap.size) (some ⟨w4.heap.size, 0, none⟩) 1 1 [xp] _ (HW4.out.below hal5) (by have := hal5.size; omega) (slice1 w4 9 xp) (fun k _ hk h => by rcases h with h | h; omega; have := (hrw5 k h).2; omega) (by simp) (by simp) (by intro s hs; simp at hs; subst hs; assumption))
  have Ha5 := Lib.hid (H4.out.step hal5)
  have Hza5 := Lib.hid hal5.size
  unfold WrR at Ht5
  go_wp2_with fail
  refine Ht5.out.mono ?_
  rintro e w5 ⟨rfl, v5, hw, hn', hT⟩
  have HW5 : Hid (WrO wb w5 wb v5 _) := Lib.hid hw
  have H5 := Lib.hid (Ha5.out.step2 (wrT_below (w0 := w) hT (HW4.out.below hal5) (by have := Hza5.out; omega) hg2))
  have hz5 : wb ≤ w5.heap.size := by have := hT.size; have := Hza5.out; omega
  obtain ⟨hc5, hm5, hf5⟩ := HC.out w5 H5.out
  clear hw hn' hT hc4 hm4 hf4 Ht5 Ha5 hal5 hwl5 hrw5
  obtain ⟨pe, ce, hve, -⟩ := HW5.out.own.slice
  obtain ⟨ne, hne⟩ : ∃ n, v5 = .slice pe n ce := ⟨_, hve⟩
  subst hne
  have hcw := HW5.out.b.cell
  clear hve
  go_upto_region 25 with fail
  go_region
  all_goals
    have hM2 := H5.out
    have hT9 : Touch (fun k => k = w.heap.size + 1) w5 ((w5.setCell ⟨w.heap.size + 1, 0, none⟩ (.int .u8 68)).setCell ⟨w.heap.size + 1, 1, none⟩ (.slice pe ne ce)).drew := (((Touch.refl (fun k => k = w.heap.size + 1) _).setCell (x := ⟨w.heap.size + 1, 0, none⟩) (fun _ => rfl) _).setCell (x := ⟨w.heap.size + 1, 1, none⟩) (fun _ => rfl) _).drew
    have h9 := ((hM2.m.set_ 0 (.int .u8 68)).set_ 1 (.slice pe ne ce)).drew
    simp only [List.setIfInBounds_toArray, List.set_cons_succ, List.set_cons_zero] at h9
    have HO := Lib.hid (OwnR.base (HW5.out.own.touch hT9 (fun k hk e => by have := (HW5.out.own.row k hk).1; omega)) (show w.heap.size ≤ wb by omega))
    have HB := Lib.hid (hM2.bel.trans (hT9.below hM2.bel.size (fun k hk => by omega)))
    have hcf := h9.cell
    clear hT9 h9 hM2 hc5 hm5 hf5 hcw
    go_wp2_with fail
    refine bodyPost_ret (v := .tuple #[.agg #[.int .u8 68, .slice pe ne ce], .int .i64 0]) (by simp [results, Try.results26, go_sem, hcf]) rfl ?_
    exact ⟨_, rfl, HO.out, HB.out⟩

set_option maxRecDepth 100000 in
set_option maxHeartbeats 4000000 in
theorem enc_E (S : Nat → Prop) (x : FoV) (a : FoP) (w : World) (h : FoL S w x a) (hfb : FoB x) (hsm : SmallF x) (hck : checkF x = 0) (hk : x.kind = 69) : Calls Try.prog 26 #[foArg x a] w (EncR x w) := by
  have H0 := Lib.hid (EnI.start h)
  have HK := Lib.hid (fun (w0 : World) (H : EnI w w0 x a) => check_any _ x a w0 H.l hfb)
  have Hev : Hid (encF x = (69, putV (strB [] x.portal) x.max 4, 0)) := Lib.hid (by unfold encF; rw [if_pos hck]; unfold bodyF; simp_all)
  rw [hck] at HK
  clear hck
  have Hsm := Lib.hid hsm
  obtain ⟨hn, hp, ht, ho, hf, hr, hc, hb⟩ := hsm
  have HC : Hid (∀ w1 : World, EnI w w1 x a → (∀ i, w1.cell? ⟨w.heap.size, i, none⟩ = (foCells x a)[i]?) ∧ (∀ i, w1.cell? ⟨w.heap.size + 1, i, none⟩ = (#[.int .u8 0, .slice none 0 0] : Array Value)[i]?) ∧ (∀ i, w1.frozen? ⟨w.heap.size + 1, i, none⟩ = false)) := Lib.hid (fun w1 H => ⟨H.b.cell, H.m.cell, H.m.frozen⟩)
  have Hhb := Lib.hid hb
  unfold EncR
  rw [Hev.out]
  dsimp only
  obtain ⟨xk, xw, xn, xp, xt, xo, xf, xr, xc, xm⟩ := x
  obtain ⟨apo, aco, apf, acf, apr, acr, app, acp⟩ := a
  clear h hfb hb
  unfold foArg at *
  unfold foCells at *
  dsimp only at *
  subst hk
  go_enter Try.func26, Try.ntmps26
  go_upto_region 1 with (fail)
  generalize (w.alloc (.cells #[.int .u8 69, .int .u8 xw, .string xn, .string xp, .string xt, .slice apo xo.length aco, .slice apf xf.length acf, .slice apr xr.length acr, .slice app xc.length acp, .int .i64 xm] 44)).alloc (.cells #[.int .u8 0, .slice none 0 0] 47) = w1 at *
  obtain ⟨hc1, hm1, hf1⟩ := HC.out w1 H0.out
  go_wp2_with fail
  refine (HK.out w1 H0.out).mono ?_
  rintro e w2 ⟨rfl, hb2⟩
  have H2 := Lib.hid (H0.out.step hb2)
  obtain ⟨hc2, hm2, hf2⟩ := HC.out w2 H2.out
  clear hb2 hc1 hm1 hf1
  have HW3 : Hid (WrO w2.heap.size (w2.alloc (.cells #[.slice none 0 0] 75)) w2.heap.size (.slice none 0 0) []) := Lib.hid ⟨Blk.new _ _ _, OwnBR.empty _ _ _, by simp [rowOf], Nat.le_refl _⟩
  have H3 := Lib.hid (H2.out.step ((Below.refl _ _).alloc (Nat.le_refl _) (.cells #[.slice none 0 0] 75)))
  have hz3 : w2.heap.size ≤ (w2.alloc (.cells #[.slice none 0 0] 75)).heap.size := by simp
  have hg2 : w.heap.size + 2 ≤ w2.heap.size := by have := H2.out.m.lt; omega
  go_upto_region 5 with fail
  generalize w2.alloc (.cells #[.slice none 0 0] 75) = w3 at *
  generalize w2.heap.size = wb at *
  clear hc2 hm2 hf2 H2
  obtain ⟨hc3, hm3, hf3⟩ := HC.out w3 H3.out
  have hal4 : Below w3.heap.size w3 (w3.alloc (.cells #[.string xp] 9)) := (Below.refl _ _).alloc (Nat.le_refl _) _
  have hwl4 := HW3.out.b.lt
  have hrw4 := HW3.out.own.row
  have Ht4 := Lib.hid (wtext_any wb wb _ _ (fun k => k = w3.heap.size) (some ⟨w3.heap.size, 0, none⟩) 1 1 [xp] _ (HW3.out.below hal4) (by have := hal4.size; omega) (slice1 w3 9 xp) (fun k _ hk h => by rcases h with h | h; omega; have := (hrw4 k h).2; omega) (by simp) (by simp) (by intro s hs; simp at hs; subst hs; assumption))
  have Ha4 := Lib.hid (H3.out.step hal4)
  have Hza4 := Lib.hid hal4.size
  unfold WrR at Ht4
  go_wp2_with fail
  refine Ht4.out.mono ?_
  rintro e w4 ⟨rfl, v4, hw, hn', hT⟩
  have HW4 : Hid (WrO wb w4 wb v4 _) := Lib.hid hw
  have H4 := Lib.hid (Ha4.out.step2 (wrT_below (w0 := w) hT (HW3.out.below hal4) (by have := Hza4.out; omega) hg2))
  have hz4 : wb ≤ w4.heap.size := by have := hT.size; have := Hza4.out; omega
  obtain ⟨hc4, hm4, hf4⟩ := HC.out w4 H4.out
  clear hw hn' hT hc3 hm3 hf3 Ht4 Ha4 hal4 hwl4 hrw4
  obtain ⟨pq, cq, hvq, -, -, qq, -⟩ := HW4.out.own.slice
  subst hvq
  have Hq := Lib.hid (put_any pq _ cq xm 4 w4.drew (by have e1 := strB_len [] xp; simp only [List.foldl_cons, List.foldl_nil, List.length_nil] at *; omega) ((Lib.hid qq).out.below (bel_drew w4)))
  clear qq
  have hcw := HW4.out.b.cell
  generalize (List.foldl strB [] [xp]).length = nq at *
  go_upto_region 22 with fail
  go_region_law (first
    | (refine rgn_callF rfl 40 _ _ Hq.out (by go_simp) ?_; rintro e wp ⟨vp, rfl, hop, hbp⟩; refine ⟨_, rfl, ?_⟩; have hbp' : Below w4.heap.size w4 wp := (bel_drew w4).trans hbp; have HPp := Lib.hid (HW4.out.put (by omega) (show OwnB w4.heap.size wp vp _ from hop) hbp'); have HBp := Lib.hid hbp'; obtain ⟨np, pp, cp, hvp⟩ : ∃ n p c, vp = .slice p n c := (by obtain ⟨p, c, h, _⟩ := (OwnBR.of hop).slice; exact ⟨_, p, c, h⟩); subst hvp; have hkp := (HW4.out.below hbp').b; have hcp := hkp.cell; have hfp := hkp.frozen; obtain ⟨hcx, hmx, hfx⟩ := HC.out wp (H4.out.step hbp'); clear hop hbp hbp' hkp))
  all_goals
    have HW5 : Hid (WrO wb (wp.setCell ⟨wb, 0, none⟩ (.slice pp np cp)) wb (.slice pp np cp) _) := Lib.hid HPp.out.1
    have H5 := Lib.hid (H4.out.step2 (HPp.out.2.2.below (by omega) (fun k hk => by omega)))
    have hz5 : wb ≤ (wp.setCell ⟨wb, 0, none⟩ (.slice pp np cp)).heap.size := by have := HPp.out.2.2.size; omega
    clear HPp HBp hcp hfp hcx hmx hfx hcw hc4 hm4 hf4
    generalize wp.setCell ⟨wb, 0, none⟩ (.slice pp np cp) = w5 at *
    obtain ⟨hc5, hm5, hf5⟩ := HC.out w5 H5.out
    have hcw := HW5.out.b.cell
    go_upto_region 25 with fail
    go_region
    all_goals
      have hM2 := H5.out
      have hT9 : Touch (fun k => k = w.heap.size + 1) w5 ((w5.setCell ⟨w.heap.size + 1, 0, none⟩ (.int .u8 69)).setCell ⟨w.heap.size + 1, 1, none⟩ (.slice pp np cp)).drew := (((Touch.refl (fun k => k = w.heap.size + 1) _).setCell (x := ⟨w.heap.size + 1, 0, none⟩) (fun _ => rfl) _).setCell (x := ⟨w.heap.size + 1, 1, none⟩) (fun _ => rfl) _).drew
      have h9 := ((hM2.m.set_ 0 (.int .u8 69)).set_ 1 (.slice pp np cp)).drew
      simp only [List.setIfInBounds_toArray, List.set_cons_succ, List.set_cons_zero] at h9
      have HO := Lib.hid (OwnR.base (HW5.out.own.touch hT9 (fun k hk e => by have := (HW5.out.own.row k hk).1; omega)) (show w.heap.size ≤ wb by omega))
      have HB := Lib.hid (hM2.bel.trans (hT9.below hM2.bel.size (fun k hk => by omega)))
      have hcf := h9.cell
      clear hT9 h9 hM2 hc5 hm5 hf5 hcw
      go_wp2_with fail
      refine bodyPost_ret (v := .tuple #[.agg #[.int .u8 69, .slice pp np cp], .int .i64 0]) (by simp [results, Try.results26, go_sem, hcf]) rfl ?_
      exact ⟨_, rfl, HO.out, HB.out⟩


set_option maxRecDepth 100000 in
set_option maxHeartbeats 4000000 in
theorem enc_Q (S : Nat → Prop) (x : FoV) (a : FoP) (w : World) (h : FoL S w x a) (hfb : FoB x) (hsm : SmallF x) (hck : checkF x = 0) (hk : x.kind = 81) : Calls Try.prog 26 #[foArg x a] w (EncR x w) := by
  have H0 := Lib.hid (EnI.start h)
  have HK := Lib.hid (fun (w0 : World) (H : EnI w w0 x a) => check_any _ x a w0 H.l hfb)
  have Hev : Hid (encF x = (81, strB [] x.text, 0)) := Lib.hid (by unfold encF; rw [if_pos hck]; unfold bodyF; simp_all)
  rw [hck] at HK
  clear hck
  have Hsm := Lib.hid hsm
  obtain ⟨hn, hp, ht, ho, hf, hr, hc, hb⟩ := hsm
  have HC : Hid (∀ w1 : World, EnI w w1 x a → (∀ i, w1.cell? ⟨w.heap.size, i, none⟩ = (foCells x a)[i]?) ∧ (∀ i, w1.cell? ⟨w.heap.size + 1, i, none⟩ = (#[.int .u8 0, .slice none 0 0] : Array Value)[i]?) ∧ (∀ i, w1.frozen? ⟨w.heap.size + 1, i, none⟩ = false)) := Lib.hid (fun w1 H => ⟨H.b.cell, H.m.cell, H.m.frozen⟩)
  have Hhb := Lib.hid hb
  unfold EncR
  rw [Hev.out]
  dsimp only
  obtain ⟨xk, xw, xn, xp, xt, xo, xf, xr, xc, xm⟩ := x
  obtain ⟨apo, aco, apf, acf, apr, acr, app, acp⟩ := a
  clear h hfb hb
  unfold foArg at *
  unfold foCells at *
  dsimp only at *
  subst hk
  go_enter Try.func26, Try.ntmps26
  go_upto_region 1 with (fail)
  generalize (w.alloc (.cells #[.int .u8 81, .int .u8 xw, .string xn, .string xp, .string xt, .slice apo xo.length aco, .slice apf xf.length acf, .slice apr xr.length acr, .slice app xc.length acp, .int .i64 xm] 44)).alloc (.cells #[.int .u8 0, .slice none 0 0] 47) = w1 at *
  obtain ⟨hc1, hm1, hf1⟩ := HC.out w1 H0.out
  go_wp2_with fail
  refine (HK.out w1 H0.out).mono ?_
  rintro e w2 ⟨rfl, hb2⟩
  have H2 := Lib.hid (H0.out.step hb2)
  obtain ⟨hc2, hm2, hf2⟩ := HC.out w2 H2.out
  clear hb2 hc1 hm1 hf1
  have HW3 : Hid (WrO w2.heap.size (w2.alloc (.cells #[.slice none 0 0] 75)) w2.heap.size (.slice none 0 0) []) := Lib.hid ⟨Blk.new _ _ _, OwnBR.empty _ _ _, by simp [rowOf], Nat.le_refl _⟩
  have H3 := Lib.hid (H2.out.step ((Below.refl _ _).alloc (Nat.le_refl _) (.cells #[.slice none 0 0] 75)))
  have hz3 : w2.heap.size ≤ (w2.alloc (.cells #[.slice none 0 0] 75)).heap.size := by simp
  have hg2 : w.heap.size + 2 ≤ w2.heap.size := by have := H2.out.m.lt; omega
  go_upto_region 5 with fail
  generalize w2.alloc (.cells #[.slice none 0 0] 75) = w3 at *
  generalize w2.heap.size = wb at *
  clear hc2 hm2 hf2 H2
  obtain ⟨hc3, hm3, hf3⟩ := HC.out w3 H3.out
  have hal4 : Below w3.heap.size w3 (w3.alloc (.cells #[.string xt] 9)) := (Below.refl _ _).alloc (Nat.le_refl _) _
  have hwl4 := HW3.out.b.lt
  have hrw4 := HW3.out.own.row
  have Ht4 := Lib.hid (wtext_any wb wb _ _ (fun k => k = w3.heap.size) (some ⟨w3.heap.size, 0, none⟩) 1 1 [xt] _ (HW3.out.below hal4) (by have := hal4.size; omega) (slice1 w3 9 xt) (fun k _ hk h => by rcases h with h | h; omega; have := (hrw4 k h).2; omega) (by simp) (by simp) (by intro s hs; simp at hs; subst hs; assumption))
  have Ha4 := Lib.hid (H3.out.step hal4)
  have Hza4 := Lib.hid hal4.size
  unfold WrR at Ht4
  go_wp2_with fail
  refine Ht4.out.mono ?_
  rintro e w4 ⟨rfl, v4, hw, hn', hT⟩
  have HW4 : Hid (WrO wb w4 wb v4 _) := Lib.hid hw
  have H4 := Lib.hid (Ha4.out.step2 (wrT_below (w0 := w) hT (HW3.out.below hal4) (by have := Hza4.out; omega) hg2))
  have hz4 : wb ≤ w4.heap.size := by have := hT.size; have := Hza4.out; omega
  obtain ⟨hc4, hm4, hf4⟩ := HC.out w4 H4.out
  clear hw hn' hT hc3 hm3 hf3 Ht4 Ha4 hal4 hwl4 hrw4
  obtain ⟨pe, ce, hve, -⟩ := HW4.out.own.slice
  obtain ⟨ne, hne⟩ : ∃ n, v4 = .slice pe n ce := ⟨_, hve⟩
  subst hne
  have hcw := HW4.out.b.cell
  clear hve
  go_upto_region 25 with fail
  go_region
  all_goals
    have hM2 := H4.out
    have hT9 : Touch (fun k => k = w.heap.size + 1) w4 ((w4.setCell ⟨w.heap.size + 1, 0, none⟩ (.int .u8 81)).setCell ⟨w.heap.size + 1, 1, none⟩ (.slice pe ne ce)).drew := (((Touch.refl (fun k => k = w.heap.size + 1) _).setCell (x := ⟨w.heap.size + 1, 0, none⟩) (fun _ => rfl) _).setCell (x := ⟨w.heap.size + 1, 1, none⟩) (fun _ => rfl) _).drew
    have h9 := ((hM2.m.set_ 0 (.int .u8 81)).set_ 1 (.slice pe ne ce)).drew
    simp only [List.setIfInBounds_toArray, List.set_cons_succ, List.set_cons_zero] at h9
    have HO := Lib.hid (OwnR.base (HW4.out.own.touch hT9 (fun k hk e => by have := (HW4.out.own.row k hk).1; omega)) (show w.heap.size ≤ wb by omega))
    have HB := Lib.hid (hM2.bel.trans (hT9.below hM2.bel.size (fun k hk => by omega)))
    have hcf := h9.cell
    clear hT9 h9 hM2 hc4 hm4 hf4 hcw
    go_wp2_with fail
    refine bodyPost_ret (v := .tuple #[.agg #[.int .u8 81, .slice pe ne ce], .int .i64 0]) (by simp [results, Try.results26, go_sem, hcf]) rfl ?_
    exact ⟨_, rfl, HO.out, HB.out⟩

set_option maxRecDepth 100000 in
set_option maxHeartbeats 4000000 in
theorem enc_O (S : Nat → Prop) (x : FoV) (a : FoP) (w : World) (h : FoL S w x a) (hfb : FoB x) (hsm : SmallF x) (hck : checkF x = 0) (hk : ∀ n ∈ [80, 66, 67, 68, 69, 81], (x.kind == n) = false) : Calls Try.prog 26 #[foArg x a] w (EncR x w) := by
  have H0 := Lib.hid (EnI.start h)
  have HK := Lib.hid (fun (w0 : World) (H : EnI w w0 x a) => check_any _ x a w0 H.l hfb)
  have g1 := hk 80 (by simp)
  have g2 := hk 66 (by simp)
  have g3 := hk 67 (by simp)
  have g4 := hk 68 (by simp)
  have g5 := hk 69 (by simp)
  have g6 := hk 81 (by simp)
  clear hk
  have Hev : Hid (encF x = (x.kind, [], 0)) := Lib.hid (by unfold encF; rw [if_pos hck]; unfold bodyF; simp_all)
  rw [hck] at HK
  clear hck
  have Hsm := Lib.hid hsm
  obtain ⟨hn, hp, ht, ho, hf, hr, hc, hb⟩ := hsm
  have HC : Hid (∀ w1 : World, EnI w w1 x a → (∀ i, w1.cell? ⟨w.heap.size, i, none⟩ = (foCells x a)[i]?) ∧ (∀ i, w1.cell? ⟨w.heap.size + 1, i, none⟩ = (#[.int .u8 0, .slice none 0 0] : Array Value)[i]?) ∧ (∀ i, w1.frozen? ⟨w.heap.size + 1, i, none⟩ = false)) := Lib.hid (fun w1 H => ⟨H.b.cell, H.m.cell, H.m.frozen⟩)
  have Hhb := Lib.hid hb
  unfold EncR
  rw [Hev.out]
  dsimp only
  obtain ⟨xk, xw, xn, xp, xt, xo, xf, xr, xc, xm⟩ := x
  obtain ⟨apo, aco, apf, acf, apr, acr, app, acp⟩ := a
  clear h hfb hb
  unfold foArg at *
  unfold foCells at *
  dsimp only at *
  go_enter Try.func26, Try.ntmps26
  go_upto_region 1 with (fail)
  generalize (w.alloc (.cells #[.int .u8 xk, .int .u8 xw, .string xn, .string xp, .string xt, .slice apo xo.length aco, .slice apf xf.length acf, .slice apr xr.length acr, .slice app xc.length acp, .int .i64 xm] 44)).alloc (.cells #[.int .u8 0, .slice none 0 0] 47) = w1 at *
  obtain ⟨hc1, hm1, hf1⟩ := HC.out w1 H0.out
  go_wp2_with fail
  refine (HK.out w1 H0.out).mono ?_
  rintro e w2 ⟨rfl, hb2⟩
  have H2 := Lib.hid (H0.out.step hb2)
  obtain ⟨hc2, hm2, hf2⟩ := HC.out w2 H2.out
  clear hb2 hc1 hm1 hf1
  have HW3 : Hid (WrO w2.heap.size (w2.alloc (.cells #[.slice none 0 0] 75)) w2.heap.size (.slice none 0 0) []) := Lib.hid ⟨Blk.new _ _ _, OwnBR.empty _ _ _, by simp [rowOf], Nat.le_refl _⟩
  have H3 := Lib.hid (H2.out.step ((Below.refl _ _).alloc (Nat.le_refl _) (.cells #[.slice none 0 0] 75)))
  have hz3 : w2.heap.size ≤ (w2.alloc (.cells #[.slice none 0 0] 75)).heap.size := by simp
  have hg2 : w.heap.size + 2 ≤ w2.heap.size := by have := H2.out.m.lt; omega
  go_upto_region 5 with fail
  generalize w2.alloc (.cells #[.slice none 0 0] 75) = w3 at *
  generalize w2.heap.size = wb at *
  clear hc2 hm2 hf2 H2
  obtain ⟨hc3, hm3, hf3⟩ := HC.out w3 H3.out
  obtain ⟨pe, ne, ce, hpn⟩ : ∃ (p : Option Addr) (n c : Nat), Value.slice none 0 0 = .slice p n c := ⟨_, _, _, rfl⟩
  have hpe : pe = none := by cases hpn; rfl
  have hne : ne = 0 := by cases hpn; rfl
  have hce : ce = 0 := by cases hpn; rfl
  have hcw := HW3.out.b.cell
  rw [hpn] at hcw HW3 ⊢
  clear hpn hpe hne hce
  go_upto_region 25 with fail
  go_region
  all_goals
    have hM2 := H3.out
    have hT9 : Touch (fun k => k = w.heap.size + 1) w3 ((w3.setCell ⟨w.heap.size + 1, 0, none⟩ (.int .u8 xk)).setCell ⟨w.heap.size + 1, 1, none⟩ (.slice pe ne ce)).drew := (((Touch.refl (fun k => k = w.heap.size + 1) _).setCell (x := ⟨w.heap.size + 1, 0, none⟩) (fun _ => rfl) _).setCell (x := ⟨w.heap.size + 1, 1, none⟩) (fun _ => rfl) _).drew
    have h9 := ((hM2.m.set_ 0 (.int .u8 xk)).set_ 1 (.slice pe ne ce)).drew
    simp only [List.setIfInBounds_toArray, List.set_cons_succ, List.set_cons_zero] at h9
    have HO := Lib.hid (OwnR.base (HW3.out.own.touch hT9 (fun k hk e => by have := (HW3.out.own.row k hk).1; omega)) (show w.heap.size ≤ wb by omega))
    have HB := Lib.hid (hM2.bel.trans (hT9.below hM2.bel.size (fun k hk => by omega)))
    have hcf := h9.cell
    clear hT9 h9 hM2 hc3 hm3 hf3 hcw
    go_wp2_with fail
    refine bodyPost_ret (v := .tuple #[.agg #[.int .u8 xk, .slice pe ne ce], .int .i64 0]) (by simp [results, Try.results26, go_sem, hcf]) rfl ?_
    exact ⟨_, rfl, HO.out, HB.out⟩

end Go.Proofs.Ytldjfmddjbdciaa
