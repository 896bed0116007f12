/-
  Ground: FoP, FoQ, FpD.
-/
import Derived.Test.YtacnmdlefonjmaaGreatPdZP11
import Derived.Test.YtacnmdlefonjmaaGreatPdZP9
import Derived.Test.YtacnmdlefonjmaaGreatPdZP10
import Derived.Test.YtacnmdlefonjmaaGreatPdZP0
/-
  Messages of clients (layer 6): front.Encode.
-/
namespace Go.Proofs.YtacnmdlefonjmaaGreat
open Go.RowKit
set_option linter.unusedVariables false
set_option linter.unusedSimpArgs false

/-- A message is short. -/
structure SmallF (x : FoV) : Prop where
  n : x.name.size ≤ 100000
  p : x.portal.size ≤ 100000
  t : x.text.size ≤ 100000
  o : x.oids.length ≤ 100000
  f : x.formats.length ≤ 100000
  r : x.results.length ≤ 100000
  c : x.params.length ≤ 1000
  b : ∀ c ∈ x.params, c.bytes.length ≤ 2000

/-- What Encode leaves. -/
def EncR (x : FoV) (w : World) (e : Ending) (w' : World) : Prop :=
  ∃ v, e = .returned (.tuple #[.agg #[.int .u8 (encF x).1, v], .int .i64 (encF x).2.2]) ∧ OwnBR w.heap.size w' v (encF x).2.1 ∧ Below w.heap.size w w'

/-- The message and the result in their blocks. -/
structure EnI (w0 w : World) (x : FoV) (a : FoP) : Prop where
  b : Blk w w0.heap.size 46 (foCells x a)
  m : Blk w (w0.heap.size + 1) 73 #[.int .u8 0, .slice none 0 0]
  l : FoL (fun k => k < w0.heap.size) w x a
  bel : Below w0.heap.size w0 w
section
variable {w0 w w' : World} {x : FoV} {a : FoP}
theorem EnI.step2 (h : EnI w0 w x a) (hb : Below (w0.heap.size + 2) w w') : EnI w0 w' x a :=
  ⟨h.b.below hb (by omega), h.m.below hb (by omega), h.l.keep (Kept.below hb (fun k _ hs => ⟨hs, by omega⟩)), h.bel.trans (hb.mono (by omega))⟩
theorem EnI.step (h : EnI w0 w x a) (hb : Below w.heap.size w w') : EnI w0 w' x a := by
  have h2 := h.m.lt
  exact h.step2 (hb.mono (by omega))
theorem EnI.start {S : Nat → Prop} {w : World} (h : FoL S w x a) : EnI w ((w.alloc (.cells (foCells x a) 46)).alloc (.cells #[.int .u8 0, .slice none 0 0] 73)) x a := by
  have hb : Below w.heap.size w ((w.alloc (.cells (foCells x a) 46)).alloc (.cells #[.int .u8 0, .slice none 0 0] 73)) := ((Below.refl _ _).alloc (Nat.le_refl _) _).alloc (by simp) _
  refine ⟨(Blk.new _ _ _).alloc _, ?_, ((h.weak (S' := fun k => k < w.heap.size) (fun k hk _ => hk)).below hb), hb⟩
  have := Blk.new (w.alloc (.cells (foCells x a) 46)) 73 #[.int .u8 0, .slice none 0 0]
  simpa using this
end

theorem slice1 (w : World) (e : TypeId) (a : ByteArray) : SliceS 1 StrU (fun k => k = w.heap.size) (w.alloc (.cells #[.string a] e)) [.slice (some ⟨w.heap.size, 0, none⟩) 1 1] [a] := by
  refine ⟨_, _, [[.string a]], rfl, Nat.le_refl _, by simp [maxLen], fun j u hu => ⟨_, _, rfl, rfl, ?_⟩, ?_⟩
  · rw [Nat.zero_add, World.cell?_alloc_new]
    simpa using hu
  · exact ⟨⟨rfl, rfl⟩, trivial⟩
theorem slice2 (w : World) (e : TypeId) (a b : ByteArray) : SliceS 1 StrU (fun k => k = w.heap.size) (w.alloc (.cells #[.string a, .string b] e)) [.slice (some ⟨w.heap.size, 0, none⟩) 2 2] [a, b] := by
  refine ⟨_, _, [[.string a], [.string b]], rfl, Nat.le_refl _, by simp [maxLen], fun j u hu => ⟨_, _, rfl, rfl, ?_⟩, ?_⟩
  · rw [Nat.zero_add, World.cell?_alloc_new]
    simpa using hu
  · exact ⟨⟨rfl, rfl⟩, ⟨rfl, rfl⟩, trivial⟩

theorem set_alloc_comm (w : World) (p : Addr) (u : Value) (o : Obj) (h : p.block < w.heap.size) : (w.alloc o).setCell p u = (w.setCell p u).alloc o := by
  simp only [World.setCell, World.alloc]
  congr 1
  apply Array.ext
  · simp
  · intro i h1 h2
    simp only [Array.getElem_modify, Array.getElem_push, Array.size_modify]
    by_cases e : p.block = i
    · subst e
      simp [h]
    · simp [e]
theorem own_byte (w : World) (B : Nat) (k : Int) (hB : B ≤ w.heap.size) (h0 : 0 ≤ k) (h1 : k < 256) : OwnBR B (w.alloc (.cells #[.int .u8 k] 5)) (.slice (some ⟨w.heap.size, 0, none⟩) 1 1) [UInt8.ofNat k.toNat] := by
  have h := OwnR.new (e := 5) (size := 1) B w 1 #[.int .u8 k] (by omega) (by simp [maxLen]) rfl hB
  have e : bytesV [UInt8.ofNat k.toNat] = [.int .u8 k] := by
    have : ((UInt8.ofNat k.toNat).toNat : Int) = k := by simp; omega
    simp only [bytesV, byteV, List.map_cons, List.map_nil, this]
  unfold OwnBR
  rw [e]
  exact h

theorem listB_len (b : List UInt8) (l : List Int) (size : Nat) : (listB b l size).length ≤ b.length + 4 + 4 * l.length := by
  rw [← listP_all]
  exact listP_len b l size _ (Nat.le_refl _)
theorem rowB_len (b : List UInt8) (l : List CeV) (m : Nat) (hm : ∀ c ∈ l, c.bytes.length ≤ m) : (rowB b l).length ≤ b.length + 4 + (m + 4) * l.length := by
  rw [← rowP_all]
  exact rowP_len b l m hm _ (Nat.le_refl _)

end Go.Proofs.YtacnmdlefonjmaaGreat

/-
  Messages of clients (layer 6): front.Encode whole; the document's Encode.
-/
namespace Go.Proofs.YtacnmdlefonjmaaGreat
open Go.RowKit
set_option linter.unusedVariables false
set_option linter.unusedSimpArgs false

theorem ok_of {x : FoV} (h : checkF x = 0) : okF x = true := by
  unfold checkF at h
  split at h
  · split at h
    · assumption
    · cases h
  · cases h
theorem ok_what {x : FoV} (h : checkF x = 0) : whatV x = true := by
  have := ok_of h
  unfold okF at this
  simp only [Bool.and_eq_true] at this
  exact this.1
theorem ok_kept {x : FoV} (h : checkF x = 0) : foEq x (keptV x) = true := by
  have := ok_of h
  unfold okF at this
  simp only [Bool.and_eq_true] at this
  exact this.2.2.2.2

theorem app_empty (s : ByteArray) : s ++ (⟨#[]⟩ : ByteArray) = s := by
  apply ByteArray.ext
  simp
theorem empty_app (s : ByteArray) : (⟨#[]⟩ : ByteArray) ++ s = s := by
  apply ByteArray.ext
  simp
theorem eq_empty {s : ByteArray} (h : s.toList = (⟨#[]⟩ : ByteArray).toList) : s = ⟨#[]⟩ := by
  have hs : s = strOf s.data.toList := by simp [strOf]
  rw [hs, strOf_toList] at h
  have h0 : (⟨#[]⟩ : ByteArray).toList = [] := by
    show (strOf []).toList = []
    exact strOf_toList []
  rw [h0] at h
  rw [hs, h]
  rfl

set_option maxRecDepth 100000 in
set_option maxHeartbeats 4000000 in
theorem renc_no (S : Nat → Prop) (x : FoV) (a : FoP) (w : World) (h : FoL S w x a) (hfb : FoB x) (hsm : SmallF x) (hck : checkF x ≠ 0) : Calls Tryz.prog 41 #[foArg x a] w (EncR x w) := by
  have H0 := Lib.hid (EnI.start h)
  have HK := Lib.hid (fun (w0 : World) (H : EnI w w0 x a) => rcheck_any _ x a w0 H.l hfb (by have := hsm.n; unfold maxLen; omega) (by have := hsm.p; unfold maxLen; omega) (by have := hsm.t; unfold maxLen; omega))
  have Hev : Hid (encF x = (0, [], checkF x)) := Lib.hid (by unfold encF; rw [if_neg hck])
  generalize checkF x = cv at *
  have Hsm := Lib.hid hsm
  obtain ⟨hn, hp, ht, ho, hf, hr, hc, hb⟩ := hsm
  have HC : Hid (∀ w1 : World, EnI w w1 x a → (∀ i, w1.cell? ⟨w.heap.size, i, none⟩ = (foCells x a)[i]?) ∧ (∀ i, w1.cell? ⟨w.heap.size + 1, i, none⟩ = (#[.int .u8 0, .slice none 0 0] : Array Value)[i]?) ∧ (∀ i, w1.frozen? ⟨w.heap.size + 1, i, none⟩ = false)) := Lib.hid (fun w1 H => ⟨H.b.cell, H.m.cell, H.m.frozen⟩)
  have Hhb := Lib.hid hb
  unfold EncR
  rw [Hev.out]
  dsimp only
  obtain ⟨xk, xw, xn, xp, xt, xo, xf, xr, xc, xm⟩ := x
  obtain ⟨apo, aco, apf, acf, apr, acr, app, acp⟩ := a
  clear h hfb hb
  unfold foArg at *
  unfold foCells at *
  dsimp only at *
  go_enter Tryz.func41, Tryz.ntmps41
  go_upto_region 1 with (fail)
  generalize (w.alloc (.cells #[.int .u8 xk, .int .u8 xw, .string xn, .string xp, .string xt, .slice apo xo.length aco, .slice apf xf.length acf, .slice apr xr.length acr, .slice app xc.length acp, .int .i64 xm] 46)).alloc (.cells #[.int .u8 0, .slice none 0 0] 73) = w1 at *
  obtain ⟨hc1, hm1, hf1⟩ := HC.out w1 H0.out
  go_wp2_with fail
  refine (HK.out w1 H0.out).mono ?_
  rintro e w2 ⟨rfl, hb2⟩
  have H2 := Lib.hid (H0.out.step hb2)
  obtain ⟨hc2, hm2, hf2⟩ := HC.out w2 H2.out
  clear hb2 hc1 hm1 hf1
  have hcb : (cv == 0) = false := by simpa using hck
  clear hck
  go_wp2_with fail
  have hM2 := H2.out
  have hT9 : Touch (fun k => k = w.heap.size + 1) w2 ((w2.setCell ⟨w.heap.size + 1, 0, none⟩ (.int .u8 0)).setCell ⟨w.heap.size + 1, 1, none⟩ (.slice none 0 0)) := ((Touch.refl (fun k => k = w.heap.size + 1) _).setCell (x := ⟨w.heap.size + 1, 0, none⟩) (fun _ => rfl) _).setCell (x := ⟨w.heap.size + 1, 1, none⟩) (fun _ => rfl) _
  have h9 := ((hM2.m.set_ 0 (.int .u8 0)).set_ 1 (.slice none 0 0))
  simp only [List.setIfInBounds_toArray, List.set_cons_succ, List.set_cons_zero] at h9
  have hcf := h9.cell
  have HB := Lib.hid (hM2.bel.trans (hT9.below hM2.bel.size (fun k hk => by omega)))
  clear hT9 h9 hM2 hc2 hm2 hf2
  refine bodyPost_ret (v := .tuple #[.agg #[.int .u8 0, .slice none 0 0], .int .i64 cv]) (by simp [results, Tryz.results41, go_sem, hcf]) rfl ?_
  exact ⟨_, rfl, OwnBR.empty _ _ _, HB.out⟩

set_option maxRecDepth 100000 in
set_option maxHeartbeats 4000000 in
theorem renc_P (S : Nat → Prop) (x : FoV) (a : FoP) (w : World) (h : FoL S w x a) (hfb : FoB x) (hsm : SmallF x) (hck : checkF x = 0) (hk : x.kind = 80) : Calls Tryz.prog 41 #[foArg x a] w (EncR x w) := by
  have H0 := Lib.hid (EnI.start h)
  have HK := Lib.hid (fun (w0 : World) (H : EnI w w0 x a) => rcheck_any _ x a w0 H.l hfb (by have := hsm.n; unfold maxLen; omega) (by have := hsm.p; unfold maxLen; omega) (by have := hsm.t; unfold maxLen; omega))
  have Hev : Hid (encF x = (80, listB (strB (strB [] x.name) x.text) x.oids 4, 0)) := Lib.hid (by unfold encF; rw [if_pos hck]; unfold bodyF; simp_all)
  rw [hck] at HK
  clear hck
  have Hsm := Lib.hid hsm
  obtain ⟨hn, hp, ht, ho, hf, hr, hc, hb⟩ := hsm
  have HC : Hid (∀ w1 : World, EnI w w1 x a → (∀ i, w1.cell? ⟨w.heap.size, i, none⟩ = (foCells x a)[i]?) ∧ (∀ i, w1.cell? ⟨w.heap.size + 1, i, none⟩ = (#[.int .u8 0, .slice none 0 0] : Array Value)[i]?) ∧ (∀ i, w1.frozen? ⟨w.heap.size + 1, i, none⟩ = false)) := Lib.hid (fun w1 H => ⟨H.b.cell, H.m.cell, H.m.frozen⟩)
  have Hhb := Lib.hid hb
  unfold EncR
  rw [Hev.out]
  dsimp only
  obtain ⟨xk, xw, xn, xp, xt, xo, xf, xr, xc, xm⟩ := x
  obtain ⟨apo, aco, apf, acf, apr, acr, app, acp⟩ := a
  clear h hfb hb
  unfold foArg at *
  unfold foCells at *
  dsimp only at *
  subst hk
  go_enter Tryz.func41, Tryz.ntmps41
  go_upto_region 1 with (fail)
  generalize (w.alloc (.cells #[.int .u8 80, .int .u8 xw, .string xn, .string xp, .string xt, .slice apo xo.length aco, .slice apf xf.length acf, .slice apr xr.length acr, .slice app xc.length acp, .int .i64 xm] 46)).alloc (.cells #[.int .u8 0, .slice none 0 0] 73) = w1 at *
  obtain ⟨hc1, hm1, hf1⟩ := HC.out w1 H0.out
  go_wp2_with fail
  refine (HK.out w1 H0.out).mono ?_
  rintro e w2 ⟨rfl, hb2⟩
  have H2 := Lib.hid (H0.out.step hb2)
  obtain ⟨hc2, hm2, hf2⟩ := HC.out w2 H2.out
  clear hb2 hc1 hm1 hf1
  have hg2 : w.heap.size + 2 ≤ w2.heap.size := by have := H2.out.m.lt; omega
  go_upto_region 7 with fail
  go_region_held3 (fun w' => ∀ i, w'.cell? ⟨w.heap.size, i, none⟩ = (#[.int .u8 80, .int .u8 xw, .string xn, .string xp, .string xt, .slice apo xo.length aco, .slice apf xf.length acf, .slice apr xr.length acr, .slice app xc.length acp, .int .i64 xm] : Array Value)[i]?)
    (first | exact hc2 | exact (HC.out _ HE1.out).1 | exact (HC.out _ HE2.out).1 | exact (HC.out _ HE3.out).1 | go_keep)
    (first
      | (go_at_call 66; obtain ⟨pz3, cz3, hvz3, -, -, qz3, -⟩ := OwnBR.slice Ho2.out; subst hvz3; refine (rlist_any _ pz3 _ cz3 _ _ _ _ 4 4 rfl wn2 qz3 HE2.out.l.lo (by have e1 := strB_len [] xn; have e2 := strB_len (strB [] xn) xt; simp only [List.length_nil] at *; omega) (show xo.length ≤ 1000000 by omega)).mono ?_; rintro e wn3 ⟨u3, rfl, ho, hb⟩; have Ho3 : Hid (OwnBR w2.heap.size wn3 u3 _) := Lib.hid (OwnR.base ho HBb2.out.size); have hB3 : Below w2.heap.size w2 wn3 := HBb2.out.trans (hb.mono HBb2.out.size); have HE3 := Lib.hid (H2.out.step2 (hB3.mono hg2)); have HBb3 := Lib.hid hB3; clear ho hb hB3 qz3)
      | (go_at_call 67; refine (rstr_any w2.heap.size _ _ xt wn1 Ho1.out HBb1.out.size (by have e1 := strB_len [] xn; simp only [List.length_nil] at *; omega) (by omega)).mono ?_; rintro e wn2 ⟨u2, rfl, ho, hb⟩; have Ho2 := Lib.hid ho; have hB2 : Below w2.heap.size w2 wn2 := HBb1.out.trans hb; have HE2 := Lib.hid (H2.out.step2 (hB2.mono hg2)); have HBb2 := Lib.hid hB2; clear ho hb hB2)
      | (go_at_call 67; refine (rstr_any w2.heap.size (.slice none 0 0) [] xn (w2.drewN 1) (OwnBR.empty _ _ _) (Nat.le_refl _) (by simp) (by omega)).mono ?_; rintro e wn1 ⟨u1, rfl, ho, hb⟩; have Ho1 := Lib.hid ho; have hB1 : Below w2.heap.size w2 wn1 := (bel_drewN1 w2).trans hb; have HE1 := Lib.hid (H2.out.step2 (hB1.mono hg2)); have HBb1 := Lib.hid hB1; clear ho hb hB1))
  clear hc2 hm2 hf2
  obtain ⟨hc9, hm9, hf9⟩ := HC.out wn3 HE3.out
  obtain ⟨ne, pe, ce, hve⟩ : ∃ n p c, u3 = .slice p n c := (by obtain ⟨p, c, h, _⟩ := OwnBR.slice Ho3.out; exact ⟨_, p, c, h⟩)
  subst hve
  go_upto_region 17 with fail
  have hM2 := HE3.out
  go_wp2_with fail
  have hT9 : Touch (fun k => k = w.heap.size + 1) wn3 ((wn3.setCell ⟨w.heap.size + 1, 0, none⟩ (.int .u8 80)).setCell ⟨w.heap.size + 1, 1, none⟩ (.slice pe ne ce)) := ((Touch.refl (fun k => k = w.heap.size + 1) _).setCell (x := ⟨w.heap.size + 1, 0, none⟩) (fun _ => rfl) _).setCell (x := ⟨w.heap.size + 1, 1, none⟩) (fun _ => rfl) _
  have h9 := ((hM2.m.set_ 0 (.int .u8 80)).set_ 1 (.slice pe ne ce))
  simp only [List.setIfInBounds_toArray, List.set_cons_succ, List.set_cons_zero] at h9
  have HO := Lib.hid (OwnR.base (Ho3.out.touch hT9 (fun k hk e => by have := (Ho3.out.row k hk).1; omega)) (show w.heap.size ≤ w2.heap.size by omega))
  have HB := Lib.hid (hM2.bel.trans (hT9.below hM2.bel.size (fun k hk => by omega)))
  have hcf := h9.cell
  clear hT9 h9 hM2 hc9 hm9 hf9
  refine bodyPost_ret (v := .tuple #[.agg #[.int .u8 80, .slice pe ne ce], .int .i64 0]) (by simp [results, Tryz.results41, go_sem, hcf]) rfl ?_
  exact ⟨_, rfl, HO.out, HB.out⟩

set_option maxRecDepth 100000 in
set_option maxHeartbeats 4000000 in
theorem renc_B (S : Nat → Prop) (x : FoV) (a : FoP) (w : World) (h : FoL S w x a) (hfb : FoB x) (hsm : SmallF x) (hck : checkF x = 0) (hk : x.kind = 66) : Calls Tryz.prog 41 #[foArg x a] w (EncR x w) := by
  have H0 := Lib.hid (EnI.start h)
  have HK := Lib.hid (fun (w0 : World) (H : EnI w w0 x a) => rcheck_any _ x a w0 H.l hfb (by have := hsm.n; unfold maxLen; omega) (by have := hsm.p; unfold maxLen; omega) (by have := hsm.t; unfold maxLen; omega))
  have Hev : Hid (encF x = (66, listB (rowB (listB (strB (strB [] x.portal) x.name) x.formats 2) x.params) x.results 2, 0)) := Lib.hid (by unfold encF; rw [if_pos hck]; unfold bodyF; simp_all)
  rw [hck] at HK
  clear hck
  have Hsm := Lib.hid hsm
  obtain ⟨hn, hp, ht, ho, hf, hr, hc, hb⟩ := hsm
  have HC : Hid (∀ w1 : World, EnI w w1 x a → (∀ i, w1.cell? ⟨w.heap.size, i, none⟩ = (foCells x a)[i]?) ∧ (∀ i, w1.cell? ⟨w.heap.size + 1, i, none⟩ = (#[.int .u8 0, .slice none 0 0] : Array Value)[i]?) ∧ (∀ i, w1.frozen? ⟨w.heap.size + 1, i, none⟩ = false)) := Lib.hid (fun w1 H => ⟨H.b.cell, H.m.cell, H.m.frozen⟩)
  have Hhb := Lib.hid hb
  unfold EncR
  rw [Hev.out]
  dsimp only
  obtain ⟨xk, xw, xn, xp, xt, xo, xf, xr, xc, xm⟩ := x
  obtain ⟨apo, aco, apf, acf, apr, acr, app, acp⟩ := a
  clear h hfb hb
  unfold foArg at *
  unfold foCells at *
  dsimp only at *
  subst hk
  go_enter Tryz.func41, Tryz.ntmps41
  go_upto_region 1 with (fail)
  generalize (w.alloc (.cells #[.int .u8 66, .int .u8 xw, .string xn, .string xp, .string xt, .slice apo xo.length aco, .slice apf xf.length acf, .slice apr xr.length acr, .slice app xc.length acp, .int .i64 xm] 46)).alloc (.cells #[.int .u8 0, .slice none 0 0] 73) = w1 at *
  obtain ⟨hc1, hm1, hf1⟩ := HC.out w1 H0.out
  go_wp2_with fail
  refine (HK.out w1 H0.out).mono ?_
  rintro e w2 ⟨rfl, hb2⟩
  have H2 := Lib.hid (H0.out.step hb2)
  obtain ⟨hc2, hm2, hf2⟩ := HC.out w2 H2.out
  clear hb2 hc1 hm1 hf1
  have hg2 : w.heap.size + 2 ≤ w2.heap.size := by have := H2.out.m.lt; omega
  go_upto_region 9 with fail
  go_region_held3 (fun w' => ∀ i, w'.cell? ⟨w.heap.size, i, none⟩ = (#[.int .u8 66, .int .u8 xw, .string xn, .string xp, .string xt, .slice apo xo.length aco, .slice apf xf.length acf, .slice apr xr.length acr, .slice app xc.length acp, .int .i64 xm] : Array Value)[i]?)
    (first | exact hc2 | exact (HC.out _ HE1.out).1 | exact (HC.out _ HE2.out).1 | exact (HC.out _ HE3.out).1 | exact (HC.out _ HE4.out).1 | exact (HC.out _ HE5.out).1 | go_keep)
    (first
      | (go_at_call 66; obtain ⟨pz5, cz5, hvz5, -, -, qz5, -⟩ := OwnBR.slice Ho4.out; subst hvz5; refine (rlist_any _ pz5 _ cz5 _ _ _ _ 2 2 rfl wn4 qz5 HE4.out.l.lr (by have e1 := strB_len [] xp; have e2 := strB_len (strB [] xp) xn; have e3 := listB_len (strB (strB [] xp) xn) xf 2; have e4 := rowB_len (listB (strB (strB [] xp) xn) xf 2) xc 2000 Hhb.out; simp only [List.length_nil] at *; omega) (show xr.length ≤ 1000000 by omega)).mono ?_; rintro e wn5 ⟨u5, rfl, ho, hb⟩; have Ho5 : Hid (OwnBR w2.heap.size wn5 u5 _) := Lib.hid (OwnR.base ho HBb4.out.size); have hB5 : Below w2.heap.size w2 wn5 := HBb4.out.trans (hb.mono HBb4.out.size); have HE5 := Lib.hid (H2.out.step2 (hB5.mono hg2)); have HBb5 := Lib.hid hB5; clear ho hb hB5 qz5)
      | (go_at_call 68; obtain ⟨pz4, cz4, hvz4, -, -, qz4, -⟩ := OwnBR.slice Ho3.out; subst hvz4; refine (rrow_any _ pz4 _ cz4 _ _ _ _ wn3 qz4 HE3.out.l.lp (by have e1 := strB_len [] xp; have e2 := strB_len (strB [] xp) xn; have e3 := listB_len (strB (strB [] xp) xn) xf 2; simp only [List.length_nil] at *; omega) (show xc.length ≤ 10000 by omega) (fun c hc => by have := Hhb.out c hc; omega)).mono ?_; rintro e wn4 ⟨u4, rfl, ho, hb⟩; have Ho4 : Hid (OwnBR w2.heap.size wn4 u4 _) := Lib.hid (OwnR.base ho HBb3.out.size); have hB4 : Below w2.heap.size w2 wn4 := HBb3.out.trans (hb.mono HBb3.out.size); have HE4 := Lib.hid (H2.out.step2 (hB4.mono hg2)); have HBb4 := Lib.hid hB4; clear ho hb hB4 qz4)
      | (go_at_call 66; obtain ⟨pz3, cz3, hvz3, -, -, qz3, -⟩ := OwnBR.slice Ho2.out; subst hvz3; refine (rlist_any _ pz3 _ cz3 _ _ _ _ 2 2 rfl wn2 qz3 HE2.out.l.lf (by have e1 := strB_len [] xp; have e2 := strB_len (strB [] xp) xn; simp only [List.length_nil] at *; omega) (show xf.length ≤ 1000000 by omega)).mono ?_; rintro e wn3 ⟨u3, rfl, ho, hb⟩; have Ho3 : Hid (OwnBR w2.heap.size wn3 u3 _) := Lib.hid (OwnR.base ho HBb2.out.size); have hB3 : Below w2.heap.size w2 wn3 := HBb2.out.trans (hb.mono HBb2.out.size); have HE3 := Lib.hid (H2.out.step2 (hB3.mono hg2)); have HBb3 := Lib.hid hB3; clear ho hb hB3 qz3)
      | (go_at_call 67; refine (rstr_any w2.heap.size _ _ xn wn1 Ho1.out HBb1.out.size (by have e1 := strB_len [] xp; simp only [List.length_nil] at *; omega) (by omega)).mono ?_; rintro e wn2 ⟨u2, rfl, ho, hb⟩; have Ho2 := Lib.hid ho; have hB2 : Below w2.heap.size w2 wn2 := HBb1.out.trans hb; have HE2 := Lib.hid (H2.out.step2 (hB2.mono hg2)); have HBb2 := Lib.hid hB2; clear ho hb hB2)
      | (go_at_call 67; refine (rstr_any w2.heap.size (.slice none 0 0) [] xp (w2.drewN 1) (OwnBR.empty _ _ _) (Nat.le_refl _) (by simp) (by omega)).mono ?_; rintro e wn1 ⟨u1, rfl, ho, hb⟩; have Ho1 := Lib.hid ho; have hB1 : Below w2.heap.size w2 wn1 := (bel_drewN1 w2).trans hb; have HE1 := Lib.hid (H2.out.step2 (hB1.mono hg2)); have HBb1 := Lib.hid hB1; clear ho hb hB1))
  clear hc2 hm2 hf2
  obtain ⟨hc9, hm9, hf9⟩ := HC.out wn5 HE5.out
  obtain ⟨ne, pe, ce, hve⟩ : ∃ n p c, u5 = .slice p n c := (by obtain ⟨p, c, h, _⟩ := OwnBR.slice Ho5.out; exact ⟨_, p, c, h⟩)
  subst hve
  go_upto_region 17 with fail
  have hM2 := HE5.out
  go_wp2_with fail
  have hT9 : Touch (fun k => k = w.heap.size + 1) wn5 ((wn5.setCell ⟨w.heap.size + 1, 0, none⟩ (.int .u8 66)).setCell ⟨w.heap.size + 1, 1, none⟩ (.slice pe ne ce)) := ((Touch.refl (fun k => k = w.heap.size + 1) _).setCell (x := ⟨w.heap.size + 1, 0, none⟩) (fun _ => rfl) _).setCell (x := ⟨w.heap.size + 1, 1, none⟩) (fun _ => rfl) _
  have h9 := ((hM2.m.set_ 0 (.int .u8 66)).set_ 1 (.slice pe ne ce))
  simp only [List.setIfInBounds_toArray, List.set_cons_succ, List.set_cons_zero] at h9
  have HO := Lib.hid (OwnR.base (Ho5.out.touch hT9 (fun k hk e => by have := (Ho5.out.row k hk).1; omega)) (show w.heap.size ≤ w2.heap.size by omega))
  have HB := Lib.hid (hM2.bel.trans (hT9.below hM2.bel.size (fun k hk => by omega)))
  have hcf := h9.cell
  clear hT9 h9 hM2 hc9 hm9 hf9
  refine bodyPost_ret (v := .tuple #[.agg #[.int .u8 66, .slice pe ne ce], .int .i64 0]) (by simp [results, Tryz.results41, go_sem, hcf]) rfl ?_
  exact ⟨_, rfl, HO.out, HB.out⟩

set_option maxRecDepth 100000 in
set_option maxHeartbeats 4000000 in
theorem renc_E (S : Nat → Prop) (x : FoV) (a : FoP) (w : World) (h : FoL S w x a) (hfb : FoB x) (hsm : SmallF x) (hck : checkF x = 0) (hk : x.kind = 69) : Calls Tryz.prog 41 #[foArg x a] w (EncR x w) := by
  have H0 := Lib.hid (EnI.start h)
  have HK := Lib.hid (fun (w0 : World) (H : EnI w w0 x a) => rcheck_any _ x a w0 H.l hfb (by have := hsm.n; unfold maxLen; omega) (by have := hsm.p; unfold maxLen; omega) (by have := hsm.t; unfold maxLen; omega))
  have Hev : Hid (encF x = (69, putV (strB [] x.portal) x.max 4, 0)) := Lib.hid (by unfold encF; rw [if_pos hck]; unfold bodyF; simp_all)
  rw [hck] at HK
  clear hck
  have Hsm := Lib.hid hsm
  obtain ⟨hn, hp, ht, ho, hf, hr, hc, hb⟩ := hsm
  have HC : Hid (∀ w1 : World, EnI w w1 x a → (∀ i, w1.cell? ⟨w.heap.size, i, none⟩ = (foCells x a)[i]?) ∧ (∀ i, w1.cell? ⟨w.heap.size + 1, i, none⟩ = (#[.int .u8 0, .slice none 0 0] : Array Value)[i]?) ∧ (∀ i, w1.frozen? ⟨w.heap.size + 1, i, none⟩ = false)) := Lib.hid (fun w1 H => ⟨H.b.cell, H.m.cell, H.m.frozen⟩)
  have Hhb := Lib.hid hb
  unfold EncR
  rw [Hev.out]
  dsimp only
  obtain ⟨xk, xw, xn, xp, xt, xo, xf, xr, xc, xm⟩ := x
  obtain ⟨apo, aco, apf, acf, apr, acr, app, acp⟩ := a
  clear h hfb hb
  unfold foArg at *
  unfold foCells at *
  dsimp only at *
  subst hk
  go_enter Tryz.func41, Tryz.ntmps41
  go_upto_region 1 with (fail)
  generalize (w.alloc (.cells #[.int .u8 69, .int .u8 xw, .string xn, .string xp, .string xt, .slice apo xo.length aco, .slice apf xf.length acf, .slice apr xr.length acr, .slice app xc.length acp, .int .i64 xm] 46)).alloc (.cells #[.int .u8 0, .slice none 0 0] 73) = w1 at *
  obtain ⟨hc1, hm1, hf1⟩ := HC.out w1 H0.out
  go_wp2_with fail
  refine (HK.out w1 H0.out).mono ?_
  rintro e w2 ⟨rfl, hb2⟩
  have H2 := Lib.hid (H0.out.step hb2)
  obtain ⟨hc2, hm2, hf2⟩ := HC.out w2 H2.out
  clear hb2 hc1 hm1 hf1
  have hg2 : w.heap.size + 2 ≤ w2.heap.size := by have := H2.out.m.lt; omega
  go_upto_region 14 with fail
  go_region_held3 (fun w' => ∀ i, w'.cell? ⟨w.heap.size, i, none⟩ = (#[.int .u8 69, .int .u8 xw, .string xn, .string xp, .string xt, .slice apo xo.length aco, .slice apf xf.length acf, .slice apr xr.length acr, .slice app xc.length acp, .int .i64 xm] : Array Value)[i]?)
    (first | exact hc2 | exact (HC.out _ HE1.out).1 | exact (HC.out _ HE2.out).1 | go_keep)
    (first
      | (go_at_call 69; obtain ⟨pz2, cz2, hvz2, -, -, qz2, -⟩ := OwnBR.slice Ho1.out; subst hvz2; refine (putR_any pz2 _ cz2 xm 4 wn1 (by have e1 := strB_len [] xp; simp only [List.length_nil] at *; omega) qz2).mono ?_; rintro e wn2 ⟨u2, rfl, ho, hb⟩; have Ho2 : Hid (OwnBR w2.heap.size wn2 u2 _) := Lib.hid (OwnR.base (OwnBR.of ho) HBb1.out.size); have hB2 : Below w2.heap.size w2 wn2 := HBb1.out.trans (hb.mono HBb1.out.size); have HE2 := Lib.hid (H2.out.step2 (hB2.mono hg2)); have HBb2 := Lib.hid hB2; clear ho hb hB2 qz2)
      | (go_at_call 67; refine (rstr_any w2.heap.size (.slice none 0 0) [] xp (w2.drewN 1) (OwnBR.empty _ _ _) (Nat.le_refl _) (by simp) (by omega)).mono ?_; rintro e wn1 ⟨u1, rfl, ho, hb⟩; have Ho1 := Lib.hid ho; have hB1 : Below w2.heap.size w2 wn1 := (bel_drewN1 w2).trans hb; have HE1 := Lib.hid (H2.out.step2 (hB1.mono hg2)); have HBb1 := Lib.hid hB1; clear ho hb hB1))
  clear hc2 hm2 hf2
  obtain ⟨hc9, hm9, hf9⟩ := HC.out wn2 HE2.out
  obtain ⟨ne, pe, ce, hve⟩ : ∃ n p c, u2 = .slice p n c := (by obtain ⟨p, c, h, _⟩ := OwnBR.slice Ho2.out; exact ⟨_, p, c, h⟩)
  subst hve
  go_upto_region 17 with fail
  have hM2 := HE2.out
  go_wp2_with fail
  have hT9 : Touch (fun k => k = w.heap.size + 1) wn2 ((wn2.setCell ⟨w.heap.size + 1, 0, none⟩ (.int .u8 69)).setCell ⟨w.heap.size + 1, 1, none⟩ (.slice pe ne ce)) := ((Touch.refl (fun k => k = w.heap.size + 1) _).setCell (x := ⟨w.heap.size + 1, 0, none⟩) (fun _ => rfl) _).setCell (x := ⟨w.heap.size + 1, 1, none⟩) (fun _ => rfl) _
  have h9 := ((hM2.m.set_ 0 (.int .u8 69)).set_ 1 (.slice pe ne ce))
  simp only [List.setIfInBounds_toArray, List.set_cons_succ, List.set_cons_zero] at h9
  have HO := Lib.hid (OwnR.base (Ho2.out.touch hT9 (fun k hk e => by have := (Ho2.out.row k hk).1; omega)) (show w.heap.size ≤ w2.heap.size by omega))
  have HB := Lib.hid (hM2.bel.trans (hT9.below hM2.bel.size (fun k hk => by omega)))
  have hcf := h9.cell
  clear hT9 h9 hM2 hc9 hm9 hf9
  refine bodyPost_ret (v := .tuple #[.agg #[.int .u8 69, .slice pe ne ce], .int .i64 0]) (by simp [results, Tryz.results41, go_sem, hcf]) rfl ?_
  exact ⟨_, rfl, HO.out, HB.out⟩

set_option maxRecDepth 100000 in
set_option maxHeartbeats 4000000 in
theorem renc_Q (S : Nat → Prop) (x : FoV) (a : FoP) (w : World) (h : FoL S w x a) (hfb : FoB x) (hsm : SmallF x) (hck : checkF x = 0) (hk : x.kind = 81) : Calls Tryz.prog 41 #[foArg x a] w (EncR x w) := by
  have H0 := Lib.hid (EnI.start h)
  have HK := Lib.hid (fun (w0 : World) (H : EnI w w0 x a) => rcheck_any _ x a w0 H.l hfb (by have := hsm.n; unfold maxLen; omega) (by have := hsm.p; unfold maxLen; omega) (by have := hsm.t; unfold maxLen; omega))
  have Hev : Hid (encF x = (81, strB [] x.text, 0)) := Lib.hid (by unfold encF; rw [if_pos hck]; unfold bodyF; simp_all)
  rw [hck] at HK
  clear hck
  have Hsm := Lib.hid hsm
  obtain ⟨hn, hp, ht, ho, hf, hr, hc, hb⟩ := hsm
  have HC : Hid (∀ w1 : World, EnI w w1 x a → (∀ i, w1.cell? ⟨w.heap.size, i, none⟩ = (foCells x a)[i]?) ∧ (∀ i, w1.cell? ⟨w.heap.size + 1, i, none⟩ = (#[.int .u8 0, .slice none 0 0] : Array Value)[i]?) ∧ (∀ i, w1.frozen? ⟨w.heap.size + 1, i, none⟩ = false)) := Lib.hid (fun w1 H => ⟨H.b.cell, H.m.cell, H.m.frozen⟩)
  have Hhb := Lib.hid hb
  unfold EncR
  rw [Hev.out]
  dsimp only
  obtain ⟨xk, xw, xn, xp, xt, xo, xf, xr, xc, xm⟩ := x
  obtain ⟨apo, aco, apf, acf, apr, acr, app, acp⟩ := a
  clear h hfb hb
  unfold foArg at *
  unfold foCells at *
  dsimp only at *
  subst hk
  go_enter Tryz.func41, Tryz.ntmps41
  go_upto_region 1 with (fail)
  generalize (w.alloc (.cells #[.int .u8 81, .int .u8 xw, .string xn, .string xp, .string xt, .slice apo xo.length aco, .slice apf xf.length acf, .slice apr xr.length acr, .slice app xc.length acp, .int .i64 xm] 46)).alloc (.cells #[.int .u8 0, .slice none 0 0] 73) = w1 at *
  obtain ⟨hc1, hm1, hf1⟩ := HC.out w1 H0.out
  go_wp2_with fail
  refine (HK.out w1 H0.out).mono ?_
  rintro e w2 ⟨rfl, hb2⟩
  have H2 := Lib.hid (H0.out.step hb2)
  obtain ⟨hc2, hm2, hf2⟩ := HC.out w2 H2.out
  clear hb2 hc1 hm1 hf1
  have hg2 : w.heap.size + 2 ≤ w2.heap.size := by have := H2.out.m.lt; omega
  go_wp2_with fail
  refine (rstr_any w2.heap.size (.slice none 0 0) [] xt w2 (OwnBR.empty _ _ _) (Nat.le_refl _) (by simp) (by omega)).mono ?_
  rintro e wn1 ⟨u1, rfl, ho1, hb1⟩
  have Ho1 := Lib.hid ho1
  have HE1 := Lib.hid (H2.out.step2 (hb1.mono hg2))
  clear ho1 hb1
  clear hc2 hm2 hf2
  obtain ⟨hc9, hm9, hf9⟩ := HC.out wn1 HE1.out
  obtain ⟨ne, pe, ce, hve⟩ : ∃ n p c, u1 = .slice p n c := (by obtain ⟨p, c, h, _⟩ := OwnBR.slice Ho1.out; exact ⟨_, p, c, h⟩)
  subst hve
  go_upto_region 17 with fail
  have hM2 := HE1.out
  go_wp2_with fail
  have hT9 : Touch (fun k => k = w.heap.size + 1) wn1 ((wn1.setCell ⟨w.heap.size + 1, 0, none⟩ (.int .u8 81)).setCell ⟨w.heap.size + 1, 1, none⟩ (.slice pe ne ce)) := ((Touch.refl (fun k => k = w.heap.size + 1) _).setCell (x := ⟨w.heap.size + 1, 0, none⟩) (fun _ => rfl) _).setCell (x := ⟨w.heap.size + 1, 1, none⟩) (fun _ => rfl) _
  have h9 := ((hM2.m.set_ 0 (.int .u8 81)).set_ 1 (.slice pe ne ce))
  simp only [List.setIfInBounds_toArray, List.set_cons_succ, List.set_cons_zero] at h9
  have HO := Lib.hid (OwnR.base (Ho1.out.touch hT9 (fun k hk e => by have := (Ho1.out.row k hk).1; omega)) (show w.heap.size ≤ w2.heap.size by omega))
  have HB := Lib.hid (hM2.bel.trans (hT9.below hM2.bel.size (fun k hk => by omega)))
  have hcf := h9.cell
  clear hT9 h9 hM2 hc9 hm9 hf9
  refine bodyPost_ret (v := .tuple #[.agg #[.int .u8 81, .slice pe ne ce], .int .i64 0]) (by simp [results, Tryz.results41, go_sem, hcf]) rfl ?_
  exact ⟨_, rfl, HO.out, HB.out⟩

set_option maxRecDepth 100000 in
set_option maxHeartbeats 4000000 in
theorem renc_S67 (S : Nat → Prop) (x : FoV) (a : FoP) (w : World) (h : FoL S w x a) (hfb : FoB x) (hsm : SmallF x) (hck : checkF x = 0) (hk : x.kind = 67) (hw : x.what = 83) : Calls Tryz.prog 41 #[foArg x a] w (EncR x w) := by
  have H0 := Lib.hid (EnI.start h)
  have HK := Lib.hid (fun (w0 : World) (H : EnI w w0 x a) => rcheck_any _ x a w0 H.l hfb (by have := hsm.n; unfold maxLen; omega) (by have := hsm.p; unfold maxLen; omega) (by have := hsm.t; unfold maxLen; omega))
  have hkp := ok_kept hck
  have hempty : x.portal = ⟨#[]⟩ := by
    unfold foEq headEq at hkp
    have hkk : (keptV x).portal = ⟨#[]⟩ := by unfold keptV; rw [hk, hw]; simp
    rw [hkk] at hkp
    simp only [Bool.and_eq_true, beq_iff_eq] at hkp
    exact eq_empty hkp.1.2.2.2.1
  clear hkp
  have Hev : Hid (encF x = (67, strB [UInt8.ofNat (83 : Int).toNat] x.name, 0)) := Lib.hid (by unfold encF; rw [if_pos hck]; unfold bodyF; simp_all)
  rw [hck] at HK
  clear hck
  have Hsm := Lib.hid hsm
  obtain ⟨hn, hp, ht, ho, hf, hr, hc, hb⟩ := hsm
  have HC : Hid (∀ w1 : World, EnI w w1 x a → (∀ i, w1.cell? ⟨w.heap.size, i, none⟩ = (foCells x a)[i]?) ∧ (∀ i, w1.cell? ⟨w.heap.size + 1, i, none⟩ = (#[.int .u8 0, .slice none 0 0] : Array Value)[i]?) ∧ (∀ i, w1.frozen? ⟨w.heap.size + 1, i, none⟩ = false)) := Lib.hid (fun w1 H => ⟨H.b.cell, H.m.cell, H.m.frozen⟩)
  have Hhb := Lib.hid hb
  unfold EncR
  rw [Hev.out]
  dsimp only
  obtain ⟨xk, xw, xn, xp, xt, xo, xf, xr, xc, xm⟩ := x
  obtain ⟨apo, aco, apf, acf, apr, acr, app, acp⟩ := a
  clear h hfb hb
  unfold foArg at *
  unfold foCells at *
  dsimp only at *
  subst hk
  subst hw
  subst hempty
  go_enter Tryz.func41, Tryz.ntmps41
  go_upto_region 1 with (fail)
  generalize (w.alloc (.cells #[.int .u8 67, .int .u8 83, .string xn, .string ⟨#[]⟩, .string xt, .slice apo xo.length aco, .slice apf xf.length acf, .slice apr xr.length acr, .slice app xc.length acp, .int .i64 xm] 46)).alloc (.cells #[.int .u8 0, .slice none 0 0] 73) = w1 at *
  obtain ⟨hc1, hm1, hf1⟩ := HC.out w1 H0.out
  go_wp2_with fail
  refine (HK.out w1 H0.out).mono ?_
  rintro e w2 ⟨rfl, hb2⟩
  have H2 := Lib.hid (H0.out.step hb2)
  obtain ⟨hc2, hm2, hf2⟩ := HC.out w2 H2.out
  clear hb2 hc1 hm1 hf1
  have hg2 : w.heap.size + 2 ≤ w2.heap.size := by have := H2.out.m.lt; omega
  have hal : Below w2.heap.size w2 (w2.alloc (.cells #[.int .u8 83] 5)) := (Below.refl _ _).alloc (Nat.le_refl _) _
  have Hs := Lib.hid (rstr_any w2.heap.size (.slice (some ⟨w2.heap.size, 0, none⟩) 1 1) [UInt8.ofNat (83 : Int).toNat] xn _ (own_byte w2 w2.heap.size 83 (Nat.le_refl _) (by omega) (by omega)) hal.size (by simp) (by omega))
  have Hal := Lib.hid hal
  have Hax := Lib.hid (H2.out.step hal)
  obtain ⟨hca, -, -⟩ := HC.out _ Hax.out
  clear hal
  go_wp2_with fail
  rw [app_empty]
  refine Hs.out.mono ?_
  rintro e wn1 ⟨u1, rfl, ho1, hb1⟩
  have Ho1 := Lib.hid ho1
  have HE1 := Lib.hid (H2.out.step2 ((Hal.out.trans hb1).mono hg2))
  clear ho1 hb1 hca
  clear hc2 hm2 hf2
  obtain ⟨hc9, hm9, hf9⟩ := HC.out wn1 HE1.out
  obtain ⟨ne, pe, ce, hve⟩ : ∃ n p c, u1 = .slice p n c := (by obtain ⟨p, c, h, _⟩ := OwnBR.slice Ho1.out; exact ⟨_, p, c, h⟩)
  subst hve
  go_upto_region 17 with fail
  have hM2 := HE1.out
  go_wp2_with fail
  have hT9 : Touch (fun k => k = w.heap.size + 1) wn1 ((wn1.setCell ⟨w.heap.size + 1, 0, none⟩ (.int .u8 67)).setCell ⟨w.heap.size + 1, 1, none⟩ (.slice pe ne ce)) := ((Touch.refl (fun k => k = w.heap.size + 1) _).setCell (x := ⟨w.heap.size + 1, 0, none⟩) (fun _ => rfl) _).setCell (x := ⟨w.heap.size + 1, 1, none⟩) (fun _ => rfl) _
  have h9 := ((hM2.m.set_ 0 (.int .u8 67)).set_ 1 (.slice pe ne ce))
  simp only [List.setIfInBounds_toArray, List.set_cons_succ, List.set_cons_zero] at h9
  have HO := Lib.hid (OwnR.base (Ho1.out.touch hT9 (fun k hk e => by have := (Ho1.out.row k hk).1; omega)) (show w.heap.size ≤ w2.heap.size by omega))
  have HB := Lib.hid (hM2.bel.trans (hT9.below hM2.bel.size (fun k hk => by omega)))
  have hcf := h9.cell
  clear hT9 h9 hM2 hc9 hm9 hf9
  refine bodyPost_ret (v := .tuple #[.agg #[.int .u8 67, .slice pe ne ce], .int .i64 0]) (by simp [results, Tryz.results41, go_sem, hcf]) rfl ?_
  exact ⟨_, rfl, HO.out, HB.out⟩

set_option maxRecDepth 100000 in
set_option maxHeartbeats 4000000 in
theorem renc_N67 (S : Nat → Prop) (x : FoV) (a : FoP) (w : World) (h : FoL S w x a) (hfb : FoB x) (hsm : SmallF x) (hck : checkF x = 0) (hk : x.kind = 67) (hw : x.what = 80) : Calls Tryz.prog 41 #[foArg x a] w (EncR x w) := by
  have H0 := Lib.hid (EnI.start h)
  have HK := Lib.hid (fun (w0 : World) (H : EnI w w0 x a) => rcheck_any _ x a w0 H.l hfb (by have := hsm.n; unfold maxLen; omega) (by have := hsm.p; unfold maxLen; omega) (by have := hsm.t; unfold maxLen; omega))
  have hkp := ok_kept hck
  have hempty : x.name = ⟨#[]⟩ := by
    unfold foEq headEq at hkp
    have hkk : (keptV x).name = ⟨#[]⟩ := by unfold keptV; rw [hk, hw]; simp
    rw [hkk] at hkp
    simp only [Bool.and_eq_true, beq_iff_eq] at hkp
    exact eq_empty hkp.1.2.2.1
  clear hkp
  have Hev : Hid (encF x = (67, strB [UInt8.ofNat (80 : Int).toNat] x.portal, 0)) := Lib.hid (by unfold encF; rw [if_pos hck]; unfold bodyF; simp_all)
  rw [hck] at HK
  clear hck
  have Hsm := Lib.hid hsm
  obtain ⟨hn, hp, ht, ho, hf, hr, hc, hb⟩ := hsm
  have HC : Hid (∀ w1 : World, EnI w w1 x a → (∀ i, w1.cell? ⟨w.heap.size, i, none⟩ = (foCells x a)[i]?) ∧ (∀ i, w1.cell? ⟨w.heap.size + 1, i, none⟩ = (#[.int .u8 0, .slice none 0 0] : Array Value)[i]?) ∧ (∀ i, w1.frozen? ⟨w.heap.size + 1, i, none⟩ = false)) := Lib.hid (fun w1 H => ⟨H.b.cell, H.m.cell, H.m.frozen⟩)
  have Hhb := Lib.hid hb
  unfold EncR
  rw [Hev.out]
  dsimp only
  obtain ⟨xk, xw, xn, xp, xt, xo, xf, xr, xc, xm⟩ := x
  obtain ⟨apo, aco, apf, acf, apr, acr, app, acp⟩ := a
  clear h hfb hb
  unfold foArg at *
  unfold foCells at *
  dsimp only at *
  subst hk
  subst hw
  subst hempty
  go_enter Tryz.func41, Tryz.ntmps41
  go_upto_region 1 with (fail)
  generalize (w.alloc (.cells #[.int .u8 67, .int .u8 80, .string ⟨#[]⟩, .string xp, .string xt, .slice apo xo.length aco, .slice apf xf.length acf, .slice apr xr.length acr, .slice app xc.length acp, .int .i64 xm] 46)).alloc (.cells #[.int .u8 0, .slice none 0 0] 73) = w1 at *
  obtain ⟨hc1, hm1, hf1⟩ := HC.out w1 H0.out
  go_wp2_with fail
  refine (HK.out w1 H0.out).mono ?_
  rintro e w2 ⟨rfl, hb2⟩
  have H2 := Lib.hid (H0.out.step hb2)
  obtain ⟨hc2, hm2, hf2⟩ := HC.out w2 H2.out
  clear hb2 hc1 hm1 hf1
  have hg2 : w.heap.size + 2 ≤ w2.heap.size := by have := H2.out.m.lt; omega
  have hal : Below w2.heap.size w2 (w2.alloc (.cells #[.int .u8 80] 5)) := (Below.refl _ _).alloc (Nat.le_refl _) _
  have Hs := Lib.hid (rstr_any w2.heap.size (.slice (some ⟨w2.heap.size, 0, none⟩) 1 1) [UInt8.ofNat (80 : Int).toNat] xp _ (own_byte w2 w2.heap.size 80 (Nat.le_refl _) (by omega) (by omega)) hal.size (by simp) (by omega))
  have Hal := Lib.hid hal
  have Hax := Lib.hid (H2.out.step hal)
  obtain ⟨hca, -, -⟩ := HC.out _ Hax.out
  clear hal
  go_wp2_with fail
  rw [empty_app]
  refine Hs.out.mono ?_
  rintro e wn1 ⟨u1, rfl, ho1, hb1⟩
  have Ho1 := Lib.hid ho1
  have HE1 := Lib.hid (H2.out.step2 ((Hal.out.trans hb1).mono hg2))
  clear ho1 hb1 hca
  clear hc2 hm2 hf2
  obtain ⟨hc9, hm9, hf9⟩ := HC.out wn1 HE1.out
  obtain ⟨ne, pe, ce, hve⟩ : ∃ n p c, u1 = .slice p n c := (by obtain ⟨p, c, h, _⟩ := OwnBR.slice Ho1.out; exact ⟨_, p, c, h⟩)
  subst hve
  go_upto_region 17 with fail
  have hM2 := HE1.out
  go_wp2_with fail
  have hT9 : Touch (fun k => k = w.heap.size + 1) wn1 ((wn1.setCell ⟨w.heap.size + 1, 0, none⟩ (.int .u8 67)).setCell ⟨w.heap.size + 1, 1, none⟩ (.slice pe ne ce)) := ((Touch.refl (fun k => k = w.heap.size + 1) _).setCell (x := ⟨w.heap.size + 1, 0, none⟩) (fun _ => rfl) _).setCell (x := ⟨w.heap.size + 1, 1, none⟩) (fun _ => rfl) _
  have h9 := ((hM2.m.set_ 0 (.int .u8 67)).set_ 1 (.slice pe ne ce))
  simp only [List.setIfInBounds_toArray, List.set_cons_succ, List.set_cons_zero] at h9
  have HO := Lib.hid (OwnR.base (Ho1.out.touch hT9 (fun k hk e => by have := (Ho1.out.row k hk).1; omega)) (show w.heap.size ≤ w2.heap.size by omega))
  have HB := Lib.hid (hM2.bel.trans (hT9.below hM2.bel.size (fun k hk => by omega)))
  have hcf := h9.cell
  clear hT9 h9 hM2 hc9 hm9 hf9
  refine bodyPost_ret (v := .tuple #[.agg #[.int .u8 67, .slice pe ne ce], .int .i64 0]) (by simp [results, Tryz.results41, go_sem, hcf]) rfl ?_
  exact ⟨_, rfl, HO.out, HB.out⟩

set_option maxRecDepth 100000 in
set_option maxHeartbeats 4000000 in
theorem renc_S68 (S : Nat → Prop) (x : FoV) (a : FoP) (w : World) (h : FoL S w x a) (hfb : FoB x) (hsm : SmallF x) (hck : checkF x = 0) (hk : x.kind = 68) (hw : x.what = 83) : Calls Tryz.prog 41 #[foArg x a] w (EncR x w) := by
  have H0 := Lib.hid (EnI.start h)
  have HK := Lib.hid (fun (w0 : World) (H : EnI w w0 x a) => rcheck_any _ x a w0 H.l hfb (by have := hsm.n; unfold maxLen; omega) (by have := hsm.p; unfold maxLen; omega) (by have := hsm.t; unfold maxLen; omega))
  have hkp := ok_kept hck
  have hempty : x.portal = ⟨#[]⟩ := by
    unfold foEq headEq at hkp
    have hkk : (keptV x).portal = ⟨#[]⟩ := by unfold keptV; rw [hk, hw]; simp
    rw [hkk] at hkp
    simp only [Bool.and_eq_true, beq_iff_eq] at hkp
    exact eq_empty hkp.1.2.2.2.1
  clear hkp
  have Hev : Hid (encF x = (68, strB [UInt8.ofNat (83 : Int).toNat] x.name, 0)) := Lib.hid (by unfold encF; rw [if_pos hck]; unfold bodyF; simp_all)
  rw [hck] at HK
  clear hck
  have Hsm := Lib.hid hsm
  obtain ⟨hn, hp, ht, ho, hf, hr, hc, hb⟩ := hsm
  have HC : Hid (∀ w1 : World, EnI w w1 x a → (∀ i, w1.cell? ⟨w.heap.size, i, none⟩ = (foCells x a)[i]?) ∧ (∀ i, w1.cell? ⟨w.heap.size + 1, i, none⟩ = (#[.int .u8 0, .slice none 0 0] : Array Value)[i]?) ∧ (∀ i, w1.frozen? ⟨w.heap.size + 1, i, none⟩ = false)) := Lib.hid (fun w1 H => ⟨H.b.cell, H.m.cell, H.m.frozen⟩)
  have Hhb := Lib.hid hb
  unfold EncR
  rw [Hev.out]
  dsimp only
  obtain ⟨xk, xw, xn, xp, xt, xo, xf, xr, xc, xm⟩ := x
  obtain ⟨apo, aco, apf, acf, apr, acr, app, acp⟩ := a
  clear h hfb hb
  unfold foArg at *
  unfold foCells at *
  dsimp only at *
  subst hk
  subst hw
  subst hempty
  go_enter Tryz.func41, Tryz.ntmps41
  go_upto_region 1 with (fail)
  generalize (w.alloc (.cells #[.int .u8 68, .int .u8 83, .string xn, .string ⟨#[]⟩, .string xt, .slice apo xo.length aco, .slice apf xf.length acf, .slice apr xr.length acr, .slice app xc.length acp, .int .i64 xm] 46)).alloc (.cells #[.int .u8 0, .slice none 0 0] 73) = w1 at *
  obtain ⟨hc1, hm1, hf1⟩ := HC.out w1 H0.out
  go_wp2_with fail
  refine (HK.out w1 H0.out).mono ?_
  rintro e w2 ⟨rfl, hb2⟩
  have H2 := Lib.hid (H0.out.step hb2)
  obtain ⟨hc2, hm2, hf2⟩ := HC.out w2 H2.out
  clear hb2 hc1 hm1 hf1
  have hg2 : w.heap.size + 2 ≤ w2.heap.size := by have := H2.out.m.lt; omega
  have hal : Below w2.heap.size w2 (w2.alloc (.cells #[.int .u8 83] 5)) := (Below.refl _ _).alloc (Nat.le_refl _) _
  have Hs := Lib.hid (rstr_any w2.heap.size (.slice (some ⟨w2.heap.size, 0, none⟩) 1 1) [UInt8.ofNat (83 : Int).toNat] xn _ (own_byte w2 w2.heap.size 83 (Nat.le_refl _) (by omega) (by omega)) hal.size (by simp) (by omega))
  have Hal := Lib.hid hal
  have Hax := Lib.hid (H2.out.step hal)
  obtain ⟨hca, -, -⟩ := HC.out _ Hax.out
  clear hal
  go_wp2_with fail
  rw [app_empty]
  refine Hs.out.mono ?_
  rintro e wn1 ⟨u1, rfl, ho1, hb1⟩
  have Ho1 := Lib.hid ho1
  have HE1 := Lib.hid (H2.out.step2 ((Hal.out.trans hb1).mono hg2))
  clear ho1 hb1 hca
  clear hc2 hm2 hf2
  obtain ⟨hc9, hm9, hf9⟩ := HC.out wn1 HE1.out
  obtain ⟨ne, pe, ce, hve⟩ : ∃ n p c, u1 = .slice p n c := (by obtain ⟨p, c, h, _⟩ := OwnBR.slice Ho1.out; exact ⟨_, p, c, h⟩)
  subst hve
  go_upto_region 17 with fail
  have hM2 := HE1.out
  go_wp2_with fail
  have hT9 : Touch (fun k => k = w.heap.size + 1) wn1 ((wn1.setCell ⟨w.heap.size + 1, 0, none⟩ (.int .u8 68)).setCell ⟨w.heap.size + 1, 1, none⟩ (.slice pe ne ce)) := ((Touch.refl (fun k => k = w.heap.size + 1) _).setCell (x := ⟨w.heap.size + 1, 0, none⟩) (fun _ => rfl) _).setCell (x := ⟨w.heap.size + 1, 1, none⟩) (fun _ => rfl) _
  have h9 := ((hM2.m.set_ 0 (.int .u8 68)).set_ 1 (.slice pe ne ce))
  simp only [List.setIfInBounds_toArray, List.set_cons_succ, List.set_cons_zero] at h9
  have HO := Lib.hid (OwnR.base (Ho1.out.touch hT9 (fun k hk e => by have := (Ho1.out.row k hk).1; omega)) (show w.heap.size ≤ w2.heap.size by omega))
  have HB := Lib.hid (hM2.bel.trans (hT9.below hM2.bel.size (fun k hk => by omega)))
  have hcf := h9.cell
  clear hT9 h9 hM2 hc9 hm9 hf9
  refine bodyPost_ret (v := .tuple #[.agg #[.int .u8 68, .slice pe ne ce], .int .i64 0]) (by simp [results, Tryz.results41, go_sem, hcf]) rfl ?_
  exact ⟨_, rfl, HO.out, HB.out⟩

set_option maxRecDepth 100000 in
set_option maxHeartbeats 4000000 in
theorem renc_N68 (S : Nat → Prop) (x : FoV) (a : FoP) (w : World) (h : FoL S w x a) (hfb : FoB x) (hsm : SmallF x) (hck : checkF x = 0) (hk : x.kind = 68) (hw : x.what = 80) : Calls Tryz.prog 41 #[foArg x a] w (EncR x w) := by
  have H0 := Lib.hid (EnI.start h)
  have HK := Lib.hid (fun (w0 : World) (H : EnI w w0 x a) => rcheck_any _ x a w0 H.l hfb (by have := hsm.n; unfold maxLen; omega) (by have := hsm.p; unfold maxLen; omega) (by have := hsm.t; unfold maxLen; omega))
  have hkp := ok_kept hck
  have hempty : x.name = ⟨#[]⟩ := by
    unfold foEq headEq at hkp
    have hkk : (keptV x).name = ⟨#[]⟩ := by unfold keptV; rw [hk, hw]; simp
    rw [hkk] at hkp
    simp only [Bool.and_eq_true, beq_iff_eq] at hkp
    exact eq_empty hkp.1.2.2.1
  clear hkp
  have Hev : Hid (encF x = (68, strB [UInt8.ofNat (80 : Int).toNat] x.portal, 0)) := Lib.hid (by unfold encF; rw [if_pos hck]; unfold bodyF; simp_all)
  rw [hck] at HK
  clear hck
  have Hsm := Lib.hid hsm
  obtain ⟨hn, hp, ht, ho, hf, hr, hc, hb⟩ := hsm
  have HC : Hid (∀ w1 : World, EnI w w1 x a → (∀ i, w1.cell? ⟨w.heap.size, i, none⟩ = (foCells x a)[i]?) ∧ (∀ i, w1.cell? ⟨w.heap.size + 1, i, none⟩ = (#[.int .u8 0, .slice none 0 0] : Array Value)[i]?) ∧ (∀ i, w1.frozen? ⟨w.heap.size + 1, i, none⟩ = false)) := Lib.hid (fun w1 H => ⟨H.b.cell, H.m.cell, H.m.frozen⟩)
  have Hhb := Lib.hid hb
  unfold EncR
  rw [Hev.out]
  dsimp only
  obtain ⟨xk, xw, xn, xp, xt, xo, xf, xr, xc, xm⟩ := x
  obtain ⟨apo, aco, apf, acf, apr, acr, app, acp⟩ := a
  clear h hfb hb
  unfold foArg at *
  unfold foCells at *
  dsimp only at *
  subst hk
  subst hw
  subst hempty
  go_enter Tryz.func41, Tryz.ntmps41
  go_upto_region 1 with (fail)
  generalize (w.alloc (.cells #[.int .u8 68, .int .u8 80, .string ⟨#[]⟩, .string xp, .string xt, .slice apo xo.length aco, .slice apf xf.length acf, .slice apr xr.length acr, .slice app xc.length acp, .int .i64 xm] 46)).alloc (.cells #[.int .u8 0, .slice none 0 0] 73) = w1 at *
  obtain ⟨hc1, hm1, hf1⟩ := HC.out w1 H0.out
  go_wp2_with fail
  refine (HK.out w1 H0.out).mono ?_
  rintro e w2 ⟨rfl, hb2⟩
  have H2 := Lib.hid (H0.out.step hb2)
  obtain ⟨hc2, hm2, hf2⟩ := HC.out w2 H2.out
  clear hb2 hc1 hm1 hf1
  have hg2 : w.heap.size + 2 ≤ w2.heap.size := by have := H2.out.m.lt; omega
  have hal : Below w2.heap.size w2 (w2.alloc (.cells #[.int .u8 80] 5)) := (Below.refl _ _).alloc (Nat.le_refl _) _
  have Hs := Lib.hid (rstr_any w2.heap.size (.slice (some ⟨w2.heap.size, 0, none⟩) 1 1) [UInt8.ofNat (80 : Int).toNat] xp _ (own_byte w2 w2.heap.size 80 (Nat.le_refl _) (by omega) (by omega)) hal.size (by simp) (by omega))
  have Hal := Lib.hid hal
  have Hax := Lib.hid (H2.out.step hal)
  obtain ⟨hca, -, -⟩ := HC.out _ Hax.out
  clear hal
  go_wp2_with fail
  rw [empty_app]
  refine Hs.out.mono ?_
  rintro e wn1 ⟨u1, rfl, ho1, hb1⟩
  have Ho1 := Lib.hid ho1
  have HE1 := Lib.hid (H2.out.step2 ((Hal.out.trans hb1).mono hg2))
  clear ho1 hb1 hca
  clear hc2 hm2 hf2
  obtain ⟨hc9, hm9, hf9⟩ := HC.out wn1 HE1.out
  obtain ⟨ne, pe, ce, hve⟩ : ∃ n p c, u1 = .slice p n c := (by obtain ⟨p, c, h, _⟩ := OwnBR.slice Ho1.out; exact ⟨_, p, c, h⟩)
  subst hve
  go_upto_region 17 with fail
  have hM2 := HE1.out
  go_wp2_with fail
  have hT9 : Touch (fun k => k = w.heap.size + 1) wn1 ((wn1.setCell ⟨w.heap.size + 1, 0, none⟩ (.int .u8 68)).setCell ⟨w.heap.size + 1, 1, none⟩ (.slice pe ne ce)) := ((Touch.refl (fun k => k = w.heap.size + 1) _).setCell (x := ⟨w.heap.size + 1, 0, none⟩) (fun _ => rfl) _).setCell (x := ⟨w.heap.size + 1, 1, none⟩) (fun _ => rfl) _
  have h9 := ((hM2.m.set_ 0 (.int .u8 68)).set_ 1 (.slice pe ne ce))
  simp only [List.setIfInBounds_toArray, List.set_cons_succ, List.set_cons_zero] at h9
  have HO := Lib.hid (OwnR.base (Ho1.out.touch hT9 (fun k hk e => by have := (Ho1.out.row k hk).1; omega)) (show w.heap.size ≤ w2.heap.size by omega))
  have HB := Lib.hid (hM2.bel.trans (hT9.below hM2.bel.size (fun k hk => by omega)))
  have hcf := h9.cell
  clear hT9 h9 hM2 hc9 hm9 hf9
  refine bodyPost_ret (v := .tuple #[.agg #[.int .u8 68, .slice pe ne ce], .int .i64 0]) (by simp [results, Tryz.results41, go_sem, hcf]) rfl ?_
  exact ⟨_, rfl, HO.out, HB.out⟩

set_option maxRecDepth 100000 in
set_option maxHeartbeats 4000000 in
theorem renc_O (S : Nat → Prop) (x : FoV) (a : FoP) (w : World) (h : FoL S w x a) (hfb : FoB x) (hsm : SmallF x) (hck : checkF x = 0) (hk : ∀ n ∈ [80, 66, 67, 68, 69, 81], (x.kind == n) = false) : Calls Tryz.prog 41 #[foArg x a] w (EncR x w) := by
  have H0 := Lib.hid (EnI.start h)
  have HK := Lib.hid (fun (w0 : World) (H : EnI w w0 x a) => rcheck_any _ x a w0 H.l hfb (by have := hsm.n; unfold maxLen; omega) (by have := hsm.p; unfold maxLen; omega) (by have := hsm.t; unfold maxLen; omega))
  have g1 := hk 80 (by simp)
  have g2 := hk 66 (by simp)
  have g3 := hk 67 (by simp)
  have g4 := hk 68 (by simp)
  have g5 := hk 69 (by simp)
  have g6 := hk 81 (by simp)
  clear hk
  have Hev : Hid (encF x = (x.kind, [], 0)) := Lib.hid (by unfold encF; rw [if_pos hck]; unfold bodyF; simp_all)
  rw [hck] at HK
  clear hck
  have Hsm := Lib.hid hsm
  obtain ⟨hn, hp, ht, ho, hf, hr, hc, hb⟩ := hsm
  have HC : Hid (∀ w1 : World, EnI w w1 x a → (∀ i, w1.cell? ⟨w.heap.size, i, none⟩ = (foCells x a)[i]?) ∧ (∀ i, w1.cell? ⟨w.heap.size + 1, i, none⟩ = (#[.int .u8 0, .slice none 0 0] : Array Value)[i]?) ∧ (∀ i, w1.frozen? ⟨w.heap.size + 1, i, none⟩ = false)) := Lib.hid (fun w1 H => ⟨H.b.cell, H.m.cell, H.m.frozen⟩)
  have Hhb := Lib.hid hb
  unfold EncR
  rw [Hev.out]
  dsimp only
  obtain ⟨xk, xw, xn, xp, xt, xo, xf, xr, xc, xm⟩ := x
  obtain ⟨apo, aco, apf, acf, apr, acr, app, acp⟩ := a
  clear h hfb hb
  unfold foArg at *
  unfold foCells at *
  dsimp only at *
  go_enter Tryz.func41, Tryz.ntmps41
  go_upto_region 1 with (fail)
  generalize (w.alloc (.cells #[.int .u8 xk, .int .u8 xw, .string xn, .string xp, .string xt, .slice apo xo.length aco, .slice apf xf.length acf, .slice apr xr.length acr, .slice app xc.length acp, .int .i64 xm] 46)).alloc (.cells #[.int .u8 0, .slice none 0 0] 73) = w1 at *
  obtain ⟨hc1, hm1, hf1⟩ := HC.out w1 H0.out
  go_wp2_with fail
  refine (HK.out w1 H0.out).mono ?_
  rintro e w2 ⟨rfl, hb2⟩
  have H2 := Lib.hid (H0.out.step hb2)
  obtain ⟨hc2, hm2, hf2⟩ := HC.out w2 H2.out
  clear hb2 hc1 hm1 hf1
  have hg2 : w.heap.size + 2 ≤ w2.heap.size := by have := H2.out.m.lt; omega
  have Ho1 : Hid (OwnBR w2.heap.size w2 (.slice none 0 0) []) := Lib.hid (OwnBR.empty _ _ _)
  go_upto_region 17 with fail
  have hM2 := H2.out
  go_wp2_with fail
  have hT9 : Touch (fun k => k = w.heap.size + 1) w2 ((w2.setCell ⟨w.heap.size + 1, 0, none⟩ (.int .u8 xk)).setCell ⟨w.heap.size + 1, 1, none⟩ (.slice none 0 0)) := ((Touch.refl (fun k => k = w.heap.size + 1) _).setCell (x := ⟨w.heap.size + 1, 0, none⟩) (fun _ => rfl) _).setCell (x := ⟨w.heap.size + 1, 1, none⟩) (fun _ => rfl) _
  have h9 := ((hM2.m.set_ 0 (.int .u8 xk)).set_ 1 (.slice none 0 0))
  simp only [List.setIfInBounds_toArray, List.set_cons_succ, List.set_cons_zero] at h9
  have HO := Lib.hid (OwnR.base (Ho1.out.touch hT9 (fun k hk e => by have := (Ho1.out.row k hk).1; omega)) (show w.heap.size ≤ w2.heap.size by omega))
  have HB := Lib.hid (hM2.bel.trans (hT9.below hM2.bel.size (fun k hk => by omega)))
  have hcf := h9.cell
  clear hT9 h9 hM2 hc2 hm2 hf2
  refine bodyPost_ret (v := .tuple #[.agg #[.int .u8 xk, .slice none 0 0], .int .i64 0]) (by simp [results, Tryz.results41, go_sem, hcf]) rfl ?_
  exact ⟨_, rfl, HO.out, HB.out⟩

theorem renc_any (S : Nat → Prop) (x : FoV) (a : FoP) (w : World) (h : FoL S w x a) (hfb : FoB x) (hsm : SmallF x) : Calls Tryz.prog 41 #[foArg x a] w (EncR x w) := by
  by_cases hck : checkF x = 0
  · have hw := ok_what hck
    rcases kind_cases x.kind with hk | hk | hk | hk | hk | hk | hk
    · exact renc_P S x a w h hfb hsm hck hk
    · exact renc_B S x a w h hfb hsm hck hk
    · have hw' : x.what = 83 ∨ x.what = 80 := by unfold whatV at hw; rw [if_pos (.inl hk)] at hw; simpa using hw
      rcases hw' with e | e
      · exact renc_S67 S x a w h hfb hsm hck hk e
      · exact renc_N67 S x a w h hfb hsm hck hk e
    · have hw' : x.what = 83 ∨ x.what = 80 := by unfold whatV at hw; rw [if_pos (.inr hk)] at hw; simpa using hw
      rcases hw' with e | e
      · exact renc_S68 S x a w h hfb hsm hck hk e
      · exact renc_N68 S x a w h hfb hsm hck hk e
    · exact renc_E S x a w h hfb hsm hck hk
    · exact renc_Q S x a w h hfb hsm hck hk
    · exact renc_O S x a w h hfb hsm hck hk
  · exact renc_no S x a w h hfb hsm hck

end Go.Proofs.YtacnmdlefonjmaaGreat

/-
  Messages of clients (layer 6): as arguments; short ones; sizes.
-/
namespace Go.Proofs.YtacnmdlefonjmaaGreat
open Go.RowKit
set_option linter.unusedVariables false
set_option linter.unusedSimpArgs false

theorem opensS_intU : OpensS Tryz.prog 3 IntU := by
  intro H enc w base spare held fuel cs x h
  obtain ⟨n, e, _⟩ := opens_int Tryz.underlying3 H enc w base spare held fuel cs x h
  exact ⟨n, e⟩
theorem opensS_ce : OpensS Tryz.prog 115 CeS := by
  intro H enc w base spare held fuel cs x h
  have S : StructOf Tryz.prog 115 _ := ⟨Tryz.underlying115, by kernel_rfl, by kernel_rfl⟩
  have hl := S.len h
  match cs, hl with
  | [c0, c1], _ =>
    obtain ⟨y0, e0⟩ := S.field h 0 _ rfl c0 rfl (opens_bool Tryz.underlying4)
    obtain ⟨y1, h1⟩ := S.field h 1 _ rfl c1 rfl (opensS_bytes Tryz.underlying32 Tryz.underlying5 (by kernel_rfl))
    obtain ⟨p, c, rfl⟩ := BytesS.shape h1
    unfold BoolR at e0
    simp only [List.cons.injEq, and_true] at e0
    subst e0
    exact ⟨⟨y0, y1⟩, p, c, rfl, h1⟩
/-- A message as an argument. -/
def FoS : Rd FoV := fun S w cs f => FoB f ∧ ∃ a, cs = (foCells f a).toList ∧ FoL S w f a
theorem opensS_fo : OpensS Tryz.prog 46 FoS := by
  intro H enc w base spare held fuel cs x h
  have S : StructOf Tryz.prog 46 _ := ⟨Tryz.underlying46, by kernel_rfl, by kernel_rfl⟩
  have hl := S.len h
  match cs, hl with
  | [c0, c1, c2, c3, c4, c5, c6, c7, c8, c9], _ =>
    obtain ⟨y0, e0, hw0⟩ := S.field h 0 _ rfl c0 rfl (opens_int Tryz.underlying5)
    obtain ⟨y1, e1, hw1⟩ := S.field h 1 _ rfl c1 rfl (opens_int Tryz.underlying5)
    obtain ⟨y2, e2, _⟩ := S.field h 2 _ rfl c2 rfl (opens_str Tryz.underlying9)
    obtain ⟨y3, e3, _⟩ := S.field h 3 _ rfl c3 rfl (opens_str Tryz.underlying9)
    obtain ⟨y4, e4, _⟩ := S.field h 4 _ rfl c4 rfl (opens_str Tryz.underlying9)
    obtain ⟨y5, h5⟩ := S.field h 5 _ rfl c5 rfl (opensS_slice (n := 1) Tryz.underlying43 (by kernel_rfl) (by omega) opensS_intU)
    obtain ⟨y6, h6⟩ := S.field h 6 _ rfl c6 rfl (opensS_slice (n := 1) Tryz.underlying43 (by kernel_rfl) (by omega) opensS_intU)
    obtain ⟨y7, h7⟩ := S.field h 7 _ rfl c7 rfl (opensS_slice (n := 1) Tryz.underlying43 (by kernel_rfl) (by omega) opensS_intU)
    obtain ⟨y8, h8⟩ := S.field h 8 _ rfl c8 rfl (opensS_slice (n := 2) Tryz.underlying44 (by kernel_rfl) (by omega) opensS_ce)
    obtain ⟨y9, e9, _⟩ := S.field h 9 _ rfl c9 rfl (opens_int Tryz.underlying3)
    obtain ⟨p5, k5, rfl⟩ := SliceS.shape h5
    obtain ⟨p6, k6, rfl⟩ := SliceS.shape h6
    obtain ⟨p7, k7, rfl⟩ := SliceS.shape h7
    obtain ⟨p8, k8, rfl⟩ := SliceS.shape h8
    have hb0 := byte_of_wf hw0
    have hb1 := byte_of_wf hw1
    simp only [List.cons.injEq, and_true] at e0 e1 e2 e3 e4 e9
    subst e0 e1 e2 e3 e4 e9
    exact ⟨⟨y0, y1, y2, y3, y4, y5, y6, y7, y8, y9⟩, ⟨hb0.1, hb0.2, hb1.1, hb1.2⟩, ⟨p5, k5, p6, k6, p7, k7, p8, k8⟩, rfl, h5, h6, h7, h8⟩

/-- A message is short. -/
structure FewF (x : FoV) : Prop where
  n : x.name.size ≤ 300
  p : x.portal.size ≤ 300
  t : x.text.size ≤ 1000
  o : x.oids.length ≤ 50
  f : x.formats.length ≤ 50
  r : x.results.length ≤ 50
  c : x.params.length ≤ 50
  b : ∀ c ∈ x.params, c.bytes.length ≤ 300
theorem FewF.small {x : FoV} (h : FewF x) : SmallF x :=
  ⟨by have := h.n; omega, by have := h.p; omega, by have := h.t; omega, by have := h.o; omega, by have := h.f; omega, by have := h.r; omega, by have := h.c; omega, fun c hc => by have := h.b c hc; omega⟩
theorem body_few {x : FoV} (h : FewF x) (hfb : FoB x) (hc : checkF x = 0) : (bodyF x).length ≤ 100000 := by
  obtain ⟨_, hok⟩ := check_ok hc
  obtain ⟨hw, ho, hf, hr, hp, t1, t2, t3, hm, hkp⟩ := ok_parts hok
  rw [bodyF_c ⟨hfb.2.2.1, hfb.2.2.2⟩ ho hf hr hp hm]
  obtain ⟨h1, h2, h3, h4, h5, h6, h7, h8⟩ := h
  have k1 := strP_len x.name
  have k2 := strP_len x.portal
  have k3 := strP_len x.text
  have k4 := listC_len (z := 4) x.oids
  have k5 := listC_len (z := 2) x.formats
  have k6 := listC_len (z := 2) x.results
  have k7 : (rowC x.params).length ≤ 2 + 304 * x.params.length := by
    have := cellsC_len x.params 300 h8
    unfold rowC
    rw [List.length_append, putB_length]
    omega
  have k8 := putB_length x.what 1 1
  have k9 := putB_length x.max 4 4
  unfold bodyC
  split
  · simp only [List.length_append]; omega
  split
  · simp only [List.length_append]; omega
  split
  · split <;> simp only [List.length_append] <;> omega
  split
  · simp only [List.length_append]; omega
  split
  · omega
  · simp
/-- What is read of few bytes is small. -/
theorem read_small {k : Int} {L : List UInt8} {f : FoV} (h : readP k L = some (f, [])) (hc : checkF f = 0) (hL : L.length ≤ 2000) : SmallF f := by
  have hs := readP_small h
  have hb := body_read h hc
  obtain ⟨_, hok⟩ := check_ok hc
  obtain ⟨hw, ho, hf, hr, hp, t1, t2, t3, hm, hkp⟩ := ok_parts hok
  rw [bodyF_c hs.what ho hf hr hp hm] at hb
  have hq : f.params.length ≤ 1000 ∧ ∀ c ∈ f.params, c.bytes.length ≤ 2000 := by
    by_cases hk : f.kind = 66
    · unfold bodyC at hb
      rw [if_neg (by omega), if_pos hk] at hb
      have hl := congrArg List.length hb
      simp only [List.length_append] at hl
      unfold rowC at hl
      rw [List.length_append] at hl
      have := cellsC_many f.params hp.2
      exact ⟨by omega, fun c hc => by have := this.2 c hc; omega⟩
    · have e : f.params = [] := by
        have := congrArg FoV.params hkp
        rw [this]
        unfold keptV
        rw [if_neg hk]
        repeat' split
        all_goals rfl
      rw [e]
      exact ⟨by simp, fun c hc => by cases hc⟩
  exact ⟨by have := hs.name; omega, by have := hs.portal; omega, by have := hs.text; omega, by have := ho.1; omega, by have := hf.1; omega, by have := hr.1; omega, hq.1, hq.2⟩
/-- Decode: nothing, or a message that may be, with just these bytes. -/
theorem dec_parts (k : Int) (L : List UInt8) (hL : L.length ≤ 2000) :
    ((decF k L).2 = 0 ∧ encF (decF k L).1 = (k, L, 0) ∧ FoB (decF k L).1 ∧ SmallF (decF k L).1) ∨ ((decF k L).2 ≠ 0 ∧ (decF k L).1 = foZero 0) := by
  unfold decF
  split
  · exact .inr ⟨by decide, rfl⟩
  split
  · exact .inr ⟨by decide, rfl⟩
  split
  · rename_i f hf
    split
    · rename_i hc
      have hs := readP_small hf
      have hkk := hs.kind
      have hkn := (check_ok hc).1
      refine .inl ⟨rfl, ?_, ⟨?_, ?_, hs.what.1, hs.what.2⟩, read_small hf hc hL⟩
      · unfold encF
        rw [if_pos hc, hkk, body_read hf hc]
      · rcases known_kinds hkn with e | e | e | e | e | e <;> (show 0 ≤ f.kind; omega)
      · rcases known_kinds hkn with e | e | e | e | e | e <;> (show f.kind < 256; omega)
    · exact .inr ⟨by decide, rfl⟩
  · exact .inr ⟨by decide, rfl⟩

end Go.Proofs.YtacnmdlefonjmaaGreat

