/-
  Ground: FoH, NumB, FoV.
-/
import Derived.Test.YtacnmdlefonjmaaGreatPdZP5
import Derived.Test.YtacnmdlefonjmaaGreatPdZP1
import Derived.Test.YtacnmdlefonjmaaGreatPdZP4
/-
  Messages of clients (layer 6): a message with just the fields that its body has; both.
-/
namespace Go.Proofs.YtacnmdlefonjmaaGreat
open Go.RowKit
set_option linter.unusedVariables false
set_option linter.unusedSimpArgs false

def foZ : Array Value := #[.int .u8 0, .int .u8 0, .string ⟨#[]⟩, .string ⟨#[]⟩, .string ⟨#[]⟩, .slice none 0 0, .slice none 0 0, .slice none 0 0, .slice none 0 0, .int .i64 0]
/-- Ten cells are stored into a block. -/
abbrev setTen (w : World) (g : Nat) (v0 v1 v2 v3 v4 v5 v6 v7 v8 v9 : Value) : World :=
  ((((((((((w.setCell ⟨g, 0, none⟩ v0).setCell ⟨g, 1, none⟩ v1).setCell ⟨g, 2, none⟩ v2).setCell ⟨g, 3, none⟩ v3).setCell ⟨g, 4, none⟩ v4).setCell ⟨g, 5, none⟩ v5).setCell ⟨g, 6, none⟩ v6).setCell ⟨g, 7, none⟩ v7).setCell ⟨g, 8, none⟩ v8).setCell ⟨g, 9, none⟩ v9)
theorem setTen_touch (w : World) (g : Nat) (v0 v1 v2 v3 v4 v5 v6 v7 v8 v9 : Value) : Touch (fun k => k = g) w (setTen w g v0 v1 v2 v3 v4 v5 v6 v7 v8 v9) :=
  (((((((((((Touch.refl (fun k => k = g) w).setCell (x := ⟨g, 0, none⟩) (fun _ => rfl) _).setCell (x := ⟨g, 1, none⟩) (fun _ => rfl) _).setCell (x := ⟨g, 2, none⟩) (fun _ => rfl) _).setCell (x := ⟨g, 3, none⟩) (fun _ => rfl) _).setCell (x := ⟨g, 4, none⟩) (fun _ => rfl) _).setCell (x := ⟨g, 5, none⟩) (fun _ => rfl) _).setCell (x := ⟨g, 6, none⟩) (fun _ => rfl) _).setCell (x := ⟨g, 7, none⟩) (fun _ => rfl) _).setCell (x := ⟨g, 8, none⟩) (fun _ => rfl) _).setCell (x := ⟨g, 9, none⟩) (fun _ => rfl) _)
theorem setTen_blk {t : TypeId} {w : World} {g : Nat} {u0 u1 u2 u3 u4 u5 u6 u7 u8 u9 : Value} (v0 v1 v2 v3 v4 v5 v6 v7 v8 v9 : Value) (hb : Blk w g t #[u0, u1, u2, u3, u4, u5, u6, u7, u8, u9]) : Blk (setTen w g v0 v1 v2 v3 v4 v5 v6 v7 v8 v9) g t #[v0, v1, v2, v3, v4, v5, v6, v7, v8, v9] := by
  have h8 := ((((((((((hb.set_ 0 v0).set_ 1 v1).set_ 2 v2).set_ 3 v3).set_ 4 v4).set_ 5 v5).set_ 6 v6).set_ 7 v7).set_ 8 v8).set_ 9 v9)
  simpa using h8

/-- What 'of' leaves. -/
def KeptR (S : Nat → Prop) (f : FoV) (w : World) (e : Ending) (w' : World) : Prop := ∃ a', e = .returned (foArg (keptV f) a') ∧ FoL S w' (keptV f) a' ∧ Below w.heap.size w w'

/-- What holds ahead of the stores: the message, the result, the message that is made. -/
structure KpI (w0 w : World) (c1 c3 : Array Value) : Prop where
  b1 : Blk w w0.heap.size 46 c1
  b2 : Blk w (w0.heap.size + 1) 46 foZ
  b3 : Blk w (w0.heap.size + 1 + 1) 46 c3
  bel : Below w0.heap.size w0 w
theorem KpI.start (w : World) (c1 c3 : Array Value) : KpI w (((w.alloc (.cells c1 46)).alloc (.cells foZ 46)).alloc (.cells c3 46)) c1 c3 := by
  have e1 : (w.alloc (.cells c1 46)).heap.size = w.heap.size + 1 := by simp
  have e2 : ((w.alloc (.cells c1 46)).alloc (.cells foZ 46)).heap.size = w.heap.size + 1 + 1 := by simp
  refine ⟨((Blk.new _ _ _).alloc _).alloc _, ?_, ?_, (((Below.refl _ _).alloc (Nat.le_refl _) _).alloc (by simp) _).alloc (by simp; omega) _⟩
  · have := (Blk.new (w.alloc (.cells c1 46)) 46 foZ).alloc (.cells c3 46)
    rw [e1] at this
    exact this
  · have := Blk.new ((w.alloc (.cells c1 46)).alloc (.cells foZ 46)) 46 c3
    rw [e2] at this
    exact this
theorem KpI.set {w0 w : World} {c1 c3 : Array Value} (h : KpI w0 w c1 c3) (i : Nat) (u : Value) : KpI w0 (w.setCell ⟨w0.heap.size + 1 + 1, i, none⟩ u) c1 (c3.setIfInBounds i u) := by
  have hT : Touch (fun k => k = w0.heap.size + 1 + 1) w (w.setCell ⟨w0.heap.size + 1 + 1, i, none⟩ u) := (Touch.refl (fun k => k = w0.heap.size + 1 + 1) w).setCell (x := ⟨w0.heap.size + 1 + 1, i, none⟩) (fun _ => rfl) _
  exact ⟨hT.blk h.b1 (by omega), hT.blk h.b2 (by omega), h.b3.set_ i u, h.bel.trans (hT.below h.bel.size (fun k e => by omega))⟩
theorem KpI.drew {w0 w : World} {c1 c3 : Array Value} (h : KpI w0 w c1 c3) : KpI w0 w.drew c1 c3 := ⟨h.b1, h.b2, h.b3, h.bel.trans (((Touch.refl (fun _ => False) w).drew).below h.bel.size (fun _ e => e.elim))⟩

set_option maxRecDepth 100000 in
set_option maxHeartbeats 4000000 in
theorem of_P (S : Nat → Prop) (x : FoV) (a : FoP) (w : World) (h : FoL S w x a) (hk : x.kind = 80) : Calls Tryz.prog 108 #[foArg x a] w (KeptR S x w) := by
  have HL := Lib.hid h
  have Hk : Hid (keptV x = ⟨80, 0, x.name, ⟨#[]⟩, x.text, x.oids, [], [], [], 0⟩) := Lib.hid (by unfold keptV; simp_all)
  unfold KeptR
  generalize keptV x = kx at *
  obtain ⟨xk, xw, xn, xp, xt, xo, xf, xr, xc, xm⟩ := x
  obtain ⟨apo, aco, apf, acf, apr, acr, app, acp⟩ := a
  clear h
  dsimp only at *
  subst hk
  unfold foArg foCells
  dsimp only
  have H1 := Lib.hid (KpI.start w #[.int .u8 80, .int .u8 xw, .string xn, .string xp, .string xt, .slice apo xo.length aco, .slice apf xf.length acf, .slice apr xr.length acr, .slice app xc.length acp, .int .i64 xm] #[.int .u8 80, .int .u8 0, .string ⟨#[]⟩, .string ⟨#[]⟩, .string ⟨#[]⟩, .slice none 0 0, .slice none 0 0, .slice none 0 0, .slice none 0 0, .int .i64 0])
  unfold foZ at H1
  go_enter Tryz.func108, Tryz.ntmps108
  go_upto_region 2 with (fail)
  generalize ((w.alloc (.cells #[.int .u8 80, .int .u8 xw, .string xn, .string xp, .string xt, .slice apo xo.length aco, .slice apf xf.length acf, .slice apr xr.length acr, .slice app xc.length acp, .int .i64 xm] 46)).alloc (.cells #[.int .u8 0, .int .u8 0, .string ⟨#[]⟩, .string ⟨#[]⟩, .string ⟨#[]⟩, .slice none 0 0, .slice none 0 0, .slice none 0 0, .slice none 0 0, .int .i64 0] 46)).alloc (.cells #[.int .u8 80, .int .u8 0, .string ⟨#[]⟩, .string ⟨#[]⟩, .string ⟨#[]⟩, .slice none 0 0, .slice none 0 0, .slice none 0 0, .slice none 0 0, .int .i64 0] 46) = w1 at *
  have c1 := H1.out.b1.cell
  have c3 := H1.out.b3.cell
  have f3 := H1.out.b3.frozen
  go_wp2_with fail
  go_region
  have h2 := (((H1.out.set 2 (.string xn)).set 4 (.string xt)).set 5 (.slice apo xo.length aco)).drew
  try simp only [List.setIfInBounds_toArray, List.set_cons_succ, List.set_cons_zero] at h2
  have H2 := Lib.hid h2
  clear h2 c1 c3 f3
  generalize (((w1.setCell ⟨w.heap.size + 1 + 1, 2, none⟩ (.string xn)).setCell ⟨w.heap.size + 1 + 1, 4, none⟩ (.string xt)).setCell ⟨w.heap.size + 1 + 1, 5, none⟩ (.slice apo xo.length aco)).drew = w2 at *
  have c3 := H2.out.b3.cell
  have c2 : ∀ i, w2.cell? ⟨w.heap.size + 1, i, none⟩ = (#[.int .u8 0, .int .u8 0, .string ⟨#[]⟩, .string ⟨#[]⟩, .string ⟨#[]⟩, .slice none 0 0, .slice none 0 0, .slice none 0 0, .slice none 0 0, .int .i64 0] : Array Value)[i]? := H2.out.b2.cell
  have f2 := H2.out.b2.frozen
  go_wp2_with fail
  have hT := setTen_touch w2 (w.heap.size + 1) (.int .u8 80) (.int .u8 0) (.string xn) (.string ⟨#[]⟩) (.string xt) (.slice apo xo.length aco) (.slice none 0 0) (.slice none 0 0) (.slice none 0 0) (.int .i64 0)
  have hbf := setTen_blk (.int .u8 80) (.int .u8 0) (.string xn) (.string ⟨#[]⟩) (.string xt) (.slice apo xo.length aco) (.slice none 0 0) (.slice none 0 0) (.slice none 0 0) (.int .i64 0) H2.out.b2
  have HB := Lib.hid (H2.out.bel.trans (hT.below H2.out.bel.size (fun k hk => by omega)))
  unfold setTen at hbf HB
  have hcf := hbf.cell
  clear hT hbf c3 c2 f2
  refine bodyPost_ret (v := .agg #[.int .u8 80, .int .u8 0, .string xn, .string ⟨#[]⟩, .string xt, .slice apo xo.length aco, .slice none 0 0, .slice none 0 0, .slice none 0 0, .int .i64 0]) (by simp [results, Tryz.results108, go_sem, hcf]) rfl ?_
  rw [Hk.out]
  exact ⟨⟨apo, aco, none, 0, none, 0, none, 0⟩, rfl, ⟨HL.out.lo.below IntU.still HB.out, SliceS.empty none 0 (by simp [maxLen]), SliceS.empty none 0 (by simp [maxLen]), SliceS.empty none 0 (by simp [maxLen])⟩, HB.out⟩

set_option maxRecDepth 100000 in
set_option maxHeartbeats 4000000 in
theorem of_B (S : Nat → Prop) (x : FoV) (a : FoP) (w : World) (h : FoL S w x a) (hk : x.kind = 66) : Calls Tryz.prog 108 #[foArg x a] w (KeptR S x w) := by
  have HL := Lib.hid h
  have Hk : Hid (keptV x = ⟨66, 0, x.name, x.portal, ⟨#[]⟩, [], x.formats, x.results, x.params, 0⟩) := Lib.hid (by unfold keptV; simp_all)
  unfold KeptR
  generalize keptV x = kx at *
  obtain ⟨xk, xw, xn, xp, xt, xo, xf, xr, xc, xm⟩ := x
  obtain ⟨apo, aco, apf, acf, apr, acr, app, acp⟩ := a
  clear h
  dsimp only at *
  subst hk
  unfold foArg foCells
  dsimp only
  have H1 := Lib.hid (KpI.start w #[.int .u8 66, .int .u8 xw, .string xn, .string xp, .string xt, .slice apo xo.length aco, .slice apf xf.length acf, .slice apr xr.length acr, .slice app xc.length acp, .int .i64 xm] #[.int .u8 66, .int .u8 0, .string ⟨#[]⟩, .string ⟨#[]⟩, .string ⟨#[]⟩, .slice none 0 0, .slice none 0 0, .slice none 0 0, .slice none 0 0, .int .i64 0])
  unfold foZ at H1
  go_enter Tryz.func108, Tryz.ntmps108
  go_upto_region 2 with (fail)
  generalize ((w.alloc (.cells #[.int .u8 66, .int .u8 xw, .string xn, .string xp, .string xt, .slice apo xo.length aco, .slice apf xf.length acf, .slice apr xr.length acr, .slice app xc.length acp, .int .i64 xm] 46)).alloc (.cells #[.int .u8 0, .int .u8 0, .string ⟨#[]⟩, .string ⟨#[]⟩, .string ⟨#[]⟩, .slice none 0 0, .slice none 0 0, .slice none 0 0, .slice none 0 0, .int .i64 0] 46)).alloc (.cells #[.int .u8 66, .int .u8 0, .string ⟨#[]⟩, .string ⟨#[]⟩, .string ⟨#[]⟩, .slice none 0 0, .slice none 0 0, .slice none 0 0, .slice none 0 0, .int .i64 0] 46) = w1 at *
  have c1 := H1.out.b1.cell
  have c3 := H1.out.b3.cell
  have f3 := H1.out.b3.frozen
  go_wp2_with fail
  go_region
  have h1 := ((H1.out.set 2 (.string xn)).set 3 (.string xp)).drew
  simp only [List.setIfInBounds_toArray, List.set_cons_succ, List.set_cons_zero] at h1
  clear c1 c3 f3
  generalize ((w1.setCell ⟨w.heap.size + 1 + 1, 2, none⟩ (.string xn)).setCell ⟨w.heap.size + 1 + 1, 3, none⟩ (.string xp)).drew = w1' at *
  have H1' := Lib.hid h1
  clear h1 H1
  have H1 := H1'
  clear H1'
  generalize w1' = w1 at *
  have c1 := H1.out.b1.cell
  have c3 := H1.out.b3.cell
  have f3 := H1.out.b3.frozen
  go_wp2_with fail
  go_region
  have h2 := (((H1.out.set 6 (.slice apf xf.length acf)).set 8 (.slice app xc.length acp)).set 7 (.slice apr xr.length acr)).drew
  try simp only [List.setIfInBounds_toArray, List.set_cons_succ, List.set_cons_zero] at h2
  have H2 := Lib.hid h2
  clear h2 c1 c3 f3
  generalize (((w1.setCell ⟨w.heap.size + 1 + 1, 6, none⟩ (.slice apf xf.length acf)).setCell ⟨w.heap.size + 1 + 1, 8, none⟩ (.slice app xc.length acp)).setCell ⟨w.heap.size + 1 + 1, 7, none⟩ (.slice apr xr.length acr)).drew = w2 at *
  have c3 := H2.out.b3.cell
  have c2 : ∀ i, w2.cell? ⟨w.heap.size + 1, i, none⟩ = (#[.int .u8 0, .int .u8 0, .string ⟨#[]⟩, .string ⟨#[]⟩, .string ⟨#[]⟩, .slice none 0 0, .slice none 0 0, .slice none 0 0, .slice none 0 0, .int .i64 0] : Array Value)[i]? := H2.out.b2.cell
  have f2 := H2.out.b2.frozen
  go_wp2_with fail
  have hT := setTen_touch w2 (w.heap.size + 1) (.int .u8 66) (.int .u8 0) (.string xn) (.string xp) (.string ⟨#[]⟩) (.slice none 0 0) (.slice apf xf.length acf) (.slice apr xr.length acr) (.slice app xc.length acp) (.int .i64 0)
  have hbf := setTen_blk (.int .u8 66) (.int .u8 0) (.string xn) (.string xp) (.string ⟨#[]⟩) (.slice none 0 0) (.slice apf xf.length acf) (.slice apr xr.length acr) (.slice app xc.length acp) (.int .i64 0) H2.out.b2
  have HB := Lib.hid (H2.out.bel.trans (hT.below H2.out.bel.size (fun k hk => by omega)))
  unfold setTen at hbf HB
  have hcf := hbf.cell
  clear hT hbf c3 c2 f2
  refine bodyPost_ret (v := .agg #[.int .u8 66, .int .u8 0, .string xn, .string xp, .string ⟨#[]⟩, .slice none 0 0, .slice apf xf.length acf, .slice apr xr.length acr, .slice app xc.length acp, .int .i64 0]) (by simp [results, Tryz.results108, go_sem, hcf]) rfl ?_
  rw [Hk.out]
  exact ⟨⟨none, 0, apf, acf, apr, acr, app, acp⟩, rfl, ⟨SliceS.empty none 0 (by simp [maxLen]), HL.out.lf.below IntU.still HB.out, HL.out.lr.below IntU.still HB.out, HL.out.lp.below CeS.still HB.out⟩, HB.out⟩

set_option maxRecDepth 100000 in
set_option maxHeartbeats 4000000 in
theorem of_S67 (S : Nat → Prop) (x : FoV) (a : FoP) (w : World) (h : FoL S w x a) (hk : x.kind = 67) (hw : x.what = 83) : Calls Tryz.prog 108 #[foArg x a] w (KeptR S x w) := by
  have HL := Lib.hid h
  have Hk : Hid (keptV x = ⟨67, 83, x.name, ⟨#[]⟩, ⟨#[]⟩, [], [], [], [], 0⟩) := Lib.hid (by unfold keptV; simp_all)
  unfold KeptR
  generalize keptV x = kx at *
  obtain ⟨xk, xw, xn, xp, xt, xo, xf, xr, xc, xm⟩ := x
  obtain ⟨apo, aco, apf, acf, apr, acr, app, acp⟩ := a
  clear h
  dsimp only at *
  subst hk
  subst hw
  unfold foArg foCells
  dsimp only
  have H1 := Lib.hid (KpI.start w #[.int .u8 67, .int .u8 83, .string xn, .string xp, .string xt, .slice apo xo.length aco, .slice apf xf.length acf, .slice apr xr.length acr, .slice app xc.length acp, .int .i64 xm] #[.int .u8 67, .int .u8 0, .string ⟨#[]⟩, .string ⟨#[]⟩, .string ⟨#[]⟩, .slice none 0 0, .slice none 0 0, .slice none 0 0, .slice none 0 0, .int .i64 0])
  unfold foZ at H1
  go_enter Tryz.func108, Tryz.ntmps108
  go_upto_region 2 with (fail)
  generalize ((w.alloc (.cells #[.int .u8 67, .int .u8 83, .string xn, .string xp, .string xt, .slice apo xo.length aco, .slice apf xf.length acf, .slice apr xr.length acr, .slice app xc.length acp, .int .i64 xm] 46)).alloc (.cells #[.int .u8 0, .int .u8 0, .string ⟨#[]⟩, .string ⟨#[]⟩, .string ⟨#[]⟩, .slice none 0 0, .slice none 0 0, .slice none 0 0, .slice none 0 0, .int .i64 0] 46)).alloc (.cells #[.int .u8 67, .int .u8 0, .string ⟨#[]⟩, .string ⟨#[]⟩, .string ⟨#[]⟩, .slice none 0 0, .slice none 0 0, .slice none 0 0, .slice none 0 0, .int .i64 0] 46) = w1 at *
  have c1 := H1.out.b1.cell
  have c3 := H1.out.b3.cell
  have f3 := H1.out.b3.frozen
  go_upto_region 20 with fail
  have h2 := ((H1.out.set 1 (.int .u8 83)).set 2 (.string xn))
  try simp only [List.setIfInBounds_toArray, List.set_cons_succ, List.set_cons_zero] at h2
  have H2 := Lib.hid h2
  clear h2 c1 c3 f3
  generalize ((w1.setCell ⟨w.heap.size + 1 + 1, 1, none⟩ (.int .u8 83)).setCell ⟨w.heap.size + 1 + 1, 2, none⟩ (.string xn)) = w2 at *
  have c3 := H2.out.b3.cell
  have c2 : ∀ i, w2.cell? ⟨w.heap.size + 1, i, none⟩ = (#[.int .u8 0, .int .u8 0, .string ⟨#[]⟩, .string ⟨#[]⟩, .string ⟨#[]⟩, .slice none 0 0, .slice none 0 0, .slice none 0 0, .slice none 0 0, .int .i64 0] : Array Value)[i]? := H2.out.b2.cell
  have f2 := H2.out.b2.frozen
  go_wp2_with fail
  have hT := setTen_touch w2 (w.heap.size + 1) (.int .u8 67) (.int .u8 83) (.string xn) (.string ⟨#[]⟩) (.string ⟨#[]⟩) (.slice none 0 0) (.slice none 0 0) (.slice none 0 0) (.slice none 0 0) (.int .i64 0)
  have hbf := setTen_blk (.int .u8 67) (.int .u8 83) (.string xn) (.string ⟨#[]⟩) (.string ⟨#[]⟩) (.slice none 0 0) (.slice none 0 0) (.slice none 0 0) (.slice none 0 0) (.int .i64 0) H2.out.b2
  have HB := Lib.hid (H2.out.bel.trans (hT.below H2.out.bel.size (fun k hk => by omega)))
  unfold setTen at hbf HB
  have hcf := hbf.cell
  clear hT hbf c3 c2 f2
  refine bodyPost_ret (v := .agg #[.int .u8 67, .int .u8 83, .string xn, .string ⟨#[]⟩, .string ⟨#[]⟩, .slice none 0 0, .slice none 0 0, .slice none 0 0, .slice none 0 0, .int .i64 0]) (by simp [results, Tryz.results108, go_sem, hcf]) rfl ?_
  rw [Hk.out]
  exact ⟨⟨none, 0, none, 0, none, 0, none, 0⟩, rfl, ⟨SliceS.empty none 0 (by simp [maxLen]), SliceS.empty none 0 (by simp [maxLen]), SliceS.empty none 0 (by simp [maxLen]), SliceS.empty none 0 (by simp [maxLen])⟩, HB.out⟩

set_option maxRecDepth 100000 in
set_option maxHeartbeats 4000000 in
theorem of_N67 (S : Nat → Prop) (x : FoV) (a : FoP) (w : World) (h : FoL S w x a) (hk : x.kind = 67) (hw : x.what = 80) : Calls Tryz.prog 108 #[foArg x a] w (KeptR S x w) := by
  have HL := Lib.hid h
  have Hk : Hid (keptV x = ⟨67, 80, ⟨#[]⟩, x.portal, ⟨#[]⟩, [], [], [], [], 0⟩) := Lib.hid (by unfold keptV; simp_all)
  unfold KeptR
  generalize keptV x = kx at *
  obtain ⟨xk, xw, xn, xp, xt, xo, xf, xr, xc, xm⟩ := x
  obtain ⟨apo, aco, apf, acf, apr, acr, app, acp⟩ := a
  clear h
  dsimp only at *
  subst hk
  subst hw
  unfold foArg foCells
  dsimp only
  have H1 := Lib.hid (KpI.start w #[.int .u8 67, .int .u8 80, .string xn, .string xp, .string xt, .slice apo xo.length aco, .slice apf xf.length acf, .slice apr xr.length acr, .slice app xc.length acp, .int .i64 xm] #[.int .u8 67, .int .u8 0, .string ⟨#[]⟩, .string ⟨#[]⟩, .string ⟨#[]⟩, .slice none 0 0, .slice none 0 0, .slice none 0 0, .slice none 0 0, .int .i64 0])
  unfold foZ at H1
  go_enter Tryz.func108, Tryz.ntmps108
  go_upto_region 2 with (fail)
  generalize ((w.alloc (.cells #[.int .u8 67, .int .u8 80, .string xn, .string xp, .string xt, .slice apo xo.length aco, .slice apf xf.length acf, .slice apr xr.length acr, .slice app xc.length acp, .int .i64 xm] 46)).alloc (.cells #[.int .u8 0, .int .u8 0, .string ⟨#[]⟩, .string ⟨#[]⟩, .string ⟨#[]⟩, .slice none 0 0, .slice none 0 0, .slice none 0 0, .slice none 0 0, .int .i64 0] 46)).alloc (.cells #[.int .u8 67, .int .u8 0, .string ⟨#[]⟩, .string ⟨#[]⟩, .string ⟨#[]⟩, .slice none 0 0, .slice none 0 0, .slice none 0 0, .slice none 0 0, .int .i64 0] 46) = w1 at *
  have c1 := H1.out.b1.cell
  have c3 := H1.out.b3.cell
  have f3 := H1.out.b3.frozen
  go_upto_region 20 with fail
  have h2 := ((H1.out.set 1 (.int .u8 80)).set 3 (.string xp))
  try simp only [List.setIfInBounds_toArray, List.set_cons_succ, List.set_cons_zero] at h2
  have H2 := Lib.hid h2
  clear h2 c1 c3 f3
  generalize ((w1.setCell ⟨w.heap.size + 1 + 1, 1, none⟩ (.int .u8 80)).setCell ⟨w.heap.size + 1 + 1, 3, none⟩ (.string xp)) = w2 at *
  have c3 := H2.out.b3.cell
  have c2 : ∀ i, w2.cell? ⟨w.heap.size + 1, i, none⟩ = (#[.int .u8 0, .int .u8 0, .string ⟨#[]⟩, .string ⟨#[]⟩, .string ⟨#[]⟩, .slice none 0 0, .slice none 0 0, .slice none 0 0, .slice none 0 0, .int .i64 0] : Array Value)[i]? := H2.out.b2.cell
  have f2 := H2.out.b2.frozen
  go_wp2_with fail
  have hT := setTen_touch w2 (w.heap.size + 1) (.int .u8 67) (.int .u8 80) (.string ⟨#[]⟩) (.string xp) (.string ⟨#[]⟩) (.slice none 0 0) (.slice none 0 0) (.slice none 0 0) (.slice none 0 0) (.int .i64 0)
  have hbf := setTen_blk (.int .u8 67) (.int .u8 80) (.string ⟨#[]⟩) (.string xp) (.string ⟨#[]⟩) (.slice none 0 0) (.slice none 0 0) (.slice none 0 0) (.slice none 0 0) (.int .i64 0) H2.out.b2
  have HB := Lib.hid (H2.out.bel.trans (hT.below H2.out.bel.size (fun k hk => by omega)))
  unfold setTen at hbf HB
  have hcf := hbf.cell
  clear hT hbf c3 c2 f2
  refine bodyPost_ret (v := .agg #[.int .u8 67, .int .u8 80, .string ⟨#[]⟩, .string xp, .string ⟨#[]⟩, .slice none 0 0, .slice none 0 0, .slice none 0 0, .slice none 0 0, .int .i64 0]) (by simp [results, Tryz.results108, go_sem, hcf]) rfl ?_
  rw [Hk.out]
  exact ⟨⟨none, 0, none, 0, none, 0, none, 0⟩, rfl, ⟨SliceS.empty none 0 (by simp [maxLen]), SliceS.empty none 0 (by simp [maxLen]), SliceS.empty none 0 (by simp [maxLen]), SliceS.empty none 0 (by simp [maxLen])⟩, HB.out⟩

set_option maxRecDepth 100000 in
set_option maxHeartbeats 4000000 in
theorem of_S68 (S : Nat → Prop) (x : FoV) (a : FoP) (w : World) (h : FoL S w x a) (hk : x.kind = 68) (hw : x.what = 83) : Calls Tryz.prog 108 #[foArg x a] w (KeptR S x w) := by
  have HL := Lib.hid h
  have Hk : Hid (keptV x = ⟨68, 83, x.name, ⟨#[]⟩, ⟨#[]⟩, [], [], [], [], 0⟩) := Lib.hid (by unfold keptV; simp_all)
  unfold KeptR
  generalize keptV x = kx at *
  obtain ⟨xk, xw, xn, xp, xt, xo, xf, xr, xc, xm⟩ := x
  obtain ⟨apo, aco, apf, acf, apr, acr, app, acp⟩ := a
  clear h
  dsimp only at *
  subst hk
  subst hw
  unfold foArg foCells
  dsimp only
  have H1 := Lib.hid (KpI.start w #[.int .u8 68, .int .u8 83, .string xn, .string xp, .string xt, .slice apo xo.length aco, .slice apf xf.length acf, .slice apr xr.length acr, .slice app xc.length acp, .int .i64 xm] #[.int .u8 68, .int .u8 0, .string ⟨#[]⟩, .string ⟨#[]⟩, .string ⟨#[]⟩, .slice none 0 0, .slice none 0 0, .slice none 0 0, .slice none 0 0, .int .i64 0])
  unfold foZ at H1
  go_enter Tryz.func108, Tryz.ntmps108
  go_upto_region 2 with (fail)
  generalize ((w.alloc (.cells #[.int .u8 68, .int .u8 83, .string xn, .string xp, .string xt, .slice apo xo.length aco, .slice apf xf.length acf, .slice apr xr.length acr, .slice app xc.length acp, .int .i64 xm] 46)).alloc (.cells #[.int .u8 0, .int .u8 0, .string ⟨#[]⟩, .string ⟨#[]⟩, .string ⟨#[]⟩, .slice none 0 0, .slice none 0 0, .slice none 0 0, .slice none 0 0, .int .i64 0] 46)).alloc (.cells #[.int .u8 68, .int .u8 0, .string ⟨#[]⟩, .string ⟨#[]⟩, .string ⟨#[]⟩, .slice none 0 0, .slice none 0 0, .slice none 0 0, .slice none 0 0, .int .i64 0] 46) = w1 at *
  have c1 := H1.out.b1.cell
  have c3 := H1.out.b3.cell
  have f3 := H1.out.b3.frozen
  go_upto_region 20 with fail
  have h2 := ((H1.out.set 1 (.int .u8 83)).set 2 (.string xn))
  try simp only [List.setIfInBounds_toArray, List.set_cons_succ, List.set_cons_zero] at h2
  have H2 := Lib.hid h2
  clear h2 c1 c3 f3
  generalize ((w1.setCell ⟨w.heap.size + 1 + 1, 1, none⟩ (.int .u8 83)).setCell ⟨w.heap.size + 1 + 1, 2, none⟩ (.string xn)) = w2 at *
  have c3 := H2.out.b3.cell
  have c2 : ∀ i, w2.cell? ⟨w.heap.size + 1, i, none⟩ = (#[.int .u8 0, .int .u8 0, .string ⟨#[]⟩, .string ⟨#[]⟩, .string ⟨#[]⟩, .slice none 0 0, .slice none 0 0, .slice none 0 0, .slice none 0 0, .int .i64 0] : Array Value)[i]? := H2.out.b2.cell
  have f2 := H2.out.b2.frozen
  go_wp2_with fail
  have hT := setTen_touch w2 (w.heap.size + 1) (.int .u8 68) (.int .u8 83) (.string xn) (.string ⟨#[]⟩) (.string ⟨#[]⟩) (.slice none 0 0) (.slice none 0 0) (.slice none 0 0) (.slice none 0 0) (.int .i64 0)
  have hbf := setTen_blk (.int .u8 68) (.int .u8 83) (.string xn) (.string ⟨#[]⟩) (.string ⟨#[]⟩) (.slice none 0 0) (.slice none 0 0) (.slice none 0 0) (.slice none 0 0) (.int .i64 0) H2.out.b2
  have HB := Lib.hid (H2.out.bel.trans (hT.below H2.out.bel.size (fun k hk => by omega)))
  unfold setTen at hbf HB
  have hcf := hbf.cell
  clear hT hbf c3 c2 f2
  refine bodyPost_ret (v := .agg #[.int .u8 68, .int .u8 83, .string xn, .string ⟨#[]⟩, .string ⟨#[]⟩, .slice none 0 0, .slice none 0 0, .slice none 0 0, .slice none 0 0, .int .i64 0]) (by simp [results, Tryz.results108, go_sem, hcf]) rfl ?_
  rw [Hk.out]
  exact ⟨⟨none, 0, none, 0, none, 0, none, 0⟩, rfl, ⟨SliceS.empty none 0 (by simp [maxLen]), SliceS.empty none 0 (by simp [maxLen]), SliceS.empty none 0 (by simp [maxLen]), SliceS.empty none 0 (by simp [maxLen])⟩, HB.out⟩

set_option maxRecDepth 100000 in
set_option maxHeartbeats 4000000 in
theorem of_N68 (S : Nat → Prop) (x : FoV) (a : FoP) (w : World) (h : FoL S w x a) (hk : x.kind = 68) (hw : x.what = 80) : Calls Tryz.prog 108 #[foArg x a] w (KeptR S x w) := by
  have HL := Lib.hid h
  have Hk : Hid (keptV x = ⟨68, 80, ⟨#[]⟩, x.portal, ⟨#[]⟩, [], [], [], [], 0⟩) := Lib.hid (by unfold keptV; simp_all)
  unfold KeptR
  generalize keptV x = kx at *
  obtain ⟨xk, xw, xn, xp, xt, xo, xf, xr, xc, xm⟩ := x
  obtain ⟨apo, aco, apf, acf, apr, acr, app, acp⟩ := a
  clear h
  dsimp only at *
  subst hk
  subst hw
  unfold foArg foCells
  dsimp only
  have H1 := Lib.hid (KpI.start w #[.int .u8 68, .int .u8 80, .string xn, .string xp, .string xt, .slice apo xo.length aco, .slice apf xf.length acf, .slice apr xr.length acr, .slice app xc.length acp, .int .i64 xm] #[.int .u8 68, .int .u8 0, .string ⟨#[]⟩, .string ⟨#[]⟩, .string ⟨#[]⟩, .slice none 0 0, .slice none 0 0, .slice none 0 0, .slice none 0 0, .int .i64 0])
  unfold foZ at H1
  go_enter Tryz.func108, Tryz.ntmps108
  go_upto_region 2 with (fail)
  generalize ((w.alloc (.cells #[.int .u8 68, .int .u8 80, .string xn, .string xp, .string xt, .slice apo xo.length aco, .slice apf xf.length acf, .slice apr xr.length acr, .slice app xc.length acp, .int .i64 xm] 46)).alloc (.cells #[.int .u8 0, .int .u8 0, .string ⟨#[]⟩, .string ⟨#[]⟩, .string ⟨#[]⟩, .slice none 0 0, .slice none 0 0, .slice none 0 0, .slice none 0 0, .int .i64 0] 46)).alloc (.cells #[.int .u8 68, .int .u8 0, .string ⟨#[]⟩, .string ⟨#[]⟩, .string ⟨#[]⟩, .slice none 0 0, .slice none 0 0, .slice none 0 0, .slice none 0 0, .int .i64 0] 46) = w1 at *
  have c1 := H1.out.b1.cell
  have c3 := H1.out.b3.cell
  have f3 := H1.out.b3.frozen
  go_upto_region 20 with fail
  have h2 := ((H1.out.set 1 (.int .u8 80)).set 3 (.string xp))
  try simp only [List.setIfInBounds_toArray, List.set_cons_succ, List.set_cons_zero] at h2
  have H2 := Lib.hid h2
  clear h2 c1 c3 f3
  generalize ((w1.setCell ⟨w.heap.size + 1 + 1, 1, none⟩ (.int .u8 80)).setCell ⟨w.heap.size + 1 + 1, 3, none⟩ (.string xp)) = w2 at *
  have c3 := H2.out.b3.cell
  have c2 : ∀ i, w2.cell? ⟨w.heap.size + 1, i, none⟩ = (#[.int .u8 0, .int .u8 0, .string ⟨#[]⟩, .string ⟨#[]⟩, .string ⟨#[]⟩, .slice none 0 0, .slice none 0 0, .slice none 0 0, .slice none 0 0, .int .i64 0] : Array Value)[i]? := H2.out.b2.cell
  have f2 := H2.out.b2.frozen
  go_wp2_with fail
  have hT := setTen_touch w2 (w.heap.size + 1) (.int .u8 68) (.int .u8 80) (.string ⟨#[]⟩) (.string xp) (.string ⟨#[]⟩) (.slice none 0 0) (.slice none 0 0) (.slice none 0 0) (.slice none 0 0) (.int .i64 0)
  have hbf := setTen_blk (.int .u8 68) (.int .u8 80) (.string ⟨#[]⟩) (.string xp) (.string ⟨#[]⟩) (.slice none 0 0) (.slice none 0 0) (.slice none 0 0) (.slice none 0 0) (.int .i64 0) H2.out.b2
  have HB := Lib.hid (H2.out.bel.trans (hT.below H2.out.bel.size (fun k hk => by omega)))
  unfold setTen at hbf HB
  have hcf := hbf.cell
  clear hT hbf c3 c2 f2
  refine bodyPost_ret (v := .agg #[.int .u8 68, .int .u8 80, .string ⟨#[]⟩, .string xp, .string ⟨#[]⟩, .slice none 0 0, .slice none 0 0, .slice none 0 0, .slice none 0 0, .int .i64 0]) (by simp [results, Tryz.results108, go_sem, hcf]) rfl ?_
  rw [Hk.out]
  exact ⟨⟨none, 0, none, 0, none, 0, none, 0⟩, rfl, ⟨SliceS.empty none 0 (by simp [maxLen]), SliceS.empty none 0 (by simp [maxLen]), SliceS.empty none 0 (by simp [maxLen]), SliceS.empty none 0 (by simp [maxLen])⟩, HB.out⟩

set_option maxRecDepth 100000 in
set_option maxHeartbeats 4000000 in
theorem of_E (S : Nat → Prop) (x : FoV) (a : FoP) (w : World) (h : FoL S w x a) (hk : x.kind = 69) : Calls Tryz.prog 108 #[foArg x a] w (KeptR S x w) := by
  have HL := Lib.hid h
  have Hk : Hid (keptV x = ⟨69, 0, ⟨#[]⟩, x.portal, ⟨#[]⟩, [], [], [], [], x.max⟩) := Lib.hid (by unfold keptV; simp_all)
  unfold KeptR
  generalize keptV x = kx at *
  obtain ⟨xk, xw, xn, xp, xt, xo, xf, xr, xc, xm⟩ := x
  obtain ⟨apo, aco, apf, acf, apr, acr, app, acp⟩ := a
  clear h
  dsimp only at *
  subst hk
  unfold foArg foCells
  dsimp only
  have H1 := Lib.hid (KpI.start w #[.int .u8 69, .int .u8 xw, .string xn, .string xp, .string xt, .slice apo xo.length aco, .slice apf xf.length acf, .slice apr xr.length acr, .slice app xc.length acp, .int .i64 xm] #[.int .u8 69, .int .u8 0, .string ⟨#[]⟩, .string ⟨#[]⟩, .string ⟨#[]⟩, .slice none 0 0, .slice none 0 0, .slice none 0 0, .slice none 0 0, .int .i64 0])
  unfold foZ at H1
  go_enter Tryz.func108, Tryz.ntmps108
  go_upto_region 2 with (fail)
  generalize ((w.alloc (.cells #[.int .u8 69, .int .u8 xw, .string xn, .string xp, .string xt, .slice apo xo.length aco, .slice apf xf.length acf, .slice apr xr.length acr, .slice app xc.length acp, .int .i64 xm] 46)).alloc (.cells #[.int .u8 0, .int .u8 0, .string ⟨#[]⟩, .string ⟨#[]⟩, .string ⟨#[]⟩, .slice none 0 0, .slice none 0 0, .slice none 0 0, .slice none 0 0, .int .i64 0] 46)).alloc (.cells #[.int .u8 69, .int .u8 0, .string ⟨#[]⟩, .string ⟨#[]⟩, .string ⟨#[]⟩, .slice none 0 0, .slice none 0 0, .slice none 0 0, .slice none 0 0, .int .i64 0] 46) = w1 at *
  have c1 := H1.out.b1.cell
  have c3 := H1.out.b3.cell
  have f3 := H1.out.b3.frozen
  go_wp2_with fail
  go_region
  have h2 := ((H1.out.set 3 (.string xp)).set 9 (.int .i64 xm)).drew
  try simp only [List.setIfInBounds_toArray, List.set_cons_succ, List.set_cons_zero] at h2
  have H2 := Lib.hid h2
  clear h2 c1 c3 f3
  generalize ((w1.setCell ⟨w.heap.size + 1 + 1, 3, none⟩ (.string xp)).setCell ⟨w.heap.size + 1 + 1, 9, none⟩ (.int .i64 xm)).drew = w2 at *
  have c3 := H2.out.b3.cell
  have c2 : ∀ i, w2.cell? ⟨w.heap.size + 1, i, none⟩ = (#[.int .u8 0, .int .u8 0, .string ⟨#[]⟩, .string ⟨#[]⟩, .string ⟨#[]⟩, .slice none 0 0, .slice none 0 0, .slice none 0 0, .slice none 0 0, .int .i64 0] : Array Value)[i]? := H2.out.b2.cell
  have f2 := H2.out.b2.frozen
  go_wp2_with fail
  have hT := setTen_touch w2 (w.heap.size + 1) (.int .u8 69) (.int .u8 0) (.string ⟨#[]⟩) (.string xp) (.string ⟨#[]⟩) (.slice none 0 0) (.slice none 0 0) (.slice none 0 0) (.slice none 0 0) (.int .i64 xm)
  have hbf := setTen_blk (.int .u8 69) (.int .u8 0) (.string ⟨#[]⟩) (.string xp) (.string ⟨#[]⟩) (.slice none 0 0) (.slice none 0 0) (.slice none 0 0) (.slice none 0 0) (.int .i64 xm) H2.out.b2
  have HB := Lib.hid (H2.out.bel.trans (hT.below H2.out.bel.size (fun k hk => by omega)))
  unfold setTen at hbf HB
  have hcf := hbf.cell
  clear hT hbf c3 c2 f2
  refine bodyPost_ret (v := .agg #[.int .u8 69, .int .u8 0, .string ⟨#[]⟩, .string xp, .string ⟨#[]⟩, .slice none 0 0, .slice none 0 0, .slice none 0 0, .slice none 0 0, .int .i64 xm]) (by simp [results, Tryz.results108, go_sem, hcf]) rfl ?_
  rw [Hk.out]
  exact ⟨⟨none, 0, none, 0, none, 0, none, 0⟩, rfl, ⟨SliceS.empty none 0 (by simp [maxLen]), SliceS.empty none 0 (by simp [maxLen]), SliceS.empty none 0 (by simp [maxLen]), SliceS.empty none 0 (by simp [maxLen])⟩, HB.out⟩

set_option maxRecDepth 100000 in
set_option maxHeartbeats 4000000 in
theorem of_Q (S : Nat → Prop) (x : FoV) (a : FoP) (w : World) (h : FoL S w x a) (hk : x.kind = 81) : Calls Tryz.prog 108 #[foArg x a] w (KeptR S x w) := by
  have HL := Lib.hid h
  have Hk : Hid (keptV x = ⟨81, 0, ⟨#[]⟩, ⟨#[]⟩, x.text, [], [], [], [], 0⟩) := Lib.hid (by unfold keptV; simp_all)
  unfold KeptR
  generalize keptV x = kx at *
  obtain ⟨xk, xw, xn, xp, xt, xo, xf, xr, xc, xm⟩ := x
  obtain ⟨apo, aco, apf, acf, apr, acr, app, acp⟩ := a
  clear h
  dsimp only at *
  subst hk
  unfold foArg foCells
  dsimp only
  have H1 := Lib.hid (KpI.start w #[.int .u8 81, .int .u8 xw, .string xn, .string xp, .string xt, .slice apo xo.length aco, .slice apf xf.length acf, .slice apr xr.length acr, .slice app xc.length acp, .int .i64 xm] #[.int .u8 81, .int .u8 0, .string ⟨#[]⟩, .string ⟨#[]⟩, .string ⟨#[]⟩, .slice none 0 0, .slice none 0 0, .slice none 0 0, .slice none 0 0, .int .i64 0])
  unfold foZ at H1
  go_enter Tryz.func108, Tryz.ntmps108
  go_upto_region 2 with (fail)
  generalize ((w.alloc (.cells #[.int .u8 81, .int .u8 xw, .string xn, .string xp, .string xt, .slice apo xo.length aco, .slice apf xf.length acf, .slice apr xr.length acr, .slice app xc.length acp, .int .i64 xm] 46)).alloc (.cells #[.int .u8 0, .int .u8 0, .string ⟨#[]⟩, .string ⟨#[]⟩, .string ⟨#[]⟩, .slice none 0 0, .slice none 0 0, .slice none 0 0, .slice none 0 0, .int .i64 0] 46)).alloc (.cells #[.int .u8 81, .int .u8 0, .string ⟨#[]⟩, .string ⟨#[]⟩, .string ⟨#[]⟩, .slice none 0 0, .slice none 0 0, .slice none 0 0, .slice none 0 0, .int .i64 0] 46) = w1 at *
  have c1 := H1.out.b1.cell
  have c3 := H1.out.b3.cell
  have f3 := H1.out.b3.frozen
  go_upto_region 20 with fail
  have h2 := (H1.out.set 4 (.string xt))
  try simp only [List.setIfInBounds_toArray, List.set_cons_succ, List.set_cons_zero] at h2
  have H2 := Lib.hid h2
  clear h2 c1 c3 f3
  generalize (w1.setCell ⟨w.heap.size + 1 + 1, 4, none⟩ (.string xt)) = w2 at *
  have c3 := H2.out.b3.cell
  have c2 : ∀ i, w2.cell? ⟨w.heap.size + 1, i, none⟩ = (#[.int .u8 0, .int .u8 0, .string ⟨#[]⟩, .string ⟨#[]⟩, .string ⟨#[]⟩, .slice none 0 0, .slice none 0 0, .slice none 0 0, .slice none 0 0, .int .i64 0] : Array Value)[i]? := H2.out.b2.cell
  have f2 := H2.out.b2.frozen
  go_wp2_with fail
  have hT := setTen_touch w2 (w.heap.size + 1) (.int .u8 81) (.int .u8 0) (.string ⟨#[]⟩) (.string ⟨#[]⟩) (.string xt) (.slice none 0 0) (.slice none 0 0) (.slice none 0 0) (.slice none 0 0) (.int .i64 0)
  have hbf := setTen_blk (.int .u8 81) (.int .u8 0) (.string ⟨#[]⟩) (.string ⟨#[]⟩) (.string xt) (.slice none 0 0) (.slice none 0 0) (.slice none 0 0) (.slice none 0 0) (.int .i64 0) H2.out.b2
  have HB := Lib.hid (H2.out.bel.trans (hT.below H2.out.bel.size (fun k hk => by omega)))
  unfold setTen at hbf HB
  have hcf := hbf.cell
  clear hT hbf c3 c2 f2
  refine bodyPost_ret (v := .agg #[.int .u8 81, .int .u8 0, .string ⟨#[]⟩, .string ⟨#[]⟩, .string xt, .slice none 0 0, .slice none 0 0, .slice none 0 0, .slice none 0 0, .int .i64 0]) (by simp [results, Tryz.results108, go_sem, hcf]) rfl ?_
  rw [Hk.out]
  exact ⟨⟨none, 0, none, 0, none, 0, none, 0⟩, rfl, ⟨SliceS.empty none 0 (by simp [maxLen]), SliceS.empty none 0 (by simp [maxLen]), SliceS.empty none 0 (by simp [maxLen]), SliceS.empty none 0 (by simp [maxLen])⟩, HB.out⟩

set_option maxRecDepth 100000 in
set_option maxHeartbeats 4000000 in
theorem of_O (S : Nat → Prop) (x : FoV) (a : FoP) (w : World) (h : FoL S w x a) (hk : ∀ n ∈ [80, 66, 67, 68, 69, 81], (x.kind == n) = false) : Calls Tryz.prog 108 #[foArg x a] w (KeptR S x w) := by
  have HL := Lib.hid h
  have g1 := hk 80 (by simp)
  have g2 := hk 66 (by simp)
  have g3 := hk 67 (by simp)
  have g4 := hk 68 (by simp)
  have g5 := hk 69 (by simp)
  have g6 := hk 81 (by simp)
  have Hk : Hid (keptV x = ⟨x.kind, 0, ⟨#[]⟩, ⟨#[]⟩, ⟨#[]⟩, [], [], [], [], 0⟩) := Lib.hid (by unfold keptV; simp_all)
  unfold KeptR
  generalize keptV x = kx at *
  obtain ⟨xk, xw, xn, xp, xt, xo, xf, xr, xc, xm⟩ := x
  obtain ⟨apo, aco, apf, acf, apr, acr, app, acp⟩ := a
  clear h
  dsimp only at *
  clear hk
  unfold foArg foCells
  dsimp only
  have H1 := Lib.hid (KpI.start w #[.int .u8 xk, .int .u8 xw, .string xn, .string xp, .string xt, .slice apo xo.length aco, .slice apf xf.length acf, .slice apr xr.length acr, .slice app xc.length acp, .int .i64 xm] #[.int .u8 xk, .int .u8 0, .string ⟨#[]⟩, .string ⟨#[]⟩, .string ⟨#[]⟩, .slice none 0 0, .slice none 0 0, .slice none 0 0, .slice none 0 0, .int .i64 0])
  unfold foZ at H1
  go_enter Tryz.func108, Tryz.ntmps108
  go_upto_region 2 with (fail)
  generalize ((w.alloc (.cells #[.int .u8 xk, .int .u8 xw, .string xn, .string xp, .string xt, .slice apo xo.length aco, .slice apf xf.length acf, .slice apr xr.length acr, .slice app xc.length acp, .int .i64 xm] 46)).alloc (.cells #[.int .u8 0, .int .u8 0, .string ⟨#[]⟩, .string ⟨#[]⟩, .string ⟨#[]⟩, .slice none 0 0, .slice none 0 0, .slice none 0 0, .slice none 0 0, .int .i64 0] 46)).alloc (.cells #[.int .u8 xk, .int .u8 0, .string ⟨#[]⟩, .string ⟨#[]⟩, .string ⟨#[]⟩, .slice none 0 0, .slice none 0 0, .slice none 0 0, .slice none 0 0, .int .i64 0] 46) = w1 at *
  have c1 := H1.out.b1.cell
  have c3 := H1.out.b3.cell
  have f3 := H1.out.b3.frozen
  go_upto_region 20 with fail
  have h2 := H1.out
  try simp only [List.setIfInBounds_toArray, List.set_cons_succ, List.set_cons_zero] at h2
  have H2 := Lib.hid h2
  clear h2 c1 c3 f3
  generalize w1 = w2 at *
  have c3 := H2.out.b3.cell
  have c2 : ∀ i, w2.cell? ⟨w.heap.size + 1, i, none⟩ = (#[.int .u8 0, .int .u8 0, .string ⟨#[]⟩, .string ⟨#[]⟩, .string ⟨#[]⟩, .slice none 0 0, .slice none 0 0, .slice none 0 0, .slice none 0 0, .int .i64 0] : Array Value)[i]? := H2.out.b2.cell
  have f2 := H2.out.b2.frozen
  go_wp2_with fail
  have hT := setTen_touch w2 (w.heap.size + 1) (.int .u8 xk) (.int .u8 0) (.string ⟨#[]⟩) (.string ⟨#[]⟩) (.string ⟨#[]⟩) (.slice none 0 0) (.slice none 0 0) (.slice none 0 0) (.slice none 0 0) (.int .i64 0)
  have hbf := setTen_blk (.int .u8 xk) (.int .u8 0) (.string ⟨#[]⟩) (.string ⟨#[]⟩) (.string ⟨#[]⟩) (.slice none 0 0) (.slice none 0 0) (.slice none 0 0) (.slice none 0 0) (.int .i64 0) H2.out.b2
  have HB := Lib.hid (H2.out.bel.trans (hT.below H2.out.bel.size (fun k hk => by omega)))
  unfold setTen at hbf HB
  have hcf := hbf.cell
  clear hT hbf c3 c2 f2
  refine bodyPost_ret (v := .agg #[.int .u8 xk, .int .u8 0, .string ⟨#[]⟩, .string ⟨#[]⟩, .string ⟨#[]⟩, .slice none 0 0, .slice none 0 0, .slice none 0 0, .slice none 0 0, .int .i64 0]) (by simp [results, Tryz.results108, go_sem, hcf]) rfl ?_
  rw [Hk.out]
  exact ⟨⟨none, 0, none, 0, none, 0, none, 0⟩, rfl, ⟨SliceS.empty none 0 (by simp [maxLen]), SliceS.empty none 0 (by simp [maxLen]), SliceS.empty none 0 (by simp [maxLen]), SliceS.empty none 0 (by simp [maxLen])⟩, HB.out⟩

theorem kind_cases (k : Int) : k = 80 ∨ k = 66 ∨ k = 67 ∨ k = 68 ∨ k = 69 ∨ k = 81 ∨ (∀ n ∈ [80, 66, 67, 68, 69, 81], (k == n) = false) := by
  by_cases h1 : k = 80
  · exact .inl h1
  by_cases h2 : k = 66
  · exact .inr (.inl h2)
  by_cases h3 : k = 67
  · exact .inr (.inr (.inl h3))
  by_cases h4 : k = 68
  · exact .inr (.inr (.inr (.inl h4)))
  by_cases h5 : k = 69
  · exact .inr (.inr (.inr (.inr (.inl h5))))
  by_cases h6 : k = 81
  · exact .inr (.inr (.inr (.inr (.inr (.inl h6)))))
  refine .inr (.inr (.inr (.inr (.inr (.inr ?_)))))
  intro n hn
  simp only [List.mem_cons, List.not_mem_nil, or_false] at hn
  rcases hn with rfl | rfl | rfl | rfl | rfl | rfl <;> simp [*]

theorem of_any (S : Nat → Prop) (x : FoV) (a : FoP) (w : World) (h : FoL S w x a) (hw : whatV x = true) : Calls Tryz.prog 108 #[foArg x a] w (KeptR S x w) := by
  rcases kind_cases x.kind with hk | hk | hk | hk | hk | hk | hk
  · exact of_P S x a w h hk
  · exact of_B S x a w h hk
  · have hw' : x.what = 83 ∨ x.what = 80 := by unfold whatV at hw; rw [if_pos (.inl hk)] at hw; simpa using hw
    rcases hw' with e | e
    · exact of_S67 S x a w h hk e
    · exact of_N67 S x a w h hk e
  · have hw' : x.what = 83 ∨ x.what = 80 := by unfold whatV at hw; rw [if_pos (.inr hk)] at hw; simpa using hw
    rcases hw' with e | e
    · exact of_S68 S x a w h hk e
    · exact of_N68 S x a w h hk e
  · exact of_E S x a w h hk
  · exact of_Q S x a w h hk
  · exact of_O S x a w h hk

end Go.Proofs.YtacnmdlefonjmaaGreat

/-
  The contracts of package num (layer 1) and of remudaref01: Right, Signed.
-/
namespace Go.Proofs.YtacnmdlefonjmaaGreat
open Go.RowKit

theorem signed_any (n size : Int) (w : World) :
    Calls Tryz.prog 101 #[.int .i64 n, .int .i64 size] w fun e w' => e = .returned (.int .i64 (signedV n size)) ∧ w = w' := by
  by_cases hs : sizedB size = true
  · unfold signedV
    rcases sizedB_cases hs with rfl | rfl | rfl
    all_goals
      clear hs
      go_enter Tryz.func101, Tryz.ntmps101
      go_wp2_with (first | (go_at_call 112; refine (sized_any _ _).mono ?_; rintro e w' ⟨rfl, rfl⟩) | (go_at_call 116; refine (span_any _ _ (by omega)).mono ?_; rintro e w' ⟨rfl, rfl⟩))
      all_goals go_ret
      all_goals (simp_all [sizedB]; try omega)
  · have hs' : sizedB size = false := by simpa using hs
    have hr : signedV n size = n := by unfold signedV; rw [hs']; simp
    have Hs := Lib.hid hs'
    have Hr := Lib.hid hr
    clear hs hs' hr
    go_enter Tryz.func101, Tryz.ntmps101
    go_wp2_with (first | (go_at_call 112; refine (sized_any _ _).mono ?_; rintro e w' ⟨rfl, rfl⟩; rw [Hs.out]))
    go_ret
    rw [Hr.out]
    exact ⟨rfl, rfl⟩

theorem signedR_any (n size : Int) (w : World) :
    Calls Tryz.prog 79 #[.int .i64 n, .int .i64 size] w fun e w' => e = .returned (.int .i64 (signedV n size)) ∧ w = w' := by
  by_cases hs : sizedB size = true
  · unfold signedV
    rcases sizedB_cases hs with rfl | rfl | rfl
    all_goals
      clear hs
      go_enter Tryz.func79, Tryz.ntmps79
      go_wp2_with (first | (go_at_call 75; refine (sizedR_any _ _).mono ?_; rintro e w' ⟨rfl, rfl⟩) | (go_at_call 86; refine (pow_size _ _ (by omega)).mono ?_; rintro e w' ⟨rfl, rfl⟩))
      all_goals go_ret
      all_goals (simp_all [sizedB]; try omega)
  · have hs' : sizedB size = false := by simpa using hs
    have hr : signedV n size = n := by unfold signedV; rw [hs']; simp
    have Hs := Lib.hid hs'
    have Hr := Lib.hid hr
    clear hs hs' hr
    go_enter Tryz.func79, Tryz.ntmps79
    go_wp2_with (first | (go_at_call 75; refine (sizedR_any _ _).mono ?_; rintro e w' ⟨rfl, rfl⟩; rw [Hs.out]))
    go_ret
    rw [Hr.out]
    exact ⟨rfl, rfl⟩

end Go.Proofs.YtacnmdlefonjmaaGreat

/-
  Messages of clients (layer 6): a message that is being read: what holds between its parts.
-/
namespace Go.Proofs.YtacnmdlefonjmaaGreat
open Go.RowKit
set_option linter.unusedVariables false
set_option linter.unusedSimpArgs false

/-- The result's block n, the message's block behind it, its lists; the scan's block is all that is touched. -/
structure MsI (sb n : Nat) (w0 w : World) (f : FoV) (a : FoP) : Prop where
  lt : sb < w0.heap.size
  hn : w0.heap.size ≤ n
  b2 : Blk w n 46 foZ
  b3 : Blk w (n + 1) 46 (foCells f a)
  lst : FoL (fun k => n + 2 ≤ k) w f a
  tch : Touch (fun k => k = sb) w0 w
section
variable {sb n : Nat} {w0 w w' : World} {f f' : FoV} {a a' : FoP}
theorem MsI.step (h : MsI sb n w0 w f a) (hT : Touch (fun k => k = sb) w w') : MsI sb n w0 w' f a := by
  have h1 := h.lt
  have h2 := h.hn
  exact ⟨h1, h2, hT.blk h.b2 (by omega), hT.blk h.b3 (by omega), h.lst.keep (Kept.touch hT (fun k hk hs => ⟨hs, fun e => by have hs' : n + 2 ≤ k := hs; omega⟩)), h.tch.trans hT⟩
theorem MsI.tset (w : World) (n i : Nat) (u : Value) : Touch (fun k => k = n + 1) w (w.setCell ⟨n + 1, i, none⟩ u) :=
  (Touch.refl (fun k => k = n + 1) w).setCell (x := ⟨n + 1, i, none⟩) (fun _ => rfl) _
theorem MsI.set (h : MsI sb n w0 w f a) (i : Nat) (u : Value) (hl : FoL (fun k => n + 2 ≤ k) w f' a') (hc : (foCells f a).setIfInBounds i u = foCells f' a') : MsI sb n w0 (w.setCell ⟨n + 1, i, none⟩ u) f' a' := by
  have h1 := h.lt
  have h2 := h.hn
  have hT := MsI.tset w n i u
  refine ⟨h1, h2, hT.blk h.b2 (by omega), ?_, hl.keep (Kept.touch hT (fun k hk hs => ⟨hs, fun e => by have hs' : n + 2 ≤ k := hs; omega⟩)), h.tch.then hT (fun k hk e => by omega)⟩
  rw [← hc]
  exact h.b3.set_ i u
theorem MsI.drew (h : MsI sb n w0 w f a) : MsI sb n w0 w.drew f a := h.step ((Touch.refl _ _).drew)
end

theorem FoL.zero (S : Nat → Prop) (w : World) (k : Int) : FoL S w (foZero k) foNil :=
  ⟨SliceS.empty none 0 (by simp [maxLen]), SliceS.empty none 0 (by simp [maxLen]), SliceS.empty none 0 (by simp [maxLen]), SliceS.empty none 0 (by simp [maxLen])⟩

/-- The start: the result's block, the message's. -/
theorem MsI.start (sb : Nat) (w0 w : World) (k : Int) (hT : Touch (fun k => k = sb) w0 w) (hsb : sb < w0.heap.size) :
    MsI sb w.heap.size w0 ((w.alloc (.cells foZ 46)).alloc (.cells (foCells (foZero k) foNil) 46)) (foZero k) foNil := by
  have e1 : (w.alloc (.cells foZ 46)).heap.size = w.heap.size + 1 := by simp
  refine ⟨hsb, hT.size, (Blk.new _ _ _).alloc _, ?_, FoL.zero _ _ _, (hT.alloc _).alloc _⟩
  have := Blk.new (w.alloc (.cells foZ 46)) 46 (foCells (foZero k) foNil)
  rw [e1] at this
  exact this

section
variable {sb g : Nat} {L : List UInt8} {bad : Bool} {w : World}
theorem scanText_o (h : ScanO w sb g L bad) : ∃ t L' b', StepO L bad textQ t L' b' ∧ Calls Tryz.prog 98 #[.pointer (some ⟨sb, 0, none⟩)] w fun e w' =>
    e = .returned (.string t) ∧ ScanO w' sb g L' b' ∧ Touch (fun i => i = sb) w w' := ⟨_, _, _, StepO.text (.inl rfl), scanText_any sb g L bad w h⟩
theorem scanNum_o (h : ScanO w sb g L bad) (n : Int) (z : Nat) (hz : (z : Int) = n) : ∃ t L' b', StepO L bad (numP z) t L' b' ∧ (t = numV L bad n) ∧ Calls Tryz.prog 92 #[.pointer (some ⟨sb, 0, none⟩), .int .i64 n] w fun e w' =>
    e = .returned (.int .i64 t) ∧ ScanO w' sb g L' b' ∧ Touch (fun i => i = sb) w w' := by
  subst hz
  exact ⟨_, _, _, StepO.num (.inl rfl) z, rfl, scanNum_any sb g L bad (z : Int) w h⟩
theorem refNum_o (h : RefS w sb g L bad) (n : Int) (z : Nat) (hz : (z : Int) = n) : ∃ t L' b', StepO L bad (numP z) t L' b' ∧ (t = numV L bad n) ∧ Calls Tryz.prog 56 #[.pointer (some ⟨sb, 0, none⟩), .int .i64 n] w fun e w' =>
    e = .returned (.int .i64 t) ∧ RefS w' sb g L' b' ∧ Touch (fun i => i = sb) w w' := by
  subst hz
  exact ⟨_, _, _, StepO.num (.inr rfl) z, rfl, refSNum_any sb g L bad (z : Int) w h⟩
theorem StepO.ne {α : Type} {L L' : List UInt8} {bad b' : Bool} {P : List UInt8 → Option (α × List UInt8)} {x : α} (h : StepO L bad P x L' b') (hn : L' ≠ []) : L ≠ [] := by
  intro e
  have := h.2.2
  rw [e] at this
  exact hn (List.eq_nil_of_length_eq_zero (by simpa using this))
/-- A list that a call made, behind the message's blocks. -/
theorem OwnI.lst {w w' : World} {v : Value} {xs : List Int} {B : Nat} (h : OwnI B w v xs) (n : Nat) (hn : n ≤ B) : ∃ p c, v = .slice p xs.length c ∧ SliceS 1 IntU (fun k => n ≤ k) w [.slice p xs.length c] xs :=
  h.slice IntU.still (fun k _ hk => by have hk' : B ≤ k := hk; omega) (fun k hk => by have := (h.row k hk).1; omega)
theorem OwnC.lst {w w' : World} {v : Value} {xs : List CeV} {B : Nat} (h : OwnC B w v xs) (n : Nat) (hn : n ≤ B) : ∃ p c, v = .slice p xs.length c ∧ SliceS 2 CeS (fun k => n ≤ k) w [.slice p xs.length c] xs :=
  h.slice CeS.still (fun k _ hk => by have hk' : B ≤ k := hk; omega) (fun k hk => by have := (h.row k hk).1; omega)
end

/-- What is read of a message: the program's. -/
def fmsgR (sb g : Nat) (L : List UInt8) (bad : Bool) (k : Int) (w : World) (e : Ending) (w' : World) : Prop :=
  ∃ f a L' bad', e = .returned (foArg f a) ∧ FoL (fun k => w.heap.size ≤ k) w' f a ∧ ScanO w' sb g L' bad' ∧ StepO L bad (readP k) f L' bad' ∧ Touch (fun i => i = sb) w w'
/-- The document's. -/
def frmsgR (sb g : Nat) (L : List UInt8) (bad : Bool) (k : Int) (w : World) (e : Ending) (w' : World) : Prop :=
  ∃ f a L' bad', e = .returned (foArg f a) ∧ FoL (fun k => w.heap.size ≤ k) w' f a ∧ RefS w' sb g L' bad' ∧ StepO L bad (readP k) f L' bad' ∧ Touch (fun i => i = sb) w w'

end Go.Proofs.YtacnmdlefonjmaaGreat

