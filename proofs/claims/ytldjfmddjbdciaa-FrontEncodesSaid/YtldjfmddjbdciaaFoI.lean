/-
  Messages of clients (layer 6): a message with just the fields that its body has; the document's.
-/
import Derived.Test.YtldjfmddjbdciaaFoH
import Derived.BigRegion
namespace Go.Proofs.Ytldjfmddjbdciaa
open Go.RowKit
set_option linter.unusedVariables false
set_option linter.unusedSimpArgs false


set_option maxRecDepth 100000 in
set_option maxHeartbeats 4000000 in
theorem kept_P (S : Nat → Prop) (x : FoV) (a : FoP) (w : World) (h : FoL S w x a) (hk : x.kind = 80) : Calls Try.prog 63 #[foArg x a] w (KeptR S x w) := by
  have HL := Lib.hid h
  have Hk : Hid (keptV x = ⟨80, 0, x.name, ⟨#[]⟩, x.text, x.oids, [], [], [], 0⟩) := Lib.hid (by unfold keptV; simp_all)
  unfold KeptR
  generalize keptV x = kx at *
  obtain ⟨xk, xw, xn, xp, xt, xo, xf, xr, xc, xm⟩ := x
  obtain ⟨apo, aco, apf, acf, apr, acr, app, acp⟩ := a
  clear h
  dsimp only at *
  subst hk
  unfold foArg foCells
  dsimp only
  have H1 := Lib.hid (KpI.start w #[.int .u8 80, .int .u8 xw, .string xn, .string xp, .string xt, .slice apo xo.length aco, .slice apf xf.length acf, .slice apr xr.length acr, .slice app xc.length acp, .int .i64 xm] #[.int .u8 80, .int .u8 0, .string ⟨#[]⟩, .string ⟨#[]⟩, .string ⟨#[]⟩, .slice none 0 0, .slice none 0 0, .slice none 0 0, .slice none 0 0, .int .i64 0])
  unfold foZ at H1
  go_enter Try.func63, Try.ntmps63
  go_upto_region 2 with (fail)
  generalize ((w.alloc (.cells #[.int .u8 80, .int .u8 xw, .string xn, .string xp, .string xt, .slice apo xo.length aco, .slice apf xf.length acf, .slice apr xr.length acr, .slice app xc.length acp, .int .i64 xm] 44)).alloc (.cells #[.int .u8 0, .int .u8 0, .string ⟨#[]⟩, .string ⟨#[]⟩, .string ⟨#[]⟩, .slice none 0 0, .slice none 0 0, .slice none 0 0, .slice none 0 0, .int .i64 0] 44)).alloc (.cells #[.int .u8 80, .int .u8 0, .string ⟨#[]⟩, .string ⟨#[]⟩, .string ⟨#[]⟩, .slice none 0 0, .slice none 0 0, .slice none 0 0, .slice none 0 0, .int .i64 0] 44) = w1 at *
  have c1 := H1.out.b1.cell
  have c3 := H1.out.b3.cell
  have f3 := H1.out.b3.frozen
  go_wp2_with fail
  go_region
  have h2 := (((H1.out.set 2 (.string xn)).set 4 (.string xt)).set 5 (.slice apo xo.length aco)).drew
  try simp only [List.setIfInBounds_toArray, List.set_cons_succ, List.set_cons_zero] at h2
  have H2 := Lib.hid h2
  clear h2 c1 c3 f3
  generalize (((w1.setCell ⟨w.heap.size + 1 + 1, 2, none⟩ (.string xn)).setCell ⟨w.heap.size + 1 + 1, 4, none⟩ (.string xt)).setCell ⟨w.heap.size + 1 + 1, 5, none⟩ (.slice apo xo.length aco)).drew = w2 at *
  have c3 := H2.out.b3.cell
  have c2 : ∀ i, w2.cell? ⟨w.heap.size + 1, i, none⟩ = (#[.int .u8 0, .int .u8 0, .string ⟨#[]⟩, .string ⟨#[]⟩, .string ⟨#[]⟩, .slice none 0 0, .slice none 0 0, .slice none 0 0, .slice none 0 0, .int .i64 0] : Array Value)[i]? := H2.out.b2.cell
  have f2 := H2.out.b2.frozen
  go_wp2_with fail
  have hT := setTen_touch w2 (w.heap.size + 1) (.int .u8 80) (.int .u8 0) (.string xn) (.string ⟨#[]⟩) (.string xt) (.slice apo xo.length aco) (.slice none 0 0) (.slice none 0 0) (.slice none 0 0) (.int .i64 0)
  have hbf := setTen_blk (.int .u8 80) (.int .u8 0) (.string xn) (.string ⟨#[]⟩) (.string xt) (.slice apo xo.length aco) (.slice none 0 0) (.slice none 0 0) (.slice none 0 0) (.int .i64 0) H2.out.b2
  have HB := Lib.hid (H2.out.bel.trans (hT.below H2.out.bel.size (fun k hk => by omega)))
  unfold setTen at hbf HB
  have hcf := hbf.cell
  clear hT hbf c3 c2 f2
  refine bodyPost_ret (v := .agg #[.int .u8 80, .int .u8 0, .string xn, .string ⟨#[]⟩, .string xt, .slice apo xo.length aco, .slice none 0 0, .slice none 0 0, .slice none 0 0, .int .i64 0]) (by simp [results, Try.results63, go_sem, hcf]) rfl ?_
  rw [Hk.out]
  exact ⟨⟨apo, aco, none, 0, none, 0, none, 0⟩, rfl, ⟨HL.out.lo.below IntU.still HB.out, SliceS.empty none 0 (by simp [maxLen]), SliceS.empty none 0 (by simp [maxLen]), SliceS.empty none 0 (by simp [maxLen])⟩, HB.out⟩

set_option maxRecDepth 100000 in
set_option maxHeartbeats 4000000 in
theorem kept_B (S : Nat → Prop) (x : FoV) (a : FoP) (w : World) (h : FoL S w x a) (hk : x.kind = 66) : Calls Try.prog 63 #[foArg x a] w (KeptR S x w) := by
  have HL := Lib.hid h
  have Hk : Hid (keptV x = ⟨66, 0, x.name, x.portal, ⟨#[]⟩, [], x.formats, x.results, x.params, 0⟩) := Lib.hid (by unfold keptV; simp_all)
  unfold KeptR
  generalize keptV x = kx at *
  obtain ⟨xk, xw, xn, xp, xt, xo, xf, xr, xc, xm⟩ := x
  obtain ⟨apo, aco, apf, acf, apr, acr, app, acp⟩ := a
  clear h
  dsimp only at *
  subst hk
  unfold foArg foCells
  dsimp only
  have H1 := Lib.hid (KpI.start w #[.int .u8 66, .int .u8 xw, .string xn, .string xp, .string xt, .slice apo xo.length aco, .slice apf xf.length acf, .slice apr xr.length acr, .slice app xc.length acp, .int .i64 xm] #[.int .u8 66, .int .u8 0, .string ⟨#[]⟩, .string ⟨#[]⟩, .string ⟨#[]⟩, .slice none 0 0, .slice none 0 0, .slice none 0 0, .slice none 0 0, .int .i64 0])
  unfold foZ at H1
  go_enter Try.func63, Try.ntmps63
  go_upto_region 2 with (fail)
  generalize ((w.alloc (.cells #[.int .u8 66, .int .u8 xw, .string xn, .string xp, .string xt, .slice apo xo.length aco, .slice apf xf.length acf, .slice apr xr.length acr, .slice app xc.length acp, .int .i64 xm] 44)).alloc (.cells #[.int .u8 0, .int .u8 0, .string ⟨#[]⟩, .string ⟨#[]⟩, .string ⟨#[]⟩, .slice none 0 0, .slice none 0 0, .slice none 0 0, .slice none 0 0, .int .i64 0] 44)).alloc (.cells #[.int .u8 66, .int .u8 0, .string ⟨#[]⟩, .string ⟨#[]⟩, .string ⟨#[]⟩, .slice none 0 0, .slice none 0 0, .slice none 0 0, .slice none 0 0, .int .i64 0] 44) = w1 at *
  have c1 := H1.out.b1.cell
  have c3 := H1.out.b3.cell
  have f3 := H1.out.b3.frozen
  go_wp2_with fail
  go_region
  have h2 := (((((H1.out.set 3 (.string xp)).set 2 (.string xn)).set 6 (.slice apf xf.length acf)).set 8 (.slice app xc.length acp)).set 7 (.slice apr xr.length acr)).drew
  try simp only [List.setIfInBounds_toArray, List.set_cons_succ, List.set_cons_zero] at h2
  have H2 := Lib.hid h2
  clear h2 c1 c3 f3
  generalize (((((w1.setCell ⟨w.heap.size + 1 + 1, 3, none⟩ (.string xp)).setCell ⟨w.heap.size + 1 + 1, 2, none⟩ (.string xn)).setCell ⟨w.heap.size + 1 + 1, 6, none⟩ (.slice apf xf.length acf)).setCell ⟨w.heap.size + 1 + 1, 8, none⟩ (.slice app xc.length acp)).setCell ⟨w.heap.size + 1 + 1, 7, none⟩ (.slice apr xr.length acr)).drew = w2 at *
  have c3 := H2.out.b3.cell
  have c2 : ∀ i, w2.cell? ⟨w.heap.size + 1, i, none⟩ = (#[.int .u8 0, .int .u8 0, .string ⟨#[]⟩, .string ⟨#[]⟩, .string ⟨#[]⟩, .slice none 0 0, .slice none 0 0, .slice none 0 0, .slice none 0 0, .int .i64 0] : Array Value)[i]? := H2.out.b2.cell
  have f2 := H2.out.b2.frozen
  go_wp2_with fail
  have hT := setTen_touch w2 (w.heap.size + 1) (.int .u8 66) (.int .u8 0) (.string xn) (.string xp) (.string ⟨#[]⟩) (.slice none 0 0) (.slice apf xf.length acf) (.slice apr xr.length acr) (.slice app xc.length acp) (.int .i64 0)
  have hbf := setTen_blk (.int .u8 66) (.int .u8 0) (.string xn) (.string xp) (.string ⟨#[]⟩) (.slice none 0 0) (.slice apf xf.length acf) (.slice apr xr.length acr) (.slice app xc.length acp) (.int .i64 0) H2.out.b2
  have HB := Lib.hid (H2.out.bel.trans (hT.below H2.out.bel.size (fun k hk => by omega)))
  unfold setTen at hbf HB
  have hcf := hbf.cell
  clear hT hbf c3 c2 f2
  refine bodyPost_ret (v := .agg #[.int .u8 66, .int .u8 0, .string xn, .string xp, .string ⟨#[]⟩, .slice none 0 0, .slice apf xf.length acf, .slice apr xr.length acr, .slice app xc.length acp, .int .i64 0]) (by simp [results, Try.results63, go_sem, hcf]) rfl ?_
  rw [Hk.out]
  exact ⟨⟨none, 0, apf, acf, apr, acr, app, acp⟩, rfl, ⟨SliceS.empty none 0 (by simp [maxLen]), HL.out.lf.below IntU.still HB.out, HL.out.lr.below IntU.still HB.out, HL.out.lp.below CeS.still HB.out⟩, HB.out⟩

set_option maxRecDepth 100000 in
set_option maxHeartbeats 4000000 in
theorem kept_S67 (S : Nat → Prop) (x : FoV) (a : FoP) (w : World) (h : FoL S w x a) (hk : x.kind = 67) (hw : x.what = 83) : Calls Try.prog 63 #[foArg x a] w (KeptR S x w) := by
  have HL := Lib.hid h
  have Hk : Hid (keptV x = ⟨67, 83, x.name, ⟨#[]⟩, ⟨#[]⟩, [], [], [], [], 0⟩) := Lib.hid (by unfold keptV; simp_all)
  unfold KeptR
  generalize keptV x = kx at *
  obtain ⟨xk, xw, xn, xp, xt, xo, xf, xr, xc, xm⟩ := x
  obtain ⟨apo, aco, apf, acf, apr, acr, app, acp⟩ := a
  clear h
  dsimp only at *
  subst hk
  subst hw
  unfold foArg foCells
  dsimp only
  have H1 := Lib.hid (KpI.start w #[.int .u8 67, .int .u8 83, .string xn, .string xp, .string xt, .slice apo xo.length aco, .slice apf xf.length acf, .slice apr xr.length acr, .slice app xc.length acp, .int .i64 xm] #[.int .u8 67, .int .u8 0, .string ⟨#[]⟩, .string ⟨#[]⟩, .string ⟨#[]⟩, .slice none 0 0, .slice none 0 0, .slice none 0 0, .slice none 0 0, .int .i64 0])
  unfold foZ at H1
  go_enter Try.func63, Try.ntmps63
  go_upto_region 2 with (fail)
  generalize ((w.alloc (.cells #[.int .u8 67, .int .u8 83, .string xn, .string xp, .string xt, .slice apo xo.length aco, .slice apf xf.length acf, .slice apr xr.length acr, .slice app xc.length acp, .int .i64 xm] 44)).alloc (.cells #[.int .u8 0, .int .u8 0, .string ⟨#[]⟩, .string ⟨#[]⟩, .string ⟨#[]⟩, .slice none 0 0, .slice none 0 0, .slice none 0 0, .slice none 0 0, .int .i64 0] 44)).alloc (.cells #[.int .u8 67, .int .u8 0, .string ⟨#[]⟩, .string ⟨#[]⟩, .string ⟨#[]⟩, .slice none 0 0, .slice none 0 0, .slice none 0 0, .slice none 0 0, .int .i64 0] 44) = w1 at *
  have c1 := H1.out.b1.cell
  have c3 := H1.out.b3.cell
  have f3 := H1.out.b3.frozen
  go_upto_region 17 with fail
  have h2 := ((H1.out.set 1 (.int .u8 83)).set 2 (.string xn))
  try simp only [List.setIfInBounds_toArray, List.set_cons_succ, List.set_cons_zero] at h2
  have H2 := Lib.hid h2
  clear h2 c1 c3 f3
  generalize ((w1.setCell ⟨w.heap.size + 1 + 1, 1, none⟩ (.int .u8 83)).setCell ⟨w.heap.size + 1 + 1, 2, none⟩ (.string xn)) = w2 at *
  have c3 := H2.out.b3.cell
  have c2 : ∀ i, w2.cell? ⟨w.heap.size + 1, i, none⟩ = (#[.int .u8 0, .int .u8 0, .string ⟨#[]⟩, .string ⟨#[]⟩, .string ⟨#[]⟩, .slice none 0 0, .slice none 0 0, .slice none 0 0, .slice none 0 0, .int .i64 0] : Array Value)[i]? := H2.out.b2.cell
  have f2 := H2.out.b2.frozen
  go_wp2_with fail
  have hT := setTen_touch w2 (w.heap.size + 1) (.int .u8 67) (.int .u8 83) (.string xn) (.string ⟨#[]⟩) (.string ⟨#[]⟩) (.slice none 0 0) (.slice none 0 0) (.slice none 0 0) (.slice none 0 0) (.int .i64 0)
  have hbf := setTen_blk (.int .u8 67) (.int .u8 83) (.string xn) (.string ⟨#[]⟩) (.string ⟨#[]⟩) (.slice none 0 0) (.slice none 0 0) (.slice none 0 0) (.slice none 0 0) (.int .i64 0) H2.out.b2
  have HB := Lib.hid (H2.out.bel.trans (hT.below H2.out.bel.size (fun k hk => by omega)))
  unfold setTen at hbf HB
  have hcf := hbf.cell
  clear hT hbf c3 c2 f2
  refine bodyPost_ret (v := .agg #[.int .u8 67, .int .u8 83, .string xn, .string ⟨#[]⟩, .string ⟨#[]⟩, .slice none 0 0, .slice none 0 0, .slice none 0 0, .slice none 0 0, .int .i64 0]) (by simp [results, Try.results63, go_sem, hcf]) rfl ?_
  rw [Hk.out]
  exact ⟨⟨none, 0, none, 0, none, 0, none, 0⟩, rfl, ⟨SliceS.empty none 0 (by simp [maxLen]), SliceS.empty none 0 (by simp [maxLen]), SliceS.empty none 0 (by simp [maxLen]), SliceS.empty none 0 (by simp [maxLen])⟩, HB.out⟩

set_option maxRecDepth 100000 in
set_option maxHeartbeats 4000000 in
theorem kept_N67 (S : Nat → Prop) (x : FoV) (a : FoP) (w : World) (h : FoL S w x a) (hk : x.kind = 67) (hw : ¬ x.what = 83) : Calls Try.prog 63 #[foArg x a] w (KeptR S x w) := by
  have HL := Lib.hid h
  have Hk : Hid (keptV x = ⟨67, x.what, ⟨#[]⟩, x.portal, ⟨#[]⟩, [], [], [], [], 0⟩) := Lib.hid (by unfold keptV; simp_all)
  unfold KeptR
  generalize keptV x = kx at *
  obtain ⟨xk, xw, xn, xp, xt, xo, xf, xr, xc, xm⟩ := x
  obtain ⟨apo, aco, apf, acf, apr, acr, app, acp⟩ := a
  clear h
  dsimp only at *
  subst hk
  have hwb : (xw == 83) = false := by simpa using hw
  unfold foArg foCells
  dsimp only
  have H1 := Lib.hid (KpI.start w #[.int .u8 67, .int .u8 xw, .string xn, .string xp, .string xt, .slice apo xo.length aco, .slice apf xf.length acf, .slice apr xr.length acr, .slice app xc.length acp, .int .i64 xm] #[.int .u8 67, .int .u8 0, .string ⟨#[]⟩, .string ⟨#[]⟩, .string ⟨#[]⟩, .slice none 0 0, .slice none 0 0, .slice none 0 0, .slice none 0 0, .int .i64 0])
  unfold foZ at H1
  go_enter Try.func63, Try.ntmps63
  go_upto_region 2 with (fail)
  generalize ((w.alloc (.cells #[.int .u8 67, .int .u8 xw, .string xn, .string xp, .string xt, .slice apo xo.length aco, .slice apf xf.length acf, .slice apr xr.length acr, .slice app xc.length acp, .int .i64 xm] 44)).alloc (.cells #[.int .u8 0, .int .u8 0, .string ⟨#[]⟩, .string ⟨#[]⟩, .string ⟨#[]⟩, .slice none 0 0, .slice none 0 0, .slice none 0 0, .slice none 0 0, .int .i64 0] 44)).alloc (.cells #[.int .u8 67, .int .u8 0, .string ⟨#[]⟩, .string ⟨#[]⟩, .string ⟨#[]⟩, .slice none 0 0, .slice none 0 0, .slice none 0 0, .slice none 0 0, .int .i64 0] 44) = w1 at *
  have c1 := H1.out.b1.cell
  have c3 := H1.out.b3.cell
  have f3 := H1.out.b3.frozen
  go_upto_region 17 with fail
  have h2 := ((H1.out.set 1 (.int .u8 xw)).set 3 (.string xp))
  try simp only [List.setIfInBounds_toArray, List.set_cons_succ, List.set_cons_zero] at h2
  have H2 := Lib.hid h2
  clear h2 c1 c3 f3
  generalize ((w1.setCell ⟨w.heap.size + 1 + 1, 1, none⟩ (.int .u8 xw)).setCell ⟨w.heap.size + 1 + 1, 3, none⟩ (.string xp)) = w2 at *
  have c3 := H2.out.b3.cell
  have c2 : ∀ i, w2.cell? ⟨w.heap.size + 1, i, none⟩ = (#[.int .u8 0, .int .u8 0, .string ⟨#[]⟩, .string ⟨#[]⟩, .string ⟨#[]⟩, .slice none 0 0, .slice none 0 0, .slice none 0 0, .slice none 0 0, .int .i64 0] : Array Value)[i]? := H2.out.b2.cell
  have f2 := H2.out.b2.frozen
  go_wp2_with fail
  have hT := setTen_touch w2 (w.heap.size + 1) (.int .u8 67) (.int .u8 xw) (.string ⟨#[]⟩) (.string xp) (.string ⟨#[]⟩) (.slice none 0 0) (.slice none 0 0) (.slice none 0 0) (.slice none 0 0) (.int .i64 0)
  have hbf := setTen_blk (.int .u8 67) (.int .u8 xw) (.string ⟨#[]⟩) (.string xp) (.string ⟨#[]⟩) (.slice none 0 0) (.slice none 0 0) (.slice none 0 0) (.slice none 0 0) (.int .i64 0) H2.out.b2
  have HB := Lib.hid (H2.out.bel.trans (hT.below H2.out.bel.size (fun k hk => by omega)))
  unfold setTen at hbf HB
  have hcf := hbf.cell
  clear hT hbf c3 c2 f2
  refine bodyPost_ret (v := .agg #[.int .u8 67, .int .u8 xw, .string ⟨#[]⟩, .string xp, .string ⟨#[]⟩, .slice none 0 0, .slice none 0 0, .slice none 0 0, .slice none 0 0, .int .i64 0]) (by simp [results, Try.results63, go_sem, hcf]) rfl ?_
  rw [Hk.out]
  exact ⟨⟨none, 0, none, 0, none, 0, none, 0⟩, rfl, ⟨SliceS.empty none 0 (by simp [maxLen]), SliceS.empty none 0 (by simp [maxLen]), SliceS.empty none 0 (by simp [maxLen]), SliceS.empty none 0 (by simp [maxLen])⟩, HB.out⟩

set_option maxRecDepth 100000 in
set_option maxHeartbeats 4000000 in
theorem kept_S68 (S : Nat → Prop) (x : FoV) (a : FoP) (w : World) (h : FoL S w x a) (hk : x.kind = 68) (hw : x.what = 83) : Calls Try.prog 63 #[foArg x a] w (KeptR S x w) := by
  have HL := Lib.hid h
  have Hk : Hid (keptV x = ⟨68, 83, x.name, ⟨#[]⟩, ⟨#[]⟩, [], [], [], [], 0⟩) := Lib.hid (by unfold keptV; simp_all)
  unfold KeptR
  generalize keptV x = kx at *
  obtain ⟨xk, xw, xn, xp, xt, xo, xf, xr, xc, xm⟩ := x
  obtain ⟨apo, aco, apf, acf, apr, acr, app, acp⟩ := a
  clear h
  dsimp only at *
  subst hk
  subst hw
  unfold foArg foCells
  dsimp only
  have H1 := Lib.hid (KpI.start w #[.int .u8 68, .int .u8 83, .string xn, .string xp, .string xt, .slice apo xo.length aco, .slice apf xf.length acf, .slice apr xr.length acr, .slice app xc.length acp, .int .i64 xm] #[.int .u8 68, .int .u8 0, .string ⟨#[]⟩, .string ⟨#[]⟩, .string ⟨#[]⟩, .slice none 0 0, .slice none 0 0, .slice none 0 0, .slice none 0 0, .int .i64 0])
  unfold foZ at H1
  go_enter Try.func63, Try.ntmps63
  go_upto_region 2 with (fail)
  generalize ((w.alloc (.cells #[.int .u8 68, .int .u8 83, .string xn, .string xp, .string xt, .slice apo xo.length aco, .slice apf xf.length acf, .slice apr xr.length acr, .slice app xc.length acp, .int .i64 xm] 44)).alloc (.cells #[.int .u8 0, .int .u8 0, .string ⟨#[]⟩, .string ⟨#[]⟩, .string ⟨#[]⟩, .slice none 0 0, .slice none 0 0, .slice none 0 0, .slice none 0 0, .int .i64 0] 44)).alloc (.cells #[.int .u8 68, .int .u8 0, .string ⟨#[]⟩, .string ⟨#[]⟩, .string ⟨#[]⟩, .slice none 0 0, .slice none 0 0, .slice none 0 0, .slice none 0 0, .int .i64 0] 44) = w1 at *
  have c1 := H1.out.b1.cell
  have c3 := H1.out.b3.cell
  have f3 := H1.out.b3.frozen
  go_upto_region 17 with fail
  have h2 := ((H1.out.set 1 (.int .u8 83)).set 2 (.string xn))
  try simp only [List.setIfInBounds_toArray, List.set_cons_succ, List.set_cons_zero] at h2
  have H2 := Lib.hid h2
  clear h2 c1 c3 f3
  generalize ((w1.setCell ⟨w.heap.size + 1 + 1, 1, none⟩ (.int .u8 83)).setCell ⟨w.heap.size + 1 + 1, 2, none⟩ (.string xn)) = w2 at *
  have c3 := H2.out.b3.cell
  have c2 : ∀ i, w2.cell? ⟨w.heap.size + 1, i, none⟩ = (#[.int .u8 0, .int .u8 0, .string ⟨#[]⟩, .string ⟨#[]⟩, .string ⟨#[]⟩, .slice none 0 0, .slice none 0 0, .slice none 0 0, .slice none 0 0, .int .i64 0] : Array Value)[i]? := H2.out.b2.cell
  have f2 := H2.out.b2.frozen
  go_wp2_with fail
  have hT := setTen_touch w2 (w.heap.size + 1) (.int .u8 68) (.int .u8 83) (.string xn) (.string ⟨#[]⟩) (.string ⟨#[]⟩) (.slice none 0 0) (.slice none 0 0) (.slice none 0 0) (.slice none 0 0) (.int .i64 0)
  have hbf := setTen_blk (.int .u8 68) (.int .u8 83) (.string xn) (.string ⟨#[]⟩) (.string ⟨#[]⟩) (.slice none 0 0) (.slice none 0 0) (.slice none 0 0) (.slice none 0 0) (.int .i64 0) H2.out.b2
  have HB := Lib.hid (H2.out.bel.trans (hT.below H2.out.bel.size (fun k hk => by omega)))
  unfold setTen at hbf HB
  have hcf := hbf.cell
  clear hT hbf c3 c2 f2
  refine bodyPost_ret (v := .agg #[.int .u8 68, .int .u8 83, .string xn, .string ⟨#[]⟩, .string ⟨#[]⟩, .slice none 0 0, .slice none 0 0, .slice none 0 0, .slice none 0 0, .int .i64 0]) (by simp [results, Try.results63, go_sem, hcf]) rfl ?_
  rw [Hk.out]
  exact ⟨⟨none, 0, none, 0, none, 0, none, 0⟩, rfl, ⟨SliceS.empty none 0 (by simp [maxLen]), SliceS.empty none 0 (by simp [maxLen]), SliceS.empty none 0 (by simp [maxLen]), SliceS.empty none 0 (by simp [maxLen])⟩, HB.out⟩

set_option maxRecDepth 100000 in
set_option maxHeartbeats 4000000 in
theorem kept_N68 (S : Nat → Prop) (x : FoV) (a : FoP) (w : World) (h : FoL S w x a) (hk : x.kind = 68) (hw : ¬ x.what = 83) : Calls Try.prog 63 #[foArg x a] w (KeptR S x w) := by
  have HL := Lib.hid h
  have Hk : Hid (keptV x = ⟨68, x.what, ⟨#[]⟩, x.portal, ⟨#[]⟩, [], [], [], [], 0⟩) := Lib.hid (by unfold keptV; simp_all)
  unfold KeptR
  generalize keptV x = kx at *
  obtain ⟨xk, xw, xn, xp, xt, xo, xf, xr, xc, xm⟩ := x
  obtain ⟨apo, aco, apf, acf, apr, acr, app, acp⟩ := a
  clear h
  dsimp only at *
  subst hk
  have hwb : (xw == 83) = false := by simpa using hw
  unfold foArg foCells
  dsimp only
  have H1 := Lib.hid (KpI.start w #[.int .u8 68, .int .u8 xw, .string xn, .string xp, .string xt, .slice apo xo.length aco, .slice apf xf.length acf, .slice apr xr.length acr, .slice app xc.length acp, .int .i64 xm] #[.int .u8 68, .int .u8 0, .string ⟨#[]⟩, .string ⟨#[]⟩, .string ⟨#[]⟩, .slice none 0 0, .slice none 0 0, .slice none 0 0, .slice none 0 0, .int .i64 0])
  unfold foZ at H1
  go_enter Try.func63, Try.ntmps63
  go_upto_region 2 with (fail)
  generalize ((w.alloc (.cells #[.int .u8 68, .int .u8 xw, .string xn, .string xp, .string xt, .slice apo xo.length aco, .slice apf xf.length acf, .slice apr xr.length acr, .slice app xc.length acp, .int .i64 xm] 44)).alloc (.cells #[.int .u8 0, .int .u8 0, .string ⟨#[]⟩, .string ⟨#[]⟩, .string ⟨#[]⟩, .slice none 0 0, .slice none 0 0, .slice none 0 0, .slice none 0 0, .int .i64 0] 44)).alloc (.cells #[.int .u8 68, .int .u8 0, .string ⟨#[]⟩, .string ⟨#[]⟩, .string ⟨#[]⟩, .slice none 0 0, .slice none 0 0, .slice none 0 0, .slice none 0 0, .int .i64 0] 44) = w1 at *
  have c1 := H1.out.b1.cell
  have c3 := H1.out.b3.cell
  have f3 := H1.out.b3.frozen
  go_upto_region 17 with fail
  have h2 := ((H1.out.set 1 (.int .u8 xw)).set 3 (.string xp))
  try simp only [List.setIfInBounds_toArray, List.set_cons_succ, List.set_cons_zero] at h2
  have H2 := Lib.hid h2
  clear h2 c1 c3 f3
  generalize ((w1.setCell ⟨w.heap.size + 1 + 1, 1, none⟩ (.int .u8 xw)).setCell ⟨w.heap.size + 1 + 1, 3, none⟩ (.string xp)) = w2 at *
  have c3 := H2.out.b3.cell
  have c2 : ∀ i, w2.cell? ⟨w.heap.size + 1, i, none⟩ = (#[.int .u8 0, .int .u8 0, .string ⟨#[]⟩, .string ⟨#[]⟩, .string ⟨#[]⟩, .slice none 0 0, .slice none 0 0, .slice none 0 0, .slice none 0 0, .int .i64 0] : Array Value)[i]? := H2.out.b2.cell
  have f2 := H2.out.b2.frozen
  go_wp2_with fail
  have hT := setTen_touch w2 (w.heap.size + 1) (.int .u8 68) (.int .u8 xw) (.string ⟨#[]⟩) (.string xp) (.string ⟨#[]⟩) (.slice none 0 0) (.slice none 0 0) (.slice none 0 0) (.slice none 0 0) (.int .i64 0)
  have hbf := setTen_blk (.int .u8 68) (.int .u8 xw) (.string ⟨#[]⟩) (.string xp) (.string ⟨#[]⟩) (.slice none 0 0) (.slice none 0 0) (.slice none 0 0) (.slice none 0 0) (.int .i64 0) H2.out.b2
  have HB := Lib.hid (H2.out.bel.trans (hT.below H2.out.bel.size (fun k hk => by omega)))
  unfold setTen at hbf HB
  have hcf := hbf.cell
  clear hT hbf c3 c2 f2
  refine bodyPost_ret (v := .agg #[.int .u8 68, .int .u8 xw, .string ⟨#[]⟩, .string xp, .string ⟨#[]⟩, .slice none 0 0, .slice none 0 0, .slice none 0 0, .slice none 0 0, .int .i64 0]) (by simp [results, Try.results63, go_sem, hcf]) rfl ?_
  rw [Hk.out]
  exact ⟨⟨none, 0, none, 0, none, 0, none, 0⟩, rfl, ⟨SliceS.empty none 0 (by simp [maxLen]), SliceS.empty none 0 (by simp [maxLen]), SliceS.empty none 0 (by simp [maxLen]), SliceS.empty none 0 (by simp [maxLen])⟩, HB.out⟩

set_option maxRecDepth 100000 in
set_option maxHeartbeats 4000000 in
theorem kept_E (S : Nat → Prop) (x : FoV) (a : FoP) (w : World) (h : FoL S w x a) (hk : x.kind = 69) : Calls Try.prog 63 #[foArg x a] w (KeptR S x w) := by
  have HL := Lib.hid h
  have Hk : Hid (keptV x = ⟨69, 0, ⟨#[]⟩, x.portal, ⟨#[]⟩, [], [], [], [], x.max⟩) := Lib.hid (by unfold keptV; simp_all)
  unfold KeptR
  generalize keptV x = kx at *
  obtain ⟨xk, xw, xn, xp, xt, xo, xf, xr, xc, xm⟩ := x
  obtain ⟨apo, aco, apf, acf, apr, acr, app, acp⟩ := a
  clear h
  dsimp only at *
  subst hk
  unfold foArg foCells
  dsimp only
  have H1 := Lib.hid (KpI.start w #[.int .u8 69, .int .u8 xw, .string xn, .string xp, .string xt, .slice apo xo.length aco, .slice apf xf.length acf, .slice apr xr.length acr, .slice app xc.length acp, .int .i64 xm] #[.int .u8 69, .int .u8 0, .string ⟨#[]⟩, .string ⟨#[]⟩, .string ⟨#[]⟩, .slice none 0 0, .slice none 0 0, .slice none 0 0, .slice none 0 0, .int .i64 0])
  unfold foZ at H1
  go_enter Try.func63, Try.ntmps63
  go_upto_region 2 with (fail)
  generalize ((w.alloc (.cells #[.int .u8 69, .int .u8 xw, .string xn, .string xp, .string xt, .slice apo xo.length aco, .slice apf xf.length acf, .slice apr xr.length acr, .slice app xc.length acp, .int .i64 xm] 44)).alloc (.cells #[.int .u8 0, .int .u8 0, .string ⟨#[]⟩, .string ⟨#[]⟩, .string ⟨#[]⟩, .slice none 0 0, .slice none 0 0, .slice none 0 0, .slice none 0 0, .int .i64 0] 44)).alloc (.cells #[.int .u8 69, .int .u8 0, .string ⟨#[]⟩, .string ⟨#[]⟩, .string ⟨#[]⟩, .slice none 0 0, .slice none 0 0, .slice none 0 0, .slice none 0 0, .int .i64 0] 44) = w1 at *
  have c1 := H1.out.b1.cell
  have c3 := H1.out.b3.cell
  have f3 := H1.out.b3.frozen
  go_wp2_with fail
  go_region
  have h2 := ((H1.out.set 3 (.string xp)).set 9 (.int .i64 xm)).drew
  try simp only [List.setIfInBounds_toArray, List.set_cons_succ, List.set_cons_zero] at h2
  have H2 := Lib.hid h2
  clear h2 c1 c3 f3
  generalize ((w1.setCell ⟨w.heap.size + 1 + 1, 3, none⟩ (.string xp)).setCell ⟨w.heap.size + 1 + 1, 9, none⟩ (.int .i64 xm)).drew = w2 at *
  have c3 := H2.out.b3.cell
  have c2 : ∀ i, w2.cell? ⟨w.heap.size + 1, i, none⟩ = (#[.int .u8 0, .int .u8 0, .string ⟨#[]⟩, .string ⟨#[]⟩, .string ⟨#[]⟩, .slice none 0 0, .slice none 0 0, .slice none 0 0, .slice none 0 0, .int .i64 0] : Array Value)[i]? := H2.out.b2.cell
  have f2 := H2.out.b2.frozen
  go_wp2_with fail
  have hT := setTen_touch w2 (w.heap.size + 1) (.int .u8 69) (.int .u8 0) (.string ⟨#[]⟩) (.string xp) (.string ⟨#[]⟩) (.slice none 0 0) (.slice none 0 0) (.slice none 0 0) (.slice none 0 0) (.int .i64 xm)
  have hbf := setTen_blk (.int .u8 69) (.int .u8 0) (.string ⟨#[]⟩) (.string xp) (.string ⟨#[]⟩) (.slice none 0 0) (.slice none 0 0) (.slice none 0 0) (.slice none 0 0) (.int .i64 xm) H2.out.b2
  have HB := Lib.hid (H2.out.bel.trans (hT.below H2.out.bel.size (fun k hk => by omega)))
  unfold setTen at hbf HB
  have hcf := hbf.cell
  clear hT hbf c3 c2 f2
  refine bodyPost_ret (v := .agg #[.int .u8 69, .int .u8 0, .string ⟨#[]⟩, .string xp, .string ⟨#[]⟩, .slice none 0 0, .slice none 0 0, .slice none 0 0, .slice none 0 0, .int .i64 xm]) (by simp [results, Try.results63, go_sem, hcf]) rfl ?_
  rw [Hk.out]
  exact ⟨⟨none, 0, none, 0, none, 0, none, 0⟩, rfl, ⟨SliceS.empty none 0 (by simp [maxLen]), SliceS.empty none 0 (by simp [maxLen]), SliceS.empty none 0 (by simp [maxLen]), SliceS.empty none 0 (by simp [maxLen])⟩, HB.out⟩

set_option maxRecDepth 100000 in
set_option maxHeartbeats 4000000 in
theorem kept_Q (S : Nat → Prop) (x : FoV) (a : FoP) (w : World) (h : FoL S w x a) (hk : x.kind = 81) : Calls Try.prog 63 #[foArg x a] w (KeptR S x w) := by
  have HL := Lib.hid h
  have Hk : Hid (keptV x = ⟨81, 0, ⟨#[]⟩, ⟨#[]⟩, x.text, [], [], [], [], 0⟩) := Lib.hid (by unfold keptV; simp_all)
  unfold KeptR
  generalize keptV x = kx at *
  obtain ⟨xk, xw, xn, xp, xt, xo, xf, xr, xc, xm⟩ := x
  obtain ⟨apo, aco, apf, acf, apr, acr, app, acp⟩ := a
  clear h
  dsimp only at *
  subst hk
  unfold foArg foCells
  dsimp only
  have H1 := Lib.hid (KpI.start w #[.int .u8 81, .int .u8 xw, .string xn, .string xp, .string xt, .slice apo xo.length aco, .slice apf xf.length acf, .slice apr xr.length acr, .slice app xc.length acp, .int .i64 xm] #[.int .u8 81, .int .u8 0, .string ⟨#[]⟩, .string ⟨#[]⟩, .string ⟨#[]⟩, .slice none 0 0, .slice none 0 0, .slice none 0 0, .slice none 0 0, .int .i64 0])
  unfold foZ at H1
  go_enter Try.func63, Try.ntmps63
  go_upto_region 2 with (fail)
  generalize ((w.alloc (.cells #[.int .u8 81, .int .u8 xw, .string xn, .string xp, .string xt, .slice apo xo.length aco, .slice apf xf.length acf, .slice apr xr.length acr, .slice app xc.length acp, .int .i64 xm] 44)).alloc (.cells #[.int .u8 0, .int .u8 0, .string ⟨#[]⟩, .string ⟨#[]⟩, .string ⟨#[]⟩, .slice none 0 0, .slice none 0 0, .slice none 0 0, .slice none 0 0, .int .i64 0] 44)).alloc (.cells #[.int .u8 81, .int .u8 0, .string ⟨#[]⟩, .string ⟨#[]⟩, .string ⟨#[]⟩, .slice none 0 0, .slice none 0 0, .slice none 0 0, .slice none 0 0, .int .i64 0] 44) = w1 at *
  have c1 := H1.out.b1.cell
  have c3 := H1.out.b3.cell
  have f3 := H1.out.b3.frozen
  go_upto_region 17 with fail
  have h2 := (H1.out.set 4 (.string xt))
  try simp only [List.setIfInBounds_toArray, List.set_cons_succ, List.set_cons_zero] at h2
  have H2 := Lib.hid h2
  clear h2 c1 c3 f3
  generalize (w1.setCell ⟨w.heap.size + 1 + 1, 4, none⟩ (.string xt)) = w2 at *
  have c3 := H2.out.b3.cell
  have c2 : ∀ i, w2.cell? ⟨w.heap.size + 1, i, none⟩ = (#[.int .u8 0, .int .u8 0, .string ⟨#[]⟩, .string ⟨#[]⟩, .string ⟨#[]⟩, .slice none 0 0, .slice none 0 0, .slice none 0 0, .slice none 0 0, .int .i64 0] : Array Value)[i]? := H2.out.b2.cell
  have f2 := H2.out.b2.frozen
  go_wp2_with fail
  have hT := setTen_touch w2 (w.heap.size + 1) (.int .u8 81) (.int .u8 0) (.string ⟨#[]⟩) (.string ⟨#[]⟩) (.string xt) (.slice none 0 0) (.slice none 0 0) (.slice none 0 0) (.slice none 0 0) (.int .i64 0)
  have hbf := setTen_blk (.int .u8 81) (.int .u8 0) (.string ⟨#[]⟩) (.string ⟨#[]⟩) (.string xt) (.slice none 0 0) (.slice none 0 0) (.slice none 0 0) (.slice none 0 0) (.int .i64 0) H2.out.b2
  have HB := Lib.hid (H2.out.bel.trans (hT.below H2.out.bel.size (fun k hk => by omega)))
  unfold setTen at hbf HB
  have hcf := hbf.cell
  clear hT hbf c3 c2 f2
  refine bodyPost_ret (v := .agg #[.int .u8 81, .int .u8 0, .string ⟨#[]⟩, .string ⟨#[]⟩, .string xt, .slice none 0 0, .slice none 0 0, .slice none 0 0, .slice none 0 0, .int .i64 0]) (by simp [results, Try.results63, go_sem, hcf]) rfl ?_
  rw [Hk.out]
  exact ⟨⟨none, 0, none, 0, none, 0, none, 0⟩, rfl, ⟨SliceS.empty none 0 (by simp [maxLen]), SliceS.empty none 0 (by simp [maxLen]), SliceS.empty none 0 (by simp [maxLen]), SliceS.empty none 0 (by simp [maxLen])⟩, HB.out⟩

set_option maxRecDepth 100000 in
set_option maxHeartbeats 4000000 in
theorem kept_O (S : Nat → Prop) (x : FoV) (a : FoP) (w : World) (h : FoL S w x a) (hk : ∀ n ∈ [80, 66, 67, 68, 69, 81], (x.kind == n) = false) : Calls Try.prog 63 #[foArg x a] w (KeptR S x w) := by
  have HL := Lib.hid h
  have g1 := hk 80 (by simp)
  have g2 := hk 66 (by simp)
  have g3 := hk 67 (by simp)
  have g4 := hk 68 (by simp)
  have g5 := hk 69 (by simp)
  have g6 := hk 81 (by simp)
  have Hk : Hid (keptV x = ⟨x.kind, 0, ⟨#[]⟩, ⟨#[]⟩, ⟨#[]⟩, [], [], [], [], 0⟩) := Lib.hid (by unfold keptV; simp_all)
  unfold KeptR
  generalize keptV x = kx at *
  obtain ⟨xk, xw, xn, xp, xt, xo, xf, xr, xc, xm⟩ := x
  obtain ⟨apo, aco, apf, acf, apr, acr, app, acp⟩ := a
  clear h
  dsimp only at *
  clear hk
  unfold foArg foCells
  dsimp only
  have H1 := Lib.hid (KpI.start w #[.int .u8 xk, .int .u8 xw, .string xn, .string xp, .string xt, .slice apo xo.length aco, .slice apf xf.length acf, .slice apr xr.length acr, .slice app xc.length acp, .int .i64 xm] #[.int .u8 xk, .int .u8 0, .string ⟨#[]⟩, .string ⟨#[]⟩, .string ⟨#[]⟩, .slice none 0 0, .slice none 0 0, .slice none 0 0, .slice none 0 0, .int .i64 0])
  unfold foZ at H1
  go_enter Try.func63, Try.ntmps63
  go_upto_region 2 with (fail)
  generalize ((w.alloc (.cells #[.int .u8 xk, .int .u8 xw, .string xn, .string xp, .string xt, .slice apo xo.length aco, .slice apf xf.length acf, .slice apr xr.length acr, .slice app xc.length acp, .int .i64 xm] 44)).alloc (.cells #[.int .u8 0, .int .u8 0, .string ⟨#[]⟩, .string ⟨#[]⟩, .string ⟨#[]⟩, .slice none 0 0, .slice none 0 0, .slice none 0 0, .slice none 0 0, .int .i64 0] 44)).alloc (.cells #[.int .u8 xk, .int .u8 0, .string ⟨#[]⟩, .string ⟨#[]⟩, .string ⟨#[]⟩, .slice none 0 0, .slice none 0 0, .slice none 0 0, .slice none 0 0, .int .i64 0] 44) = w1 at *
  have c1 := H1.out.b1.cell
  have c3 := H1.out.b3.cell
  have f3 := H1.out.b3.frozen
  go_upto_region 17 with fail
  have h2 := H1.out
  try simp only [List.setIfInBounds_toArray, List.set_cons_succ, List.set_cons_zero] at h2
  have H2 := Lib.hid h2
  clear h2 c1 c3 f3
  generalize w1 = w2 at *
  have c3 := H2.out.b3.cell
  have c2 : ∀ i, w2.cell? ⟨w.heap.size + 1, i, none⟩ = (#[.int .u8 0, .int .u8 0, .string ⟨#[]⟩, .string ⟨#[]⟩, .string ⟨#[]⟩, .slice none 0 0, .slice none 0 0, .slice none 0 0, .slice none 0 0, .int .i64 0] : Array Value)[i]? := H2.out.b2.cell
  have f2 := H2.out.b2.frozen
  go_wp2_with fail
  have hT := setTen_touch w2 (w.heap.size + 1) (.int .u8 xk) (.int .u8 0) (.string ⟨#[]⟩) (.string ⟨#[]⟩) (.string ⟨#[]⟩) (.slice none 0 0) (.slice none 0 0) (.slice none 0 0) (.slice none 0 0) (.int .i64 0)
  have hbf := setTen_blk (.int .u8 xk) (.int .u8 0) (.string ⟨#[]⟩) (.string ⟨#[]⟩) (.string ⟨#[]⟩) (.slice none 0 0) (.slice none 0 0) (.slice none 0 0) (.slice none 0 0) (.int .i64 0) H2.out.b2
  have HB := Lib.hid (H2.out.bel.trans (hT.below H2.out.bel.size (fun k hk => by omega)))
  unfold setTen at hbf HB
  have hcf := hbf.cell
  clear hT hbf c3 c2 f2
  refine bodyPost_ret (v := .agg #[.int .u8 xk, .int .u8 0, .string ⟨#[]⟩, .string ⟨#[]⟩, .string ⟨#[]⟩, .slice none 0 0, .slice none 0 0, .slice none 0 0, .slice none 0 0, .int .i64 0]) (by simp [results, Try.results63, go_sem, hcf]) rfl ?_
  rw [Hk.out]
  exact ⟨⟨none, 0, none, 0, none, 0, none, 0⟩, rfl, ⟨SliceS.empty none 0 (by simp [maxLen]), SliceS.empty none 0 (by simp [maxLen]), SliceS.empty none 0 (by simp [maxLen]), SliceS.empty none 0 (by simp [maxLen])⟩, HB.out⟩

theorem kept_any (S : Nat → Prop) (x : FoV) (a : FoP) (w : World) (h : FoL S w x a) : Calls Try.prog 63 #[foArg x a] w (KeptR S x w) := by
  rcases kind_cases x.kind with hk | hk | hk | hk | hk | hk | hk
  · exact kept_P S x a w h hk
  · exact kept_B S x a w h hk
  · by_cases e : x.what = 83
    · exact kept_S67 S x a w h hk e
    · exact kept_N67 S x a w h hk e
  · by_cases e : x.what = 83
    · exact kept_S68 S x a w h hk e
    · exact kept_N68 S x a w h hk e
  · exact kept_E S x a w h hk
  · exact kept_Q S x a w h hk
  · exact kept_O S x a w h hk

end Go.Proofs.Ytldjfmddjbdciaa
