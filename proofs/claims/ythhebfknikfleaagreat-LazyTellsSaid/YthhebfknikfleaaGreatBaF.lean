/-
  Messages of servers (layer 7): a message with just the fields that its body has: the document's.
-/
import Derived.Test.YthhebfknikfleaaGreatBaE
namespace Go.Proofs.YthhebfknikfleaaGreat
open Go.RowKit
set_option linter.unusedVariables false
set_option linter.unusedSimpArgs false

set_option maxRecDepth 100000 in
set_option maxHeartbeats 4000000 in
theorem bkept_S (S : Nat → Prop) (x : BaV) (a : BaP) (w : World) (h : BaL S w x a) (hk : x.kind = 83) : Calls Tryz.prog 71 #[baArg x a] w (KeptB S x w) := by
  have HL := Lib.hid h
  have Hk : Hid (keptB x = ⟨83, 0, ⟨#[]⟩, x.name, x.value, 0, 0, [], [], [], []⟩) := Lib.hid (by unfold keptB baZero; simp_all)
  unfold KeptB
  generalize keptB x = kx at *
  obtain ⟨xk, xs, xt, xn, xv, xa, xb, xo, xc, xr, xf⟩ := x
  obtain ⟨apo, aco, apc, acc, apr, acr, apf, acf⟩ := a
  clear h
  dsimp only at *
  subst hk
  unfold baArg baCells
  dsimp only
  have H1 := Lib.hid (KbI.start w #[.int .u8 83, .int .u8 xs, .string xt, .string xn, .string xv, .int .i64 xa, .int .i64 xb, .slice apo xo.length aco, .slice apc xc.length acc, .slice apr xr.length acr, .slice apf xf.length acf] #[.int .u8 83, .int .u8 0, .string ⟨#[]⟩, .string ⟨#[]⟩, .string ⟨#[]⟩, .int .i64 0, .int .i64 0, .slice none 0 0, .slice none 0 0, .slice none 0 0, .slice none 0 0])
  unfold baZ at H1
  go_enter Tryz.func71, Tryz.ntmps71
  go_upto_region 2 with (fail)
  generalize ((w.alloc (.cells #[.int .u8 83, .int .u8 xs, .string xt, .string xn, .string xv, .int .i64 xa, .int .i64 xb, .slice apo xo.length aco, .slice apc xc.length acc, .slice apr xr.length acr, .slice apf xf.length acf] 39)).alloc (.cells #[.int .u8 0, .int .u8 0, .string ⟨#[]⟩, .string ⟨#[]⟩, .string ⟨#[]⟩, .int .i64 0, .int .i64 0, .slice none 0 0, .slice none 0 0, .slice none 0 0, .slice none 0 0] 39)).alloc (.cells #[.int .u8 83, .int .u8 0, .string ⟨#[]⟩, .string ⟨#[]⟩, .string ⟨#[]⟩, .int .i64 0, .int .i64 0, .slice none 0 0, .slice none 0 0, .slice none 0 0, .slice none 0 0] 39) = w1 at *
  have c1 := H1.out.b1.cell
  have c3 := H1.out.b3.cell
  have f3 := H1.out.b3.frozen
  go_wp2_with fail
  go_region
  have h2 := ((H1.out.set 3 (.string xn)).set 4 (.string xv)).drew
  try simp only [List.setIfInBounds_toArray, List.set_cons_succ, List.set_cons_zero] at h2
  have H2 := Lib.hid h2
  clear h2 c1 c3 f3
  generalize ((w1.setCell ⟨w.heap.size + 1 + 1, 3, none⟩ (.string xn)).setCell ⟨w.heap.size + 1 + 1, 4, none⟩ (.string xv)).drew = w2 at *
  have c3 := H2.out.b3.cell
  have c2 : ∀ i, w2.cell? ⟨w.heap.size + 1, i, none⟩ = (#[.int .u8 0, .int .u8 0, .string ⟨#[]⟩, .string ⟨#[]⟩, .string ⟨#[]⟩, .int .i64 0, .int .i64 0, .slice none 0 0, .slice none 0 0, .slice none 0 0, .slice none 0 0] : Array Value)[i]? := H2.out.b2.cell
  have f2 := H2.out.b2.frozen
  go_wp2_with fail
  have hT := setEl_touch w2 (w.heap.size + 1) (.int .u8 83) (.int .u8 0) (.string ⟨#[]⟩) (.string xn) (.string xv) (.int .i64 0) (.int .i64 0) (.slice none 0 0) (.slice none 0 0) (.slice none 0 0) (.slice none 0 0)
  have hbf := setEl_blk (.int .u8 83) (.int .u8 0) (.string ⟨#[]⟩) (.string xn) (.string xv) (.int .i64 0) (.int .i64 0) (.slice none 0 0) (.slice none 0 0) (.slice none 0 0) (.slice none 0 0) H2.out.b2
  have HB := Lib.hid (H2.out.bel.trans (hT.below H2.out.bel.size (fun k hk => by omega)))
  unfold setEl at hbf HB
  have hcf := hbf.cell
  clear hT hbf c3 c2 f2
  refine bodyPost_ret (v := .agg #[.int .u8 83, .int .u8 0, .string ⟨#[]⟩, .string xn, .string xv, .int .i64 0, .int .i64 0, .slice none 0 0, .slice none 0 0, .slice none 0 0, .slice none 0 0]) (by simp [results, Tryz.results71, go_sem, hcf]) rfl ?_
  rw [Hk.out]
  exact ⟨⟨none, 0, none, 0, none, 0, none, 0⟩, rfl, ⟨SliceS.empty none 0 (by simp [maxLen]), SliceS.empty none 0 (by simp [maxLen]), SliceS.empty none 0 (by simp [maxLen]), SliceS.empty none 0 (by simp [maxLen])⟩, HB.out⟩

set_option maxRecDepth 100000 in
set_option maxHeartbeats 4000000 in
theorem bkept_K (S : Nat → Prop) (x : BaV) (a : BaP) (w : World) (h : BaL S w x a) (hk : x.kind = 75) : Calls Tryz.prog 71 #[baArg x a] w (KeptB S x w) := by
  have HL := Lib.hid h
  have Hk : Hid (keptB x = ⟨75, 0, ⟨#[]⟩, ⟨#[]⟩, ⟨#[]⟩, x.n, x.m, [], [], [], []⟩) := Lib.hid (by unfold keptB baZero; simp_all)
  unfold KeptB
  generalize keptB x = kx at *
  obtain ⟨xk, xs, xt, xn, xv, xa, xb, xo, xc, xr, xf⟩ := x
  obtain ⟨apo, aco, apc, acc, apr, acr, apf, acf⟩ := a
  clear h
  dsimp only at *
  subst hk
  unfold baArg baCells
  dsimp only
  have H1 := Lib.hid (KbI.start w #[.int .u8 75, .int .u8 xs, .string xt, .string xn, .string xv, .int .i64 xa, .int .i64 xb, .slice apo xo.length aco, .slice apc xc.length acc, .slice apr xr.length acr, .slice apf xf.length acf] #[.int .u8 75, .int .u8 0, .string ⟨#[]⟩, .string ⟨#[]⟩, .string ⟨#[]⟩, .int .i64 0, .int .i64 0, .slice none 0 0, .slice none 0 0, .slice none 0 0, .slice none 0 0])
  unfold baZ at H1
  go_enter Tryz.func71, Tryz.ntmps71
  go_upto_region 2 with (fail)
  generalize ((w.alloc (.cells #[.int .u8 75, .int .u8 xs, .string xt, .string xn, .string xv, .int .i64 xa, .int .i64 xb, .slice apo xo.length aco, .slice apc xc.length acc, .slice apr xr.length acr, .slice apf xf.length acf] 39)).alloc (.cells #[.int .u8 0, .int .u8 0, .string ⟨#[]⟩, .string ⟨#[]⟩, .string ⟨#[]⟩, .int .i64 0, .int .i64 0, .slice none 0 0, .slice none 0 0, .slice none 0 0, .slice none 0 0] 39)).alloc (.cells #[.int .u8 75, .int .u8 0, .string ⟨#[]⟩, .string ⟨#[]⟩, .string ⟨#[]⟩, .int .i64 0, .int .i64 0, .slice none 0 0, .slice none 0 0, .slice none 0 0, .slice none 0 0] 39) = w1 at *
  have c1 := H1.out.b1.cell
  have c3 := H1.out.b3.cell
  have f3 := H1.out.b3.frozen
  go_wp2_with fail
  go_region
  have h2 := ((H1.out.set 5 (.int .i64 xa)).set 6 (.int .i64 xb)).drew
  try simp only [List.setIfInBounds_toArray, List.set_cons_succ, List.set_cons_zero] at h2
  have H2 := Lib.hid h2
  clear h2 c1 c3 f3
  generalize ((w1.setCell ⟨w.heap.size + 1 + 1, 5, none⟩ (.int .i64 xa)).setCell ⟨w.heap.size + 1 + 1, 6, none⟩ (.int .i64 xb)).drew = w2 at *
  have c3 := H2.out.b3.cell
  have c2 : ∀ i, w2.cell? ⟨w.heap.size + 1, i, none⟩ = (#[.int .u8 0, .int .u8 0, .string ⟨#[]⟩, .string ⟨#[]⟩, .string ⟨#[]⟩, .int .i64 0, .int .i64 0, .slice none 0 0, .slice none 0 0, .slice none 0 0, .slice none 0 0] : Array Value)[i]? := H2.out.b2.cell
  have f2 := H2.out.b2.frozen
  go_wp2_with fail
  have hT := setEl_touch w2 (w.heap.size + 1) (.int .u8 75) (.int .u8 0) (.string ⟨#[]⟩) (.string ⟨#[]⟩) (.string ⟨#[]⟩) (.int .i64 xa) (.int .i64 xb) (.slice none 0 0) (.slice none 0 0) (.slice none 0 0) (.slice none 0 0)
  have hbf := setEl_blk (.int .u8 75) (.int .u8 0) (.string ⟨#[]⟩) (.string ⟨#[]⟩) (.string ⟨#[]⟩) (.int .i64 xa) (.int .i64 xb) (.slice none 0 0) (.slice none 0 0) (.slice none 0 0) (.slice none 0 0) H2.out.b2
  have HB := Lib.hid (H2.out.bel.trans (hT.below H2.out.bel.size (fun k hk => by omega)))
  unfold setEl at hbf HB
  have hcf := hbf.cell
  clear hT hbf c3 c2 f2
  refine bodyPost_ret (v := .agg #[.int .u8 75, .int .u8 0, .string ⟨#[]⟩, .string ⟨#[]⟩, .string ⟨#[]⟩, .int .i64 xa, .int .i64 xb, .slice none 0 0, .slice none 0 0, .slice none 0 0, .slice none 0 0]) (by simp [results, Tryz.results71, go_sem, hcf]) rfl ?_
  rw [Hk.out]
  exact ⟨⟨none, 0, none, 0, none, 0, none, 0⟩, rfl, ⟨SliceS.empty none 0 (by simp [maxLen]), SliceS.empty none 0 (by simp [maxLen]), SliceS.empty none 0 (by simp [maxLen]), SliceS.empty none 0 (by simp [maxLen])⟩, HB.out⟩

set_option maxRecDepth 100000 in
set_option maxHeartbeats 4000000 in
theorem bkept_Z (S : Nat → Prop) (x : BaV) (a : BaP) (w : World) (h : BaL S w x a) (hk : x.kind = 90) : Calls Tryz.prog 71 #[baArg x a] w (KeptB S x w) := by
  have HL := Lib.hid h
  have Hk : Hid (keptB x = ⟨90, x.status, ⟨#[]⟩, ⟨#[]⟩, ⟨#[]⟩, 0, 0, [], [], [], []⟩) := Lib.hid (by unfold keptB baZero; simp_all)
  unfold KeptB
  generalize keptB x = kx at *
  obtain ⟨xk, xs, xt, xn, xv, xa, xb, xo, xc, xr, xf⟩ := x
  obtain ⟨apo, aco, apc, acc, apr, acr, apf, acf⟩ := a
  clear h
  dsimp only at *
  subst hk
  unfold baArg baCells
  dsimp only
  have H1 := Lib.hid (KbI.start w #[.int .u8 90, .int .u8 xs, .string xt, .string xn, .string xv, .int .i64 xa, .int .i64 xb, .slice apo xo.length aco, .slice apc xc.length acc, .slice apr xr.length acr, .slice apf xf.length acf] #[.int .u8 90, .int .u8 0, .string ⟨#[]⟩, .string ⟨#[]⟩, .string ⟨#[]⟩, .int .i64 0, .int .i64 0, .slice none 0 0, .slice none 0 0, .slice none 0 0, .slice none 0 0])
  unfold baZ at H1
  go_enter Tryz.func71, Tryz.ntmps71
  go_upto_region 2 with (fail)
  generalize ((w.alloc (.cells #[.int .u8 90, .int .u8 xs, .string xt, .string xn, .string xv, .int .i64 xa, .int .i64 xb, .slice apo xo.length aco, .slice apc xc.length acc, .slice apr xr.length acr, .slice apf xf.length acf] 39)).alloc (.cells #[.int .u8 0, .int .u8 0, .string ⟨#[]⟩, .string ⟨#[]⟩, .string ⟨#[]⟩, .int .i64 0, .int .i64 0, .slice none 0 0, .slice none 0 0, .slice none 0 0, .slice none 0 0] 39)).alloc (.cells #[.int .u8 90, .int .u8 0, .string ⟨#[]⟩, .string ⟨#[]⟩, .string ⟨#[]⟩, .int .i64 0, .int .i64 0, .slice none 0 0, .slice none 0 0, .slice none 0 0, .slice none 0 0] 39) = w1 at *
  have c1 := H1.out.b1.cell
  have c3 := H1.out.b3.cell
  have f3 := H1.out.b3.frozen
  go_upto_region 20 with fail
  have h2 := (H1.out.set 1 (.int .u8 xs))
  try simp only [List.setIfInBounds_toArray, List.set_cons_succ, List.set_cons_zero] at h2
  have H2 := Lib.hid h2
  clear h2 c1 c3 f3
  generalize (w1.setCell ⟨w.heap.size + 1 + 1, 1, none⟩ (.int .u8 xs)) = w2 at *
  have c3 := H2.out.b3.cell
  have c2 : ∀ i, w2.cell? ⟨w.heap.size + 1, i, none⟩ = (#[.int .u8 0, .int .u8 0, .string ⟨#[]⟩, .string ⟨#[]⟩, .string ⟨#[]⟩, .int .i64 0, .int .i64 0, .slice none 0 0, .slice none 0 0, .slice none 0 0, .slice none 0 0] : Array Value)[i]? := H2.out.b2.cell
  have f2 := H2.out.b2.frozen
  go_wp2_with fail
  have hT := setEl_touch w2 (w.heap.size + 1) (.int .u8 90) (.int .u8 xs) (.string ⟨#[]⟩) (.string ⟨#[]⟩) (.string ⟨#[]⟩) (.int .i64 0) (.int .i64 0) (.slice none 0 0) (.slice none 0 0) (.slice none 0 0) (.slice none 0 0)
  have hbf := setEl_blk (.int .u8 90) (.int .u8 xs) (.string ⟨#[]⟩) (.string ⟨#[]⟩) (.string ⟨#[]⟩) (.int .i64 0) (.int .i64 0) (.slice none 0 0) (.slice none 0 0) (.slice none 0 0) (.slice none 0 0) H2.out.b2
  have HB := Lib.hid (H2.out.bel.trans (hT.below H2.out.bel.size (fun k hk => by omega)))
  unfold setEl at hbf HB
  have hcf := hbf.cell
  clear hT hbf c3 c2 f2
  refine bodyPost_ret (v := .agg #[.int .u8 90, .int .u8 xs, .string ⟨#[]⟩, .string ⟨#[]⟩, .string ⟨#[]⟩, .int .i64 0, .int .i64 0, .slice none 0 0, .slice none 0 0, .slice none 0 0, .slice none 0 0]) (by simp [results, Tryz.results71, go_sem, hcf]) rfl ?_
  rw [Hk.out]
  exact ⟨⟨none, 0, none, 0, none, 0, none, 0⟩, rfl, ⟨SliceS.empty none 0 (by simp [maxLen]), SliceS.empty none 0 (by simp [maxLen]), SliceS.empty none 0 (by simp [maxLen]), SliceS.empty none 0 (by simp [maxLen])⟩, HB.out⟩

set_option maxRecDepth 100000 in
set_option maxHeartbeats 4000000 in
theorem bkept_C (S : Nat → Prop) (x : BaV) (a : BaP) (w : World) (h : BaL S w x a) (hk : x.kind = 67) : Calls Tryz.prog 71 #[baArg x a] w (KeptB S x w) := by
  have HL := Lib.hid h
  have Hk : Hid (keptB x = ⟨67, 0, x.tag, ⟨#[]⟩, ⟨#[]⟩, 0, 0, [], [], [], []⟩) := Lib.hid (by unfold keptB baZero; simp_all)
  unfold KeptB
  generalize keptB x = kx at *
  obtain ⟨xk, xs, xt, xn, xv, xa, xb, xo, xc, xr, xf⟩ := x
  obtain ⟨apo, aco, apc, acc, apr, acr, apf, acf⟩ := a
  clear h
  dsimp only at *
  subst hk
  unfold baArg baCells
  dsimp only
  have H1 := Lib.hid (KbI.start w #[.int .u8 67, .int .u8 xs, .string xt, .string xn, .string xv, .int .i64 xa, .int .i64 xb, .slice apo xo.length aco, .slice apc xc.length acc, .slice apr xr.length acr, .slice apf xf.length acf] #[.int .u8 67, .int .u8 0, .string ⟨#[]⟩, .string ⟨#[]⟩, .string ⟨#[]⟩, .int .i64 0, .int .i64 0, .slice none 0 0, .slice none 0 0, .slice none 0 0, .slice none 0 0])
  unfold baZ at H1
  go_enter Tryz.func71, Tryz.ntmps71
  go_upto_region 2 with (fail)
  generalize ((w.alloc (.cells #[.int .u8 67, .int .u8 xs, .string xt, .string xn, .string xv, .int .i64 xa, .int .i64 xb, .slice apo xo.length aco, .slice apc xc.length acc, .slice apr xr.length acr, .slice apf xf.length acf] 39)).alloc (.cells #[.int .u8 0, .int .u8 0, .string ⟨#[]⟩, .string ⟨#[]⟩, .string ⟨#[]⟩, .int .i64 0, .int .i64 0, .slice none 0 0, .slice none 0 0, .slice none 0 0, .slice none 0 0] 39)).alloc (.cells #[.int .u8 67, .int .u8 0, .string ⟨#[]⟩, .string ⟨#[]⟩, .string ⟨#[]⟩, .int .i64 0, .int .i64 0, .slice none 0 0, .slice none 0 0, .slice none 0 0, .slice none 0 0] 39) = w1 at *
  have c1 := H1.out.b1.cell
  have c3 := H1.out.b3.cell
  have f3 := H1.out.b3.frozen
  go_upto_region 20 with fail
  have h2 := (H1.out.set 2 (.string xt))
  try simp only [List.setIfInBounds_toArray, List.set_cons_succ, List.set_cons_zero] at h2
  have H2 := Lib.hid h2
  clear h2 c1 c3 f3
  generalize (w1.setCell ⟨w.heap.size + 1 + 1, 2, none⟩ (.string xt)) = w2 at *
  have c3 := H2.out.b3.cell
  have c2 : ∀ i, w2.cell? ⟨w.heap.size + 1, i, none⟩ = (#[.int .u8 0, .int .u8 0, .string ⟨#[]⟩, .string ⟨#[]⟩, .string ⟨#[]⟩, .int .i64 0, .int .i64 0, .slice none 0 0, .slice none 0 0, .slice none 0 0, .slice none 0 0] : Array Value)[i]? := H2.out.b2.cell
  have f2 := H2.out.b2.frozen
  go_wp2_with fail
  have hT := setEl_touch w2 (w.heap.size + 1) (.int .u8 67) (.int .u8 0) (.string xt) (.string ⟨#[]⟩) (.string ⟨#[]⟩) (.int .i64 0) (.int .i64 0) (.slice none 0 0) (.slice none 0 0) (.slice none 0 0) (.slice none 0 0)
  have hbf := setEl_blk (.int .u8 67) (.int .u8 0) (.string xt) (.string ⟨#[]⟩) (.string ⟨#[]⟩) (.int .i64 0) (.int .i64 0) (.slice none 0 0) (.slice none 0 0) (.slice none 0 0) (.slice none 0 0) H2.out.b2
  have HB := Lib.hid (H2.out.bel.trans (hT.below H2.out.bel.size (fun k hk => by omega)))
  unfold setEl at hbf HB
  have hcf := hbf.cell
  clear hT hbf c3 c2 f2
  refine bodyPost_ret (v := .agg #[.int .u8 67, .int .u8 0, .string xt, .string ⟨#[]⟩, .string ⟨#[]⟩, .int .i64 0, .int .i64 0, .slice none 0 0, .slice none 0 0, .slice none 0 0, .slice none 0 0]) (by simp [results, Tryz.results71, go_sem, hcf]) rfl ?_
  rw [Hk.out]
  exact ⟨⟨none, 0, none, 0, none, 0, none, 0⟩, rfl, ⟨SliceS.empty none 0 (by simp [maxLen]), SliceS.empty none 0 (by simp [maxLen]), SliceS.empty none 0 (by simp [maxLen]), SliceS.empty none 0 (by simp [maxLen])⟩, HB.out⟩

set_option maxRecDepth 100000 in
set_option maxHeartbeats 4000000 in
theorem bkept_D (S : Nat → Prop) (x : BaV) (a : BaP) (w : World) (h : BaL S w x a) (hk : x.kind = 68) : Calls Tryz.prog 71 #[baArg x a] w (KeptB S x w) := by
  have HL := Lib.hid h
  have Hk : Hid (keptB x = ⟨68, 0, ⟨#[]⟩, ⟨#[]⟩, ⟨#[]⟩, 0, 0, [], [], x.row, []⟩) := Lib.hid (by unfold keptB baZero; simp_all)
  unfold KeptB
  generalize keptB x = kx at *
  obtain ⟨xk, xs, xt, xn, xv, xa, xb, xo, xc, xr, xf⟩ := x
  obtain ⟨apo, aco, apc, acc, apr, acr, apf, acf⟩ := a
  clear h
  dsimp only at *
  subst hk
  unfold baArg baCells
  dsimp only
  have H1 := Lib.hid (KbI.start w #[.int .u8 68, .int .u8 xs, .string xt, .string xn, .string xv, .int .i64 xa, .int .i64 xb, .slice apo xo.length aco, .slice apc xc.length acc, .slice apr xr.length acr, .slice apf xf.length acf] #[.int .u8 68, .int .u8 0, .string ⟨#[]⟩, .string ⟨#[]⟩, .string ⟨#[]⟩, .int .i64 0, .int .i64 0, .slice none 0 0, .slice none 0 0, .slice none 0 0, .slice none 0 0])
  unfold baZ at H1
  go_enter Tryz.func71, Tryz.ntmps71
  go_upto_region 2 with (fail)
  generalize ((w.alloc (.cells #[.int .u8 68, .int .u8 xs, .string xt, .string xn, .string xv, .int .i64 xa, .int .i64 xb, .slice apo xo.length aco, .slice apc xc.length acc, .slice apr xr.length acr, .slice apf xf.length acf] 39)).alloc (.cells #[.int .u8 0, .int .u8 0, .string ⟨#[]⟩, .string ⟨#[]⟩, .string ⟨#[]⟩, .int .i64 0, .int .i64 0, .slice none 0 0, .slice none 0 0, .slice none 0 0, .slice none 0 0] 39)).alloc (.cells #[.int .u8 68, .int .u8 0, .string ⟨#[]⟩, .string ⟨#[]⟩, .string ⟨#[]⟩, .int .i64 0, .int .i64 0, .slice none 0 0, .slice none 0 0, .slice none 0 0, .slice none 0 0] 39) = w1 at *
  have c1 := H1.out.b1.cell
  have c3 := H1.out.b3.cell
  have f3 := H1.out.b3.frozen
  go_upto_region 20 with fail
  have h2 := (H1.out.set 9 (.slice apr xr.length acr))
  try simp only [List.setIfInBounds_toArray, List.set_cons_succ, List.set_cons_zero] at h2
  have H2 := Lib.hid h2
  clear h2 c1 c3 f3
  generalize (w1.setCell ⟨w.heap.size + 1 + 1, 9, none⟩ (.slice apr xr.length acr)) = w2 at *
  have c3 := H2.out.b3.cell
  have c2 : ∀ i, w2.cell? ⟨w.heap.size + 1, i, none⟩ = (#[.int .u8 0, .int .u8 0, .string ⟨#[]⟩, .string ⟨#[]⟩, .string ⟨#[]⟩, .int .i64 0, .int .i64 0, .slice none 0 0, .slice none 0 0, .slice none 0 0, .slice none 0 0] : Array Value)[i]? := H2.out.b2.cell
  have f2 := H2.out.b2.frozen
  go_wp2_with fail
  have hT := setEl_touch w2 (w.heap.size + 1) (.int .u8 68) (.int .u8 0) (.string ⟨#[]⟩) (.string ⟨#[]⟩) (.string ⟨#[]⟩) (.int .i64 0) (.int .i64 0) (.slice none 0 0) (.slice none 0 0) (.slice apr xr.length acr) (.slice none 0 0)
  have hbf := setEl_blk (.int .u8 68) (.int .u8 0) (.string ⟨#[]⟩) (.string ⟨#[]⟩) (.string ⟨#[]⟩) (.int .i64 0) (.int .i64 0) (.slice none 0 0) (.slice none 0 0) (.slice apr xr.length acr) (.slice none 0 0) H2.out.b2
  have HB := Lib.hid (H2.out.bel.trans (hT.below H2.out.bel.size (fun k hk => by omega)))
  unfold setEl at hbf HB
  have hcf := hbf.cell
  clear hT hbf c3 c2 f2
  refine bodyPost_ret (v := .agg #[.int .u8 68, .int .u8 0, .string ⟨#[]⟩, .string ⟨#[]⟩, .string ⟨#[]⟩, .int .i64 0, .int .i64 0, .slice none 0 0, .slice none 0 0, .slice apr xr.length acr, .slice none 0 0]) (by simp [results, Tryz.results71, go_sem, hcf]) rfl ?_
  rw [Hk.out]
  exact ⟨⟨none, 0, none, 0, apr, acr, none, 0⟩, rfl, ⟨SliceS.empty none 0 (by simp [maxLen]), SliceS.empty none 0 (by simp [maxLen]), HL.out.lr.below CeS.still HB.out, SliceS.empty none 0 (by simp [maxLen])⟩, HB.out⟩

set_option maxRecDepth 100000 in
set_option maxHeartbeats 4000000 in
theorem bkept_T (S : Nat → Prop) (x : BaV) (a : BaP) (w : World) (h : BaL S w x a) (hk : x.kind = 84) : Calls Tryz.prog 71 #[baArg x a] w (KeptB S x w) := by
  have HL := Lib.hid h
  have Hk : Hid (keptB x = ⟨84, 0, ⟨#[]⟩, ⟨#[]⟩, ⟨#[]⟩, 0, 0, [], x.cols, [], []⟩) := Lib.hid (by unfold keptB baZero; simp_all)
  unfold KeptB
  generalize keptB x = kx at *
  obtain ⟨xk, xs, xt, xn, xv, xa, xb, xo, xc, xr, xf⟩ := x
  obtain ⟨apo, aco, apc, acc, apr, acr, apf, acf⟩ := a
  clear h
  dsimp only at *
  subst hk
  unfold baArg baCells
  dsimp only
  have H1 := Lib.hid (KbI.start w #[.int .u8 84, .int .u8 xs, .string xt, .string xn, .string xv, .int .i64 xa, .int .i64 xb, .slice apo xo.length aco, .slice apc xc.length acc, .slice apr xr.length acr, .slice apf xf.length acf] #[.int .u8 84, .int .u8 0, .string ⟨#[]⟩, .string ⟨#[]⟩, .string ⟨#[]⟩, .int .i64 0, .int .i64 0, .slice none 0 0, .slice none 0 0, .slice none 0 0, .slice none 0 0])
  unfold baZ at H1
  go_enter Tryz.func71, Tryz.ntmps71
  go_upto_region 2 with (fail)
  generalize ((w.alloc (.cells #[.int .u8 84, .int .u8 xs, .string xt, .string xn, .string xv, .int .i64 xa, .int .i64 xb, .slice apo xo.length aco, .slice apc xc.length acc, .slice apr xr.length acr, .slice apf xf.length acf] 39)).alloc (.cells #[.int .u8 0, .int .u8 0, .string ⟨#[]⟩, .string ⟨#[]⟩, .string ⟨#[]⟩, .int .i64 0, .int .i64 0, .slice none 0 0, .slice none 0 0, .slice none 0 0, .slice none 0 0] 39)).alloc (.cells #[.int .u8 84, .int .u8 0, .string ⟨#[]⟩, .string ⟨#[]⟩, .string ⟨#[]⟩, .int .i64 0, .int .i64 0, .slice none 0 0, .slice none 0 0, .slice none 0 0, .slice none 0 0] 39) = w1 at *
  have c1 := H1.out.b1.cell
  have c3 := H1.out.b3.cell
  have f3 := H1.out.b3.frozen
  go_upto_region 20 with fail
  have h2 := (H1.out.set 8 (.slice apc xc.length acc))
  try simp only [List.setIfInBounds_toArray, List.set_cons_succ, List.set_cons_zero] at h2
  have H2 := Lib.hid h2
  clear h2 c1 c3 f3
  generalize (w1.setCell ⟨w.heap.size + 1 + 1, 8, none⟩ (.slice apc xc.length acc)) = w2 at *
  have c3 := H2.out.b3.cell
  have c2 : ∀ i, w2.cell? ⟨w.heap.size + 1, i, none⟩ = (#[.int .u8 0, .int .u8 0, .string ⟨#[]⟩, .string ⟨#[]⟩, .string ⟨#[]⟩, .int .i64 0, .int .i64 0, .slice none 0 0, .slice none 0 0, .slice none 0 0, .slice none 0 0] : Array Value)[i]? := H2.out.b2.cell
  have f2 := H2.out.b2.frozen
  go_wp2_with fail
  have hT := setEl_touch w2 (w.heap.size + 1) (.int .u8 84) (.int .u8 0) (.string ⟨#[]⟩) (.string ⟨#[]⟩) (.string ⟨#[]⟩) (.int .i64 0) (.int .i64 0) (.slice none 0 0) (.slice apc xc.length acc) (.slice none 0 0) (.slice none 0 0)
  have hbf := setEl_blk (.int .u8 84) (.int .u8 0) (.string ⟨#[]⟩) (.string ⟨#[]⟩) (.string ⟨#[]⟩) (.int .i64 0) (.int .i64 0) (.slice none 0 0) (.slice apc xc.length acc) (.slice none 0 0) (.slice none 0 0) H2.out.b2
  have HB := Lib.hid (H2.out.bel.trans (hT.below H2.out.bel.size (fun k hk => by omega)))
  unfold setEl at hbf HB
  have hcf := hbf.cell
  clear hT hbf c3 c2 f2
  refine bodyPost_ret (v := .agg #[.int .u8 84, .int .u8 0, .string ⟨#[]⟩, .string ⟨#[]⟩, .string ⟨#[]⟩, .int .i64 0, .int .i64 0, .slice none 0 0, .slice apc xc.length acc, .slice none 0 0, .slice none 0 0]) (by simp [results, Tryz.results71, go_sem, hcf]) rfl ?_
  rw [Hk.out]
  exact ⟨⟨none, 0, apc, acc, none, 0, none, 0⟩, rfl, ⟨SliceS.empty none 0 (by simp [maxLen]), HL.out.lc.below CoS.still HB.out, SliceS.empty none 0 (by simp [maxLen]), SliceS.empty none 0 (by simp [maxLen])⟩, HB.out⟩

set_option maxRecDepth 100000 in
set_option maxHeartbeats 4000000 in
theorem bkept_t (S : Nat → Prop) (x : BaV) (a : BaP) (w : World) (h : BaL S w x a) (hk : x.kind = 116) : Calls Tryz.prog 71 #[baArg x a] w (KeptB S x w) := by
  have HL := Lib.hid h
  have Hk : Hid (keptB x = ⟨116, 0, ⟨#[]⟩, ⟨#[]⟩, ⟨#[]⟩, 0, 0, x.oids, [], [], []⟩) := Lib.hid (by unfold keptB baZero; simp_all)
  unfold KeptB
  generalize keptB x = kx at *
  obtain ⟨xk, xs, xt, xn, xv, xa, xb, xo, xc, xr, xf⟩ := x
  obtain ⟨apo, aco, apc, acc, apr, acr, apf, acf⟩ := a
  clear h
  dsimp only at *
  subst hk
  unfold baArg baCells
  dsimp only
  have H1 := Lib.hid (KbI.start w #[.int .u8 116, .int .u8 xs, .string xt, .string xn, .string xv, .int .i64 xa, .int .i64 xb, .slice apo xo.length aco, .slice apc xc.length acc, .slice apr xr.length acr, .slice apf xf.length acf] #[.int .u8 116, .int .u8 0, .string ⟨#[]⟩, .string ⟨#[]⟩, .string ⟨#[]⟩, .int .i64 0, .int .i64 0, .slice none 0 0, .slice none 0 0, .slice none 0 0, .slice none 0 0])
  unfold baZ at H1
  go_enter Tryz.func71, Tryz.ntmps71
  go_upto_region 2 with (fail)
  generalize ((w.alloc (.cells #[.int .u8 116, .int .u8 xs, .string xt, .string xn, .string xv, .int .i64 xa, .int .i64 xb, .slice apo xo.length aco, .slice apc xc.length acc, .slice apr xr.length acr, .slice apf xf.length acf] 39)).alloc (.cells #[.int .u8 0, .int .u8 0, .string ⟨#[]⟩, .string ⟨#[]⟩, .string ⟨#[]⟩, .int .i64 0, .int .i64 0, .slice none 0 0, .slice none 0 0, .slice none 0 0, .slice none 0 0] 39)).alloc (.cells #[.int .u8 116, .int .u8 0, .string ⟨#[]⟩, .string ⟨#[]⟩, .string ⟨#[]⟩, .int .i64 0, .int .i64 0, .slice none 0 0, .slice none 0 0, .slice none 0 0, .slice none 0 0] 39) = w1 at *
  have c1 := H1.out.b1.cell
  have c3 := H1.out.b3.cell
  have f3 := H1.out.b3.frozen
  go_upto_region 20 with fail
  have h2 := (H1.out.set 7 (.slice apo xo.length aco))
  try simp only [List.setIfInBounds_toArray, List.set_cons_succ, List.set_cons_zero] at h2
  have H2 := Lib.hid h2
  clear h2 c1 c3 f3
  generalize (w1.setCell ⟨w.heap.size + 1 + 1, 7, none⟩ (.slice apo xo.length aco)) = w2 at *
  have c3 := H2.out.b3.cell
  have c2 : ∀ i, w2.cell? ⟨w.heap.size + 1, i, none⟩ = (#[.int .u8 0, .int .u8 0, .string ⟨#[]⟩, .string ⟨#[]⟩, .string ⟨#[]⟩, .int .i64 0, .int .i64 0, .slice none 0 0, .slice none 0 0, .slice none 0 0, .slice none 0 0] : Array Value)[i]? := H2.out.b2.cell
  have f2 := H2.out.b2.frozen
  go_wp2_with fail
  have hT := setEl_touch w2 (w.heap.size + 1) (.int .u8 116) (.int .u8 0) (.string ⟨#[]⟩) (.string ⟨#[]⟩) (.string ⟨#[]⟩) (.int .i64 0) (.int .i64 0) (.slice apo xo.length aco) (.slice none 0 0) (.slice none 0 0) (.slice none 0 0)
  have hbf := setEl_blk (.int .u8 116) (.int .u8 0) (.string ⟨#[]⟩) (.string ⟨#[]⟩) (.string ⟨#[]⟩) (.int .i64 0) (.int .i64 0) (.slice apo xo.length aco) (.slice none 0 0) (.slice none 0 0) (.slice none 0 0) H2.out.b2
  have HB := Lib.hid (H2.out.bel.trans (hT.below H2.out.bel.size (fun k hk => by omega)))
  unfold setEl at hbf HB
  have hcf := hbf.cell
  clear hT hbf c3 c2 f2
  refine bodyPost_ret (v := .agg #[.int .u8 116, .int .u8 0, .string ⟨#[]⟩, .string ⟨#[]⟩, .string ⟨#[]⟩, .int .i64 0, .int .i64 0, .slice apo xo.length aco, .slice none 0 0, .slice none 0 0, .slice none 0 0]) (by simp [results, Tryz.results71, go_sem, hcf]) rfl ?_
  rw [Hk.out]
  exact ⟨⟨apo, aco, none, 0, none, 0, none, 0⟩, rfl, ⟨HL.out.lo.below IntU.still HB.out, SliceS.empty none 0 (by simp [maxLen]), SliceS.empty none 0 (by simp [maxLen]), SliceS.empty none 0 (by simp [maxLen])⟩, HB.out⟩

set_option maxRecDepth 100000 in
set_option maxHeartbeats 4000000 in
theorem bkept_E (S : Nat → Prop) (x : BaV) (a : BaP) (w : World) (h : BaL S w x a) (hk : x.kind = 69) : Calls Tryz.prog 71 #[baArg x a] w (KeptB S x w) := by
  have HL := Lib.hid h
  have Hk : Hid (keptB x = ⟨69, 0, ⟨#[]⟩, ⟨#[]⟩, ⟨#[]⟩, 0, 0, [], [], [], x.fields⟩) := Lib.hid (by unfold keptB baZero; simp_all)
  unfold KeptB
  generalize keptB x = kx at *
  obtain ⟨xk, xs, xt, xn, xv, xa, xb, xo, xc, xr, xf⟩ := x
  obtain ⟨apo, aco, apc, acc, apr, acr, apf, acf⟩ := a
  clear h
  dsimp only at *
  subst hk
  unfold baArg baCells
  dsimp only
  have H1 := Lib.hid (KbI.start w #[.int .u8 69, .int .u8 xs, .string xt, .string xn, .string xv, .int .i64 xa, .int .i64 xb, .slice apo xo.length aco, .slice apc xc.length acc, .slice apr xr.length acr, .slice apf xf.length acf] #[.int .u8 69, .int .u8 0, .string ⟨#[]⟩, .string ⟨#[]⟩, .string ⟨#[]⟩, .int .i64 0, .int .i64 0, .slice none 0 0, .slice none 0 0, .slice none 0 0, .slice none 0 0])
  unfold baZ at H1
  go_enter Tryz.func71, Tryz.ntmps71
  go_upto_region 2 with (fail)
  generalize ((w.alloc (.cells #[.int .u8 69, .int .u8 xs, .string xt, .string xn, .string xv, .int .i64 xa, .int .i64 xb, .slice apo xo.length aco, .slice apc xc.length acc, .slice apr xr.length acr, .slice apf xf.length acf] 39)).alloc (.cells #[.int .u8 0, .int .u8 0, .string ⟨#[]⟩, .string ⟨#[]⟩, .string ⟨#[]⟩, .int .i64 0, .int .i64 0, .slice none 0 0, .slice none 0 0, .slice none 0 0, .slice none 0 0] 39)).alloc (.cells #[.int .u8 69, .int .u8 0, .string ⟨#[]⟩, .string ⟨#[]⟩, .string ⟨#[]⟩, .int .i64 0, .int .i64 0, .slice none 0 0, .slice none 0 0, .slice none 0 0, .slice none 0 0] 39) = w1 at *
  have c1 := H1.out.b1.cell
  have c3 := H1.out.b3.cell
  have f3 := H1.out.b3.frozen
  go_upto_region 20 with fail
  have h2 := (H1.out.set 10 (.slice apf xf.length acf))
  try simp only [List.setIfInBounds_toArray, List.set_cons_succ, List.set_cons_zero] at h2
  have H2 := Lib.hid h2
  clear h2 c1 c3 f3
  generalize (w1.setCell ⟨w.heap.size + 1 + 1, 10, none⟩ (.slice apf xf.length acf)) = w2 at *
  have c3 := H2.out.b3.cell
  have c2 : ∀ i, w2.cell? ⟨w.heap.size + 1, i, none⟩ = (#[.int .u8 0, .int .u8 0, .string ⟨#[]⟩, .string ⟨#[]⟩, .string ⟨#[]⟩, .int .i64 0, .int .i64 0, .slice none 0 0, .slice none 0 0, .slice none 0 0, .slice none 0 0] : Array Value)[i]? := H2.out.b2.cell
  have f2 := H2.out.b2.frozen
  go_wp2_with fail
  have hT := setEl_touch w2 (w.heap.size + 1) (.int .u8 69) (.int .u8 0) (.string ⟨#[]⟩) (.string ⟨#[]⟩) (.string ⟨#[]⟩) (.int .i64 0) (.int .i64 0) (.slice none 0 0) (.slice none 0 0) (.slice none 0 0) (.slice apf xf.length acf)
  have hbf := setEl_blk (.int .u8 69) (.int .u8 0) (.string ⟨#[]⟩) (.string ⟨#[]⟩) (.string ⟨#[]⟩) (.int .i64 0) (.int .i64 0) (.slice none 0 0) (.slice none 0 0) (.slice none 0 0) (.slice apf xf.length acf) H2.out.b2
  have HB := Lib.hid (H2.out.bel.trans (hT.below H2.out.bel.size (fun k hk => by omega)))
  unfold setEl at hbf HB
  have hcf := hbf.cell
  clear hT hbf c3 c2 f2
  refine bodyPost_ret (v := .agg #[.int .u8 69, .int .u8 0, .string ⟨#[]⟩, .string ⟨#[]⟩, .string ⟨#[]⟩, .int .i64 0, .int .i64 0, .slice none 0 0, .slice none 0 0, .slice none 0 0, .slice apf xf.length acf]) (by simp [results, Tryz.results71, go_sem, hcf]) rfl ?_
  rw [Hk.out]
  exact ⟨⟨none, 0, none, 0, none, 0, apf, acf⟩, rfl, ⟨SliceS.empty none 0 (by simp [maxLen]), SliceS.empty none 0 (by simp [maxLen]), SliceS.empty none 0 (by simp [maxLen]), HL.out.lf.below FdS.still HB.out⟩, HB.out⟩

set_option maxRecDepth 100000 in
set_option maxHeartbeats 4000000 in
theorem bkept_N (S : Nat → Prop) (x : BaV) (a : BaP) (w : World) (h : BaL S w x a) (hk : x.kind = 78) : Calls Tryz.prog 71 #[baArg x a] w (KeptB S x w) := by
  have HL := Lib.hid h
  have Hk : Hid (keptB x = ⟨78, 0, ⟨#[]⟩, ⟨#[]⟩, ⟨#[]⟩, 0, 0, [], [], [], x.fields⟩) := Lib.hid (by unfold keptB baZero; simp_all)
  unfold KeptB
  generalize keptB x = kx at *
  obtain ⟨xk, xs, xt, xn, xv, xa, xb, xo, xc, xr, xf⟩ := x
  obtain ⟨apo, aco, apc, acc, apr, acr, apf, acf⟩ := a
  clear h
  dsimp only at *
  subst hk
  unfold baArg baCells
  dsimp only
  have H1 := Lib.hid (KbI.start w #[.int .u8 78, .int .u8 xs, .string xt, .string xn, .string xv, .int .i64 xa, .int .i64 xb, .slice apo xo.length aco, .slice apc xc.length acc, .slice apr xr.length acr, .slice apf xf.length acf] #[.int .u8 78, .int .u8 0, .string ⟨#[]⟩, .string ⟨#[]⟩, .string ⟨#[]⟩, .int .i64 0, .int .i64 0, .slice none 0 0, .slice none 0 0, .slice none 0 0, .slice none 0 0])
  unfold baZ at H1
  go_enter Tryz.func71, Tryz.ntmps71
  go_upto_region 2 with (fail)
  generalize ((w.alloc (.cells #[.int .u8 78, .int .u8 xs, .string xt, .string xn, .string xv, .int .i64 xa, .int .i64 xb, .slice apo xo.length aco, .slice apc xc.length acc, .slice apr xr.length acr, .slice apf xf.length acf] 39)).alloc (.cells #[.int .u8 0, .int .u8 0, .string ⟨#[]⟩, .string ⟨#[]⟩, .string ⟨#[]⟩, .int .i64 0, .int .i64 0, .slice none 0 0, .slice none 0 0, .slice none 0 0, .slice none 0 0] 39)).alloc (.cells #[.int .u8 78, .int .u8 0, .string ⟨#[]⟩, .string ⟨#[]⟩, .string ⟨#[]⟩, .int .i64 0, .int .i64 0, .slice none 0 0, .slice none 0 0, .slice none 0 0, .slice none 0 0] 39) = w1 at *
  have c1 := H1.out.b1.cell
  have c3 := H1.out.b3.cell
  have f3 := H1.out.b3.frozen
  go_upto_region 20 with fail
  have h2 := (H1.out.set 10 (.slice apf xf.length acf))
  try simp only [List.setIfInBounds_toArray, List.set_cons_succ, List.set_cons_zero] at h2
  have H2 := Lib.hid h2
  clear h2 c1 c3 f3
  generalize (w1.setCell ⟨w.heap.size + 1 + 1, 10, none⟩ (.slice apf xf.length acf)) = w2 at *
  have c3 := H2.out.b3.cell
  have c2 : ∀ i, w2.cell? ⟨w.heap.size + 1, i, none⟩ = (#[.int .u8 0, .int .u8 0, .string ⟨#[]⟩, .string ⟨#[]⟩, .string ⟨#[]⟩, .int .i64 0, .int .i64 0, .slice none 0 0, .slice none 0 0, .slice none 0 0, .slice none 0 0] : Array Value)[i]? := H2.out.b2.cell
  have f2 := H2.out.b2.frozen
  go_wp2_with fail
  have hT := setEl_touch w2 (w.heap.size + 1) (.int .u8 78) (.int .u8 0) (.string ⟨#[]⟩) (.string ⟨#[]⟩) (.string ⟨#[]⟩) (.int .i64 0) (.int .i64 0) (.slice none 0 0) (.slice none 0 0) (.slice none 0 0) (.slice apf xf.length acf)
  have hbf := setEl_blk (.int .u8 78) (.int .u8 0) (.string ⟨#[]⟩) (.string ⟨#[]⟩) (.string ⟨#[]⟩) (.int .i64 0) (.int .i64 0) (.slice none 0 0) (.slice none 0 0) (.slice none 0 0) (.slice apf xf.length acf) H2.out.b2
  have HB := Lib.hid (H2.out.bel.trans (hT.below H2.out.bel.size (fun k hk => by omega)))
  unfold setEl at hbf HB
  have hcf := hbf.cell
  clear hT hbf c3 c2 f2
  refine bodyPost_ret (v := .agg #[.int .u8 78, .int .u8 0, .string ⟨#[]⟩, .string ⟨#[]⟩, .string ⟨#[]⟩, .int .i64 0, .int .i64 0, .slice none 0 0, .slice none 0 0, .slice none 0 0, .slice apf xf.length acf]) (by simp [results, Tryz.results71, go_sem, hcf]) rfl ?_
  rw [Hk.out]
  exact ⟨⟨none, 0, none, 0, none, 0, apf, acf⟩, rfl, ⟨SliceS.empty none 0 (by simp [maxLen]), SliceS.empty none 0 (by simp [maxLen]), SliceS.empty none 0 (by simp [maxLen]), HL.out.lf.below FdS.still HB.out⟩, HB.out⟩

set_option maxRecDepth 100000 in
set_option maxHeartbeats 4000000 in
theorem bkept_O (S : Nat → Prop) (x : BaV) (a : BaP) (w : World) (h : BaL S w x a) (hk : ∀ n ∈ [83, 75, 90, 67, 68, 84, 116, 69, 78], (x.kind == n) = false) : Calls Tryz.prog 71 #[baArg x a] w (KeptB S x w) := by
  have HL := Lib.hid h
  have g0 := hk 83 (by simp)
  have g1 := hk 75 (by simp)
  have g2 := hk 90 (by simp)
  have g3 := hk 67 (by simp)
  have g4 := hk 68 (by simp)
  have g5 := hk 84 (by simp)
  have g6 := hk 116 (by simp)
  have g7 := hk 69 (by simp)
  have g8 := hk 78 (by simp)
  have Hk : Hid (keptB x = ⟨x.kind, 0, ⟨#[]⟩, ⟨#[]⟩, ⟨#[]⟩, 0, 0, [], [], [], []⟩) := Lib.hid (by unfold keptB baZero; simp_all)
  unfold KeptB
  generalize keptB x = kx at *
  obtain ⟨xk, xs, xt, xn, xv, xa, xb, xo, xc, xr, xf⟩ := x
  obtain ⟨apo, aco, apc, acc, apr, acr, apf, acf⟩ := a
  clear h
  dsimp only at *
  clear hk
  unfold baArg baCells
  dsimp only
  have H1 := Lib.hid (KbI.start w #[.int .u8 xk, .int .u8 xs, .string xt, .string xn, .string xv, .int .i64 xa, .int .i64 xb, .slice apo xo.length aco, .slice apc xc.length acc, .slice apr xr.length acr, .slice apf xf.length acf] #[.int .u8 xk, .int .u8 0, .string ⟨#[]⟩, .string ⟨#[]⟩, .string ⟨#[]⟩, .int .i64 0, .int .i64 0, .slice none 0 0, .slice none 0 0, .slice none 0 0, .slice none 0 0])
  unfold baZ at H1
  go_enter Tryz.func71, Tryz.ntmps71
  go_upto_region 2 with (fail)
  generalize ((w.alloc (.cells #[.int .u8 xk, .int .u8 xs, .string xt, .string xn, .string xv, .int .i64 xa, .int .i64 xb, .slice apo xo.length aco, .slice apc xc.length acc, .slice apr xr.length acr, .slice apf xf.length acf] 39)).alloc (.cells #[.int .u8 0, .int .u8 0, .string ⟨#[]⟩, .string ⟨#[]⟩, .string ⟨#[]⟩, .int .i64 0, .int .i64 0, .slice none 0 0, .slice none 0 0, .slice none 0 0, .slice none 0 0] 39)).alloc (.cells #[.int .u8 xk, .int .u8 0, .string ⟨#[]⟩, .string ⟨#[]⟩, .string ⟨#[]⟩, .int .i64 0, .int .i64 0, .slice none 0 0, .slice none 0 0, .slice none 0 0, .slice none 0 0] 39) = w1 at *
  have c1 := H1.out.b1.cell
  have c3 := H1.out.b3.cell
  have f3 := H1.out.b3.frozen
  go_upto_region 20 with fail
  have h2 := H1.out
  try simp only [List.setIfInBounds_toArray, List.set_cons_succ, List.set_cons_zero] at h2
  have H2 := Lib.hid h2
  clear h2 c1 c3 f3
  generalize w1 = w2 at *
  have c3 := H2.out.b3.cell
  have c2 : ∀ i, w2.cell? ⟨w.heap.size + 1, i, none⟩ = (#[.int .u8 0, .int .u8 0, .string ⟨#[]⟩, .string ⟨#[]⟩, .string ⟨#[]⟩, .int .i64 0, .int .i64 0, .slice none 0 0, .slice none 0 0, .slice none 0 0, .slice none 0 0] : Array Value)[i]? := H2.out.b2.cell
  have f2 := H2.out.b2.frozen
  go_wp2_with fail
  have hT := setEl_touch w2 (w.heap.size + 1) (.int .u8 xk) (.int .u8 0) (.string ⟨#[]⟩) (.string ⟨#[]⟩) (.string ⟨#[]⟩) (.int .i64 0) (.int .i64 0) (.slice none 0 0) (.slice none 0 0) (.slice none 0 0) (.slice none 0 0)
  have hbf := setEl_blk (.int .u8 xk) (.int .u8 0) (.string ⟨#[]⟩) (.string ⟨#[]⟩) (.string ⟨#[]⟩) (.int .i64 0) (.int .i64 0) (.slice none 0 0) (.slice none 0 0) (.slice none 0 0) (.slice none 0 0) H2.out.b2
  have HB := Lib.hid (H2.out.bel.trans (hT.below H2.out.bel.size (fun k hk => by omega)))
  unfold setEl at hbf HB
  have hcf := hbf.cell
  clear hT hbf c3 c2 f2
  refine bodyPost_ret (v := .agg #[.int .u8 xk, .int .u8 0, .string ⟨#[]⟩, .string ⟨#[]⟩, .string ⟨#[]⟩, .int .i64 0, .int .i64 0, .slice none 0 0, .slice none 0 0, .slice none 0 0, .slice none 0 0]) (by simp [results, Tryz.results71, go_sem, hcf]) rfl ?_
  rw [Hk.out]
  exact ⟨⟨none, 0, none, 0, none, 0, none, 0⟩, rfl, ⟨SliceS.empty none 0 (by simp [maxLen]), SliceS.empty none 0 (by simp [maxLen]), SliceS.empty none 0 (by simp [maxLen]), SliceS.empty none 0 (by simp [maxLen])⟩, HB.out⟩

theorem bkept_any (S : Nat → Prop) (x : BaV) (a : BaP) (w : World) (h : BaL S w x a) : Calls Tryz.prog 71 #[baArg x a] w (KeptB S x w) := by
  rcases kindB_cases x.kind with hk | hk | hk | hk | hk | hk | hk | hk | hk | hk
  · exact bkept_S S x a w h hk
  · exact bkept_K S x a w h hk
  · exact bkept_Z S x a w h hk
  · exact bkept_C S x a w h hk
  · exact bkept_D S x a w h hk
  · exact bkept_T S x a w h hk
  · exact bkept_t S x a w h hk
  · exact bkept_E S x a w h hk
  · exact bkept_N S x a w h hk
  · exact bkept_O S x a w h hk

end Go.Proofs.YthhebfknikfleaaGreat
