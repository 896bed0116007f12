/-
  Ground: BaF, BaI.
-/
import Derived.Test.YthhebfknikfleaaGreatPbDP8
import Derived.Test.YthhebfknikfleaaGreatPbDP9
/-
  Messages of servers (layer 7): a message with just the fields that its body has: the document's.
-/
namespace Go.Proofs.YthhebfknikfleaaGreat
open Go.RowKit
set_option linter.unusedVariables false
set_option linter.unusedSimpArgs false

set_option maxRecDepth 100000 in
set_option maxHeartbeats 4000000 in
theorem bkept_S (S : Nat → Prop) (x : BaV) (a : BaP) (w : World) (h : BaL S w x a) (hk : x.kind = 83) : Calls Tryz.prog 71 #[baArg x a] w (KeptB S x w) := by
  have HL := Lib.hid h
  have Hk : Hid (keptB x = ⟨83, 0, ⟨#[]⟩, x.name, x.value, 0, 0, [], [], [], []⟩) := Lib.hid (by unfold keptB baZero; simp_all)
  unfold KeptB
  generalize keptB x = kx at *
  obtain ⟨xk, xs, xt, xn, xv, xa, xb, xo, xc, xr, xf⟩ := x
  obtain ⟨apo, aco, apc, acc, apr, acr, apf, acf⟩ := a
  clear h
  dsimp only at *
  subst hk
  unfold baArg baCells
  dsimp only
  have H1 := Lib.hid (KbI.start w #[.int .u8 83, .int .u8 xs, .string xt, .string xn, .string xv, .int .i64 xa, .int .i64 xb, .slice apo xo.length aco, .slice apc xc.length acc, .slice apr xr.length acr, .slice apf xf.length acf] #[.int .u8 83, .int .u8 0, .string ⟨#[]⟩, .string ⟨#[]⟩, .string ⟨#[]⟩, .int .i64 0, .int .i64 0, .slice none 0 0, .slice none 0 0, .slice none 0 0, .slice none 0 0])
  unfold baZ at H1
  go_enter Tryz.func71, Tryz.ntmps71
  go_upto_region 2 with (fail)
  generalize ((w.alloc (.cells #[.int .u8 83, .int .u8 xs, .string xt, .string xn, .string xv, .int .i64 xa, .int .i64 xb, .slice apo xo.length aco, .slice apc xc.length acc, .slice apr xr.length acr, .slice apf xf.length acf] 39)).alloc (.cells #[.int .u8 0, .int .u8 0, .string ⟨#[]⟩, .string ⟨#[]⟩, .string ⟨#[]⟩, .int .i64 0, .int .i64 0, .slice none 0 0, .slice none 0 0, .slice none 0 0, .slice none 0 0] 39)).alloc (.cells #[.int .u8 83, .int .u8 0, .string ⟨#[]⟩, .string ⟨#[]⟩, .string ⟨#[]⟩, .int .i64 0, .int .i64 0, .slice none 0 0, .slice none 0 0, .slice none 0 0, .slice none 0 0] 39) = w1 at *
  have c1 := H1.out.b1.cell
  have c3 := H1.out.b3.cell
  have f3 := H1.out.b3.frozen
  go_wp2_with fail
  go_region
  have h2 := ((H1.out.set 3 (.string xn)).set 4 (.string xv)).drew
  try simp only [List.setIfInBounds_toArray, List.set_cons_succ, List.set_cons_zero] at h2
  have H2 := Lib.hid h2
  clear h2 c1 c3 f3
  generalize ((w1.setCell ⟨w.heap.size + 1 + 1, 3, none⟩ (.string xn)).setCell ⟨w.heap.size + 1 + 1, 4, none⟩ (.string xv)).drew = w2 at *
  have c3 := H2.out.b3.cell
  have c2 : ∀ i, w2.cell? ⟨w.heap.size + 1, i, none⟩ = (#[.int .u8 0, .int .u8 0, .string ⟨#[]⟩, .string ⟨#[]⟩, .string ⟨#[]⟩, .int .i64 0, .int .i64 0, .slice none 0 0, .slice none 0 0, .slice none 0 0, .slice none 0 0] : Array Value)[i]? := H2.out.b2.cell
  have f2 := H2.out.b2.frozen
  go_wp2_with fail
  have hT := setEl_touch w2 (w.heap.size + 1) (.int .u8 83) (.int .u8 0) (.string ⟨#[]⟩) (.string xn) (.string xv) (.int .i64 0) (.int .i64 0) (.slice none 0 0) (.slice none 0 0) (.slice none 0 0) (.slice none 0 0)
  have hbf := setEl_blk (.int .u8 83) (.int .u8 0) (.string ⟨#[]⟩) (.string xn) (.string xv) (.int .i64 0) (.int .i64 0) (.slice none 0 0) (.slice none 0 0) (.slice none 0 0) (.slice none 0 0) H2.out.b2
  have HB := Lib.hid (H2.out.bel.trans (hT.below H2.out.bel.size (fun k hk => by omega)))
  unfold setEl at hbf HB
  have hcf := hbf.cell
  clear hT hbf c3 c2 f2
  refine bodyPost_ret (v := .agg #[.int .u8 83, .int .u8 0, .string ⟨#[]⟩, .string xn, .string xv, .int .i64 0, .int .i64 0, .slice none 0 0, .slice none 0 0, .slice none 0 0, .slice none 0 0]) (by simp [results, Tryz.results71, go_sem, hcf]) rfl ?_
  rw [Hk.out]
  exact ⟨⟨none, 0, none, 0, none, 0, none, 0⟩, rfl, ⟨SliceS.empty none 0 (by simp [maxLen]), SliceS.empty none 0 (by simp [maxLen]), SliceS.empty none 0 (by simp [maxLen]), SliceS.empty none 0 (by simp [maxLen])⟩, HB.out⟩

set_option maxRecDepth 100000 in
set_option maxHeartbeats 4000000 in
theorem bkept_K (S : Nat → Prop) (x : BaV) (a : BaP) (w : World) (h : BaL S w x a) (hk : x.kind = 75) : Calls Tryz.prog 71 #[baArg x a] w (KeptB S x w) := by
  have HL := Lib.hid h
  have Hk : Hid (keptB x = ⟨75, 0, ⟨#[]⟩, ⟨#[]⟩, ⟨#[]⟩, x.n, x.m, [], [], [], []⟩) := Lib.hid (by unfold keptB baZero; simp_all)
  unfold KeptB
  generalize keptB x = kx at *
  obtain ⟨xk, xs, xt, xn, xv, xa, xb, xo, xc, xr, xf⟩ := x
  obtain ⟨apo, aco, apc, acc, apr, acr, apf, acf⟩ := a
  clear h
  dsimp only at *
  subst hk
  unfold baArg baCells
  dsimp only
  have H1 := Lib.hid (KbI.start w #[.int .u8 75, .int .u8 xs, .string xt, .string xn, .string xv, .int .i64 xa, .int .i64 xb, .slice apo xo.length aco, .slice apc xc.length acc, .slice apr xr.length acr, .slice apf xf.length acf] #[.int .u8 75, .int .u8 0, .string ⟨#[]⟩, .string ⟨#[]⟩, .string ⟨#[]⟩, .int .i64 0, .int .i64 0, .slice none 0 0, .slice none 0 0, .slice none 0 0, .slice none 0 0])
  unfold baZ at H1
  go_enter Tryz.func71, Tryz.ntmps71
  go_upto_region 2 with (fail)
  generalize ((w.alloc (.cells #[.int .u8 75, .int .u8 xs, .string xt, .string xn, .string xv, .int .i64 xa, .int .i64 xb, .slice apo xo.length aco, .slice apc xc.length acc, .slice apr xr.length acr, .slice apf xf.length acf] 39)).alloc (.cells #[.int .u8 0, .int .u8 0, .string ⟨#[]⟩, .string ⟨#[]⟩, .string ⟨#[]⟩, .int .i64 0, .int .i64 0, .slice none 0 0, .slice none 0 0, .slice none 0 0, .slice none 0 0] 39)).alloc (.cells #[.int .u8 75, .int .u8 0, .string ⟨#[]⟩, .string ⟨#[]⟩, .string ⟨#[]⟩, .int .i64 0, .int .i64 0, .slice none 0 0, .slice none 0 0, .slice none 0 0, .slice none 0 0] 39) = w1 at *
  have c1 := H1.out.b1.cell
  have c3 := H1.out.b3.cell
  have f3 := H1.out.b3.frozen
  go_wp2_with fail
  go_region
  have h2 := ((H1.out.set 5 (.int .i64 xa)).set 6 (.int .i64 xb)).drew
  try simp only [List.setIfInBounds_toArray, List.set_cons_succ, List.set_cons_zero] at h2
  have H2 := Lib.hid h2
  clear h2 c1 c3 f3
  generalize ((w1.setCell ⟨w.heap.size + 1 + 1, 5, none⟩ (.int .i64 xa)).setCell ⟨w.heap.size + 1 + 1, 6, none⟩ (.int .i64 xb)).drew = w2 at *
  have c3 := H2.out.b3.cell
  have c2 : ∀ i, w2.cell? ⟨w.heap.size + 1, i, none⟩ = (#[.int .u8 0, .int .u8 0, .string ⟨#[]⟩, .string ⟨#[]⟩, .string ⟨#[]⟩, .int .i64 0, .int .i64 0, .slice none 0 0, .slice none 0 0, .slice none 0 0, .slice none 0 0] : Array Value)[i]? := H2.out.b2.cell
  have f2 := H2.out.b2.frozen
  go_wp2_with fail
  have hT := setEl_touch w2 (w.heap.size + 1) (.int .u8 75) (.int .u8 0) (.string ⟨#[]⟩) (.string ⟨#[]⟩) (.string ⟨#[]⟩) (.int .i64 xa) (.int .i64 xb) (.slice none 0 0) (.slice none 0 0) (.slice none 0 0) (.slice none 0 0)
  have hbf := setEl_blk (.int .u8 75) (.int .u8 0) (.string ⟨#[]⟩) (.string ⟨#[]⟩) (.string ⟨#[]⟩) (.int .i64 xa) (.int .i64 xb) (.slice none 0 0) (.slice none 0 0) (.slice none 0 0) (.slice none 0 0) H2.out.b2
  have HB := Lib.hid (H2.out.bel.trans (hT.below H2.out.bel.size (fun k hk => by omega)))
  unfold setEl at hbf HB
  have hcf := hbf.cell
  clear hT hbf c3 c2 f2
  refine bodyPost_ret (v := .agg #[.int .u8 75, .int .u8 0, .string ⟨#[]⟩, .string ⟨#[]⟩, .string ⟨#[]⟩, .int .i64 xa, .int .i64 xb, .slice none 0 0, .slice none 0 0, .slice none 0 0, .slice none 0 0]) (by simp [results, Tryz.results71, go_sem, hcf]) rfl ?_
  rw [Hk.out]
  exact ⟨⟨none, 0, none, 0, none, 0, none, 0⟩, rfl, ⟨SliceS.empty none 0 (by simp [maxLen]), SliceS.empty none 0 (by simp [maxLen]), SliceS.empty none 0 (by simp [maxLen]), SliceS.empty none 0 (by simp [maxLen])⟩, HB.out⟩

set_option maxRecDepth 100000 in
set_option maxHeartbeats 4000000 in
theorem bkept_Z (S : Nat → Prop) (x : BaV) (a : BaP) (w : World) (h : BaL S w x a) (hk : x.kind = 90) : Calls Tryz.prog 71 #[baArg x a] w (KeptB S x w) := by
  have HL := Lib.hid h
  have Hk : Hid (keptB x = ⟨90, x.status, ⟨#[]⟩, ⟨#[]⟩, ⟨#[]⟩, 0, 0, [], [], [], []⟩) := Lib.hid (by unfold keptB baZero; simp_all)
  unfold KeptB
  generalize keptB x = kx at *
  obtain ⟨xk, xs, xt, xn, xv, xa, xb, xo, xc, xr, xf⟩ := x
  obtain ⟨apo, aco, apc, acc, apr, acr, apf, acf⟩ := a
  clear h
  dsimp only at *
  subst hk
  unfold baArg baCells
  dsimp only
  have H1 := Lib.hid (KbI.start w #[.int .u8 90, .int .u8 xs, .string xt, .string xn, .string xv, .int .i64 xa, .int .i64 xb, .slice apo xo.length aco, .slice apc xc.length acc, .slice apr xr.length acr, .slice apf xf.length acf] #[.int .u8 90, .int .u8 0, .string ⟨#[]⟩, .string ⟨#[]⟩, .string ⟨#[]⟩, .int .i64 0, .int .i64 0, .slice none 0 0, .slice none 0 0, .slice none 0 0, .slice none 0 0])
  unfold baZ at H1
  go_enter Tryz.func71, Tryz.ntmps71
  go_upto_region 2 with (fail)
  generalize ((w.alloc (.cells #[.int .u8 90, .int .u8 xs, .string xt, .string xn, .string xv, .int .i64 xa, .int .i64 xb, .slice apo xo.length aco, .slice apc xc.length acc, .slice apr xr.length acr, .slice apf xf.length acf] 39)).alloc (.cells #[.int .u8 0, .int .u8 0, .string ⟨#[]⟩, .string ⟨#[]⟩, .string ⟨#[]⟩, .int .i64 0, .int .i64 0, .slice none 0 0, .slice none 0 0, .slice none 0 0, .slice none 0 0] 39)).alloc (.cells #[.int .u8 90, .int .u8 0, .string ⟨#[]⟩, .string ⟨#[]⟩, .string ⟨#[]⟩, .int .i64 0, .int .i64 0, .slice none 0 0, .slice none 0 0, .slice none 0 0, .slice none 0 0] 39) = w1 at *
  have c1 := H1.out.b1.cell
  have c3 := H1.out.b3.cell
  have f3 := H1.out.b3.frozen
  go_upto_region 20 with fail
  have h2 := (H1.out.set 1 (.int .u8 xs))
  try simp only [List.setIfInBounds_toArray, List.set_cons_succ, List.set_cons_zero] at h2
  have H2 := Lib.hid h2
  clear h2 c1 c3 f3
  generalize (w1.setCell ⟨w.heap.size + 1 + 1, 1, none⟩ (.int .u8 xs)) = w2 at *
  have c3 := H2.out.b3.cell
  have c2 : ∀ i, w2.cell? ⟨w.heap.size + 1, i, none⟩ = (#[.int .u8 0, .int .u8 0, .string ⟨#[]⟩, .string ⟨#[]⟩, .string ⟨#[]⟩, .int .i64 0, .int .i64 0, .slice none 0 0, .slice none 0 0, .slice none 0 0, .slice none 0 0] : Array Value)[i]? := H2.out.b2.cell
  have f2 := H2.out.b2.frozen
  go_wp2_with fail
  have hT := setEl_touch w2 (w.heap.size + 1) (.int .u8 90) (.int .u8 xs) (.string ⟨#[]⟩) (.string ⟨#[]⟩) (.string ⟨#[]⟩) (.int .i64 0) (.int .i64 0) (.slice none 0 0) (.slice none 0 0) (.slice none 0 0) (.slice none 0 0)
  have hbf := setEl_blk (.int .u8 90) (.int .u8 xs) (.string ⟨#[]⟩) (.string ⟨#[]⟩) (.string ⟨#[]⟩) (.int .i64 0) (.int .i64 0) (.slice none 0 0) (.slice none 0 0) (.slice none 0 0) (.slice none 0 0) H2.out.b2
  have HB := Lib.hid (H2.out.bel.trans (hT.below H2.out.bel.size (fun k hk => by omega)))
  unfold setEl at hbf HB
  have hcf := hbf.cell
  clear hT hbf c3 c2 f2
  refine bodyPost_ret (v := .agg #[.int .u8 90, .int .u8 xs, .string ⟨#[]⟩, .string ⟨#[]⟩, .string ⟨#[]⟩, .int .i64 0, .int .i64 0, .slice none 0 0, .slice none 0 0, .slice none 0 0, .slice none 0 0]) (by simp [results, Tryz.results71, go_sem, hcf]) rfl ?_
  rw [Hk.out]
  exact ⟨⟨none, 0, none, 0, none, 0, none, 0⟩, rfl, ⟨SliceS.empty none 0 (by simp [maxLen]), SliceS.empty none 0 (by simp [maxLen]), SliceS.empty none 0 (by simp [maxLen]), SliceS.empty none 0 (by simp [maxLen])⟩, HB.out⟩

set_option maxRecDepth 100000 in
set_option maxHeartbeats 4000000 in
theorem bkept_C (S : Nat → Prop) (x : BaV) (a : BaP) (w : World) (h : BaL S w x a) (hk : x.kind = 67) : Calls Tryz.prog 71 #[baArg x a] w (KeptB S x w) := by
  have HL := Lib.hid h
  have Hk : Hid (keptB x = ⟨67, 0, x.tag, ⟨#[]⟩, ⟨#[]⟩, 0, 0, [], [], [], []⟩) := Lib.hid (by unfold keptB baZero; simp_all)
  unfold KeptB
  generalize keptB x = kx at *
  obtain ⟨xk, xs, xt, xn, xv, xa, xb, xo, xc, xr, xf⟩ := x
  obtain ⟨apo, aco, apc, acc, apr, acr, apf, acf⟩ := a
  clear h
  dsimp only at *
  subst hk
  unfold baArg baCells
  dsimp only
  have H1 := Lib.hid (KbI.start w #[.int .u8 67, .int .u8 xs, .string xt, .string xn, .string xv, .int .i64 xa, .int .i64 xb, .slice apo xo.length aco, .slice apc xc.length acc, .slice apr xr.length acr, .slice apf xf.length acf] #[.int .u8 67, .int .u8 0, .string ⟨#[]⟩, .string ⟨#[]⟩, .string ⟨#[]⟩, .int .i64 0, .int .i64 0, .slice none 0 0, .slice none 0 0, .slice none 0 0, .slice none 0 0])
  unfold baZ at H1
  go_enter Tryz.func71, Tryz.ntmps71
  go_upto_region 2 with (fail)
  generalize ((w.alloc (.cells #[.int .u8 67, .int .u8 xs, .string xt, .string xn, .string xv, .int .i64 xa, .int .i64 xb, .slice apo xo.length aco, .slice apc xc.length acc, .slice apr xr.length acr, .slice apf xf.length acf] 39)).alloc (.cells #[.int .u8 0, .int .u8 0, .string ⟨#[]⟩, .string ⟨#[]⟩, .string ⟨#[]⟩, .int .i64 0, .int .i64 0, .slice none 0 0, .slice none 0 0, .slice none 0 0, .slice none 0 0] 39)).alloc (.cells #[.int .u8 67, .int .u8 0, .string ⟨#[]⟩, .string ⟨#[]⟩, .string ⟨#[]⟩, .int .i64 0, .int .i64 0, .slice none 0 0, .slice none 0 0, .slice none 0 0, .slice none 0 0] 39) = w1 at *
  have c1 := H1.out.b1.cell
  have c3 := H1.out.b3.cell
  have f3 := H1.out.b3.frozen
  go_upto_region 20 with fail
  have h2 := (H1.out.set 2 (.string xt))
  try simp only [List.setIfInBounds_toArray, List.set_cons_succ, List.set_cons_zero] at h2
  have H2 := Lib.hid h2
  clear h2 c1 c3 f3
  generalize (w1.setCell ⟨w.heap.size + 1 + 1, 2, none⟩ (.string xt)) = w2 at *
  have c3 := H2.out.b3.cell
  have c2 : ∀ i, w2.cell? ⟨w.heap.size + 1, i, none⟩ = (#[.int .u8 0, .int .u8 0, .string ⟨#[]⟩, .string ⟨#[]⟩, .string ⟨#[]⟩, .int .i64 0, .int .i64 0, .slice none 0 0, .slice none 0 0, .slice none 0 0, .slice none 0 0] : Array Value)[i]? := H2.out.b2.cell
  have f2 := H2.out.b2.frozen
  go_wp2_with fail
  have hT := setEl_touch w2 (w.heap.size + 1) (.int .u8 67) (.int .u8 0) (.string xt) (.string ⟨#[]⟩) (.string ⟨#[]⟩) (.int .i64 0) (.int .i64 0) (.slice none 0 0) (.slice none 0 0) (.slice none 0 0) (.slice none 0 0)
  have hbf := setEl_blk (.int .u8 67) (.int .u8 0) (.string xt) (.string ⟨#[]⟩) (.string ⟨#[]⟩) (.int .i64 0) (.int .i64 0) (.slice none 0 0) (.slice none 0 0) (.slice none 0 0) (.slice none 0 0) H2.out.b2
  have HB := Lib.hid (H2.out.bel.trans (hT.below H2.out.bel.size (fun k hk => by omega)))
  unfold setEl at hbf HB
  have hcf := hbf.cell
  clear hT hbf c3 c2 f2
  refine bodyPost_ret (v := .agg #[.int .u8 67, .int .u8 0, .string xt, .string ⟨#[]⟩, .string ⟨#[]⟩, .int .i64 0, .int .i64 0, .slice none 0 0, .slice none 0 0, .slice none 0 0, .slice none 0 0]) (by simp [results, Tryz.results71, go_sem, hcf]) rfl ?_
  rw [Hk.out]
  exact ⟨⟨none, 0, none, 0, none, 0, none, 0⟩, rfl, ⟨SliceS.empty none 0 (by simp [maxLen]), SliceS.empty none 0 (by simp [maxLen]), SliceS.empty none 0 (by simp [maxLen]), SliceS.empty none 0 (by simp [maxLen])⟩, HB.out⟩

set_option maxRecDepth 100000 in
set_option maxHeartbeats 4000000 in
theorem bkept_D (S : Nat → Prop) (x : BaV) (a : BaP) (w : World) (h : BaL S w x a) (hk : x.kind = 68) : Calls Tryz.prog 71 #[baArg x a] w (KeptB S x w) := by
  have HL := Lib.hid h
  have Hk : Hid (keptB x = ⟨68, 0, ⟨#[]⟩, ⟨#[]⟩, ⟨#[]⟩, 0, 0, [], [], x.row, []⟩) := Lib.hid (by unfold keptB baZero; simp_all)
  unfold KeptB
  generalize keptB x = kx at *
  obtain ⟨xk, xs, xt, xn, xv, xa, xb, xo, xc, xr, xf⟩ := x
  obtain ⟨apo, aco, apc, acc, apr, acr, apf, acf⟩ := a
  clear h
  dsimp only at *
  subst hk
  unfold baArg baCells
  dsimp only
  have H1 := Lib.hid (KbI.start w #[.int .u8 68, .int .u8 xs, .string xt, .string xn, .string xv, .int .i64 xa, .int .i64 xb, .slice apo xo.length aco, .slice apc xc.length acc, .slice apr xr.length acr, .slice apf xf.length acf] #[.int .u8 68, .int .u8 0, .string ⟨#[]⟩, .string ⟨#[]⟩, .string ⟨#[]⟩, .int .i64 0, .int .i64 0, .slice none 0 0, .slice none 0 0, .slice none 0 0, .slice none 0 0])
  unfold baZ at H1
  go_enter Tryz.func71, Tryz.ntmps71
  go_upto_region 2 with (fail)
  generalize ((w.alloc (.cells #[.int .u8 68, .int .u8 xs, .string xt, .string xn, .string xv, .int .i64 xa, .int .i64 xb, .slice apo xo.length aco, .slice apc xc.length acc, .slice apr xr.length acr, .slice apf xf.length acf] 39)).alloc (.cells #[.int .u8 0, .int .u8 0, .string ⟨#[]⟩, .string ⟨#[]⟩, .string ⟨#[]⟩, .int .i64 0, .int .i64 0, .slice none 0 0, .slice none 0 0, .slice none 0 0, .slice none 0 0] 39)).alloc (.cells #[.int .u8 68, .int .u8 0, .string ⟨#[]⟩, .string ⟨#[]⟩, .string ⟨#[]⟩, .int .i64 0, .int .i64 0, .slice none 0 0, .slice none 0 0, .slice none 0 0, .slice none 0 0] 39) = w1 at *
  have c1 := H1.out.b1.cell
  have c3 := H1.out.b3.cell
  have f3 := H1.out.b3.frozen
  go_upto_region 20 with fail
  have h2 := (H1.out.set 9 (.slice apr xr.length acr))
  try simp only [List.setIfInBounds_toArray, List.set_cons_succ, List.set_cons_zero] at h2
  have H2 := Lib.hid h2
  clear h2 c1 c3 f3
  generalize (w1.setCell ⟨w.heap.size + 1 + 1, 9, none⟩ (.slice apr xr.length acr)) = w2 at *
  have c3 := H2.out.b3.cell
  have c2 : ∀ i, w2.cell? ⟨w.heap.size + 1, i, none⟩ = (#[.int .u8 0, .int .u8 0, .string ⟨#[]⟩, .string ⟨#[]⟩, .string ⟨#[]⟩, .int .i64 0, .int .i64 0, .slice none 0 0, .slice none 0 0, .slice none 0 0, .slice none 0 0] : Array Value)[i]? := H2.out.b2.cell
  have f2 := H2.out.b2.frozen
  go_wp2_with fail
  have hT := setEl_touch w2 (w.heap.size + 1) (.int .u8 68) (.int .u8 0) (.string ⟨#[]⟩) (.string ⟨#[]⟩) (.string ⟨#[]⟩) (.int .i64 0) (.int .i64 0) (.slice none 0 0) (.slice none 0 0) (.slice apr xr.length acr) (.slice none 0 0)
  have hbf := setEl_blk (.int .u8 68) (.int .u8 0) (.string ⟨#[]⟩) (.string ⟨#[]⟩) (.string ⟨#[]⟩) (.int .i64 0) (.int .i64 0) (.slice none 0 0) (.slice none 0 0) (.slice apr xr.length acr) (.slice none 0 0) H2.out.b2
  have HB := Lib.hid (H2.out.bel.trans (hT.below H2.out.bel.size (fun k hk => by omega)))
  unfold setEl at hbf HB
  have hcf := hbf.cell
  clear hT hbf c3 c2 f2
  refine bodyPost_ret (v := .agg #[.int .u8 68, .int .u8 0, .string ⟨#[]⟩, .string ⟨#[]⟩, .string ⟨#[]⟩, .int .i64 0, .int .i64 0, .slice none 0 0, .slice none 0 0, .slice apr xr.length acr, .slice none 0 0]) (by simp [results, Tryz.results71, go_sem, hcf]) rfl ?_
  rw [Hk.out]
  exact ⟨⟨none, 0, none, 0, apr, acr, none, 0⟩, rfl, ⟨SliceS.empty none 0 (by simp [maxLen]), SliceS.empty none 0 (by simp [maxLen]), HL.out.lr.below CeS.still HB.out, SliceS.empty none 0 (by simp [maxLen])⟩, HB.out⟩

set_option maxRecDepth 100000 in
set_option maxHeartbeats 4000000 in
theorem bkept_T (S : Nat → Prop) (x : BaV) (a : BaP) (w : World) (h : BaL S w x a) (hk : x.kind = 84) : Calls Tryz.prog 71 #[baArg x a] w (KeptB S x w) := by
  have HL := Lib.hid h
  have Hk : Hid (keptB x = ⟨84, 0, ⟨#[]⟩, ⟨#[]⟩, ⟨#[]⟩, 0, 0, [], x.cols, [], []⟩) := Lib.hid (by unfold keptB baZero; simp_all)
  unfold KeptB
  generalize keptB x = kx at *
  obtain ⟨xk, xs, xt, xn, xv, xa, xb, xo, xc, xr, xf⟩ := x
  obtain ⟨apo, aco, apc, acc, apr, acr, apf, acf⟩ := a
  clear h
  dsimp only at *
  subst hk
  unfold baArg baCells
  dsimp only
  have H1 := Lib.hid (KbI.start w #[.int .u8 84, .int .u8 xs, .string xt, .string xn, .string xv, .int .i64 xa, .int .i64 xb, .slice apo xo.length aco, .slice apc xc.length acc, .slice apr xr.length acr, .slice apf xf.length acf] #[.int .u8 84, .int .u8 0, .string ⟨#[]⟩, .string ⟨#[]⟩, .string ⟨#[]⟩, .int .i64 0, .int .i64 0, .slice none 0 0, .slice none 0 0, .slice none 0 0, .slice none 0 0])
  unfold baZ at H1
  go_enter Tryz.func71, Tryz.ntmps71
  go_upto_region 2 with (fail)
  generalize ((w.alloc (.cells #[.int .u8 84, .int .u8 xs, .string xt, .string xn, .string xv, .int .i64 xa, .int .i64 xb, .slice apo xo.length aco, .slice apc xc.length acc, .slice apr xr.length acr, .slice apf xf.length acf] 39)).alloc (.cells #[.int .u8 0, .int .u8 0, .string ⟨#[]⟩, .string ⟨#[]⟩, .string ⟨#[]⟩, .int .i64 0, .int .i64 0, .slice none 0 0, .slice none 0 0, .slice none 0 0, .slice none 0 0] 39)).alloc (.cells #[.int .u8 84, .int .u8 0, .string ⟨#[]⟩, .string ⟨#[]⟩, .string ⟨#[]⟩, .int .i64 0, .int .i64 0, .slice none 0 0, .slice none 0 0, .slice none 0 0, .slice none 0 0] 39) = w1 at *
  have c1 := H1.out.b1.cell
  have c3 := H1.out.b3.cell
  have f3 := H1.out.b3.frozen
  go_upto_region 20 with fail
  have h2 := (H1.out.set 8 (.slice apc xc.length acc))
  try simp only [List.setIfInBounds_toArray, List.set_cons_succ, List.set_cons_zero] at h2
  have H2 := Lib.hid h2
  clear h2 c1 c3 f3
  generalize (w1.setCell ⟨w.heap.size + 1 + 1, 8, none⟩ (.slice apc xc.length acc)) = w2 at *
  have c3 := H2.out.b3.cell
  have c2 : ∀ i, w2.cell? ⟨w.heap.size + 1, i, none⟩ = (#[.int .u8 0, .int .u8 0, .string ⟨#[]⟩, .string ⟨#[]⟩, .string ⟨#[]⟩, .int .i64 0, .int .i64 0, .slice none 0 0, .slice none 0 0, .slice none 0 0, .slice none 0 0] : Array Value)[i]? := H2.out.b2.cell
  have f2 := H2.out.b2.frozen
  go_wp2_with fail
  have hT := setEl_touch w2 (w.heap.size + 1) (.int .u8 84) (.int .u8 0) (.string ⟨#[]⟩) (.string ⟨#[]⟩) (.string ⟨#[]⟩) (.int .i64 0) (.int .i64 0) (.slice none 0 0) (.slice apc xc.length acc) (.slice none 0 0) (.slice none 0 0)
  have hbf := setEl_blk (.int .u8 84) (.int .u8 0) (.string ⟨#[]⟩) (.string ⟨#[]⟩) (.string ⟨#[]⟩) (.int .i64 0) (.int .i64 0) (.slice none 0 0) (.slice apc xc.length acc) (.slice none 0 0) (.slice none 0 0) H2.out.b2
  have HB := Lib.hid (H2.out.bel.trans (hT.below H2.out.bel.size (fun k hk => by omega)))
  unfold setEl at hbf HB
  have hcf := hbf.cell
  clear hT hbf c3 c2 f2
  refine bodyPost_ret (v := .agg #[.int .u8 84, .int .u8 0, .string ⟨#[]⟩, .string ⟨#[]⟩, .string ⟨#[]⟩, .int .i64 0, .int .i64 0, .slice none 0 0, .slice apc xc.length acc, .slice none 0 0, .slice none 0 0]) (by simp [results, Tryz.results71, go_sem, hcf]) rfl ?_
  rw [Hk.out]
  exact ⟨⟨none, 0, apc, acc, none, 0, none, 0⟩, rfl, ⟨SliceS.empty none 0 (by simp [maxLen]), HL.out.lc.below CoS.still HB.out, SliceS.empty none 0 (by simp [maxLen]), SliceS.empty none 0 (by simp [maxLen])⟩, HB.out⟩

set_option maxRecDepth 100000 in
set_option maxHeartbeats 4000000 in
theorem bkept_t (S : Nat → Prop) (x : BaV) (a : BaP) (w : World) (h : BaL S w x a) (hk : x.kind = 116) : Calls Tryz.prog 71 #[baArg x a] w (KeptB S x w) := by
  have HL := Lib.hid h
  have Hk : Hid (keptB x = ⟨116, 0, ⟨#[]⟩, ⟨#[]⟩, ⟨#[]⟩, 0, 0, x.oids, [], [], []⟩) := Lib.hid (by unfold keptB baZero; simp_all)
  unfold KeptB
  generalize keptB x = kx at *
  obtain ⟨xk, xs, xt, xn, xv, xa, xb, xo, xc, xr, xf⟩ := x
  obtain ⟨apo, aco, apc, acc, apr, acr, apf, acf⟩ := a
  clear h
  dsimp only at *
  subst hk
  unfold baArg baCells
  dsimp only
  have H1 := Lib.hid (KbI.start w #[.int .u8 116, .int .u8 xs, .string xt, .string xn, .string xv, .int .i64 xa, .int .i64 xb, .slice apo xo.length aco, .slice apc xc.length acc, .slice apr xr.length acr, .slice apf xf.length acf] #[.int .u8 116, .int .u8 0, .string ⟨#[]⟩, .string ⟨#[]⟩, .string ⟨#[]⟩, .int .i64 0, .int .i64 0, .slice none 0 0, .slice none 0 0, .slice none 0 0, .slice none 0 0])
  unfold baZ at H1
  go_enter Tryz.func71, Tryz.ntmps71
  go_upto_region 2 with (fail)
  generalize ((w.alloc (.cells #[.int .u8 116, .int .u8 xs, .string xt, .string xn, .string xv, .int .i64 xa, .int .i64 xb, .slice apo xo.length aco, .slice apc xc.length acc, .slice apr xr.length acr, .slice apf xf.length acf] 39)).alloc (.cells #[.int .u8 0, .int .u8 0, .string ⟨#[]⟩, .string ⟨#[]⟩, .string ⟨#[]⟩, .int .i64 0, .int .i64 0, .slice none 0 0, .slice none 0 0, .slice none 0 0, .slice none 0 0] 39)).alloc (.cells #[.int .u8 116, .int .u8 0, .string ⟨#[]⟩, .string ⟨#[]⟩, .string ⟨#[]⟩, .int .i64 0, .int .i64 0, .slice none 0 0, .slice none 0 0, .slice none 0 0, .slice none 0 0] 39) = w1 at *
  have c1 := H1.out.b1.cell
  have c3 := H1.out.b3.cell
  have f3 := H1.out.b3.frozen
  go_upto_region 20 with fail
  have h2 := (H1.out.set 7 (.slice apo xo.length aco))
  try simp only [List.setIfInBounds_toArray, List.set_cons_succ, List.set_cons_zero] at h2
  have H2 := Lib.hid h2
  clear h2 c1 c3 f3
  generalize (w1.setCell ⟨w.heap.size + 1 + 1, 7, none⟩ (.slice apo xo.length aco)) = w2 at *
  have c3 := H2.out.b3.cell
  have c2 : ∀ i, w2.cell? ⟨w.heap.size + 1, i, none⟩ = (#[.int .u8 0, .int .u8 0, .string ⟨#[]⟩, .string ⟨#[]⟩, .string ⟨#[]⟩, .int .i64 0, .int .i64 0, .slice none 0 0, .slice none 0 0, .slice none 0 0, .slice none 0 0] : Array Value)[i]? := H2.out.b2.cell
  have f2 := H2.out.b2.frozen
  go_wp2_with fail
  have hT := setEl_touch w2 (w.heap.size + 1) (.int .u8 116) (.int .u8 0) (.string ⟨#[]⟩) (.string ⟨#[]⟩) (.string ⟨#[]⟩) (.int .i64 0) (.int .i64 0) (.slice apo xo.length aco) (.slice none 0 0) (.slice none 0 0) (.slice none 0 0)
  have hbf := setEl_blk (.int .u8 116) (.int .u8 0) (.string ⟨#[]⟩) (.string ⟨#[]⟩) (.string ⟨#[]⟩) (.int .i64 0) (.int .i64 0) (.slice apo xo.length aco) (.slice none 0 0) (.slice none 0 0) (.slice none 0 0) H2.out.b2
  have HB := Lib.hid (H2.out.bel.trans (hT.below H2.out.bel.size (fun k hk => by omega)))
  unfold setEl at hbf HB
  have hcf := hbf.cell
  clear hT hbf c3 c2 f2
  refine bodyPost_ret (v := .agg #[.int .u8 116, .int .u8 0, .string ⟨#[]⟩, .string ⟨#[]⟩, .string ⟨#[]⟩, .int .i64 0, .int .i64 0, .slice apo xo.length aco, .slice none 0 0, .slice none 0 0, .slice none 0 0]) (by simp [results, Tryz.results71, go_sem, hcf]) rfl ?_
  rw [Hk.out]
  exact ⟨⟨apo, aco, none, 0, none, 0, none, 0⟩, rfl, ⟨HL.out.lo.below IntU.still HB.out, SliceS.empty none 0 (by simp [maxLen]), SliceS.empty none 0 (by simp [maxLen]), SliceS.empty none 0 (by simp [maxLen])⟩, HB.out⟩

set_option maxRecDepth 100000 in
set_option maxHeartbeats 4000000 in
theorem bkept_E (S : Nat → Prop) (x : BaV) (a : BaP) (w : World) (h : BaL S w x a) (hk : x.kind = 69) : Calls Tryz.prog 71 #[baArg x a] w (KeptB S x w) := by
  have HL := Lib.hid h
  have Hk : Hid (keptB x = ⟨69, 0, ⟨#[]⟩, ⟨#[]⟩, ⟨#[]⟩, 0, 0, [], [], [], x.fields⟩) := Lib.hid (by unfold keptB baZero; simp_all)
  unfold KeptB
  generalize keptB x = kx at *
  obtain ⟨xk, xs, xt, xn, xv, xa, xb, xo, xc, xr, xf⟩ := x
  obtain ⟨apo, aco, apc, acc, apr, acr, apf, acf⟩ := a
  clear h
  dsimp only at *
  subst hk
  unfold baArg baCells
  dsimp only
  have H1 := Lib.hid (KbI.start w #[.int .u8 69, .int .u8 xs, .string xt, .string xn, .string xv, .int .i64 xa, .int .i64 xb, .slice apo xo.length aco, .slice apc xc.length acc, .slice apr xr.length acr, .slice apf xf.length acf] #[.int .u8 69, .int .u8 0, .string ⟨#[]⟩, .string ⟨#[]⟩, .string ⟨#[]⟩, .int .i64 0, .int .i64 0, .slice none 0 0, .slice none 0 0, .slice none 0 0, .slice none 0 0])
  unfold baZ at H1
  go_enter Tryz.func71, Tryz.ntmps71
  go_upto_region 2 with (fail)
  generalize ((w.alloc (.cells #[.int .u8 69, .int .u8 xs, .string xt, .string xn, .string xv, .int .i64 xa, .int .i64 xb, .slice apo xo.length aco, .slice apc xc.length acc, .slice apr xr.length acr, .slice apf xf.length acf] 39)).alloc (.cells #[.int .u8 0, .int .u8 0, .string ⟨#[]⟩, .string ⟨#[]⟩, .string ⟨#[]⟩, .int .i64 0, .int .i64 0, .slice none 0 0, .slice none 0 0, .slice none 0 0, .slice none 0 0] 39)).alloc (.cells #[.int .u8 69, .int .u8 0, .string ⟨#[]⟩, .string ⟨#[]⟩, .string ⟨#[]⟩, .int .i64 0, .int .i64 0, .slice none 0 0, .slice none 0 0, .slice none 0 0, .slice none 0 0] 39) = w1 at *
  have c1 := H1.out.b1.cell
  have c3 := H1.out.b3.cell
  have f3 := H1.out.b3.frozen
  go_upto_region 20 with fail
  have h2 := (H1.out.set 10 (.slice apf xf.length acf))
  try simp only [List.setIfInBounds_toArray, List.set_cons_succ, List.set_cons_zero] at h2
  have H2 := Lib.hid h2
  clear h2 c1 c3 f3
  generalize (w1.setCell ⟨w.heap.size + 1 + 1, 10, none⟩ (.slice apf xf.length acf)) = w2 at *
  have c3 := H2.out.b3.cell
  have c2 : ∀ i, w2.cell? ⟨w.heap.size + 1, i, none⟩ = (#[.int .u8 0, .int .u8 0, .string ⟨#[]⟩, .string ⟨#[]⟩, .string ⟨#[]⟩, .int .i64 0, .int .i64 0, .slice none 0 0, .slice none 0 0, .slice none 0 0, .slice none 0 0] : Array Value)[i]? := H2.out.b2.cell
  have f2 := H2.out.b2.frozen
  go_wp2_with fail
  have hT := setEl_touch w2 (w.heap.size + 1) (.int .u8 69) (.int .u8 0) (.string ⟨#[]⟩) (.string ⟨#[]⟩) (.string ⟨#[]⟩) (.int .i64 0) (.int .i64 0) (.slice none 0 0) (.slice none 0 0) (.slice none 0 0) (.slice apf xf.length acf)
  have hbf := setEl_blk (.int .u8 69) (.int .u8 0) (.string ⟨#[]⟩) (.string ⟨#[]⟩) (.string ⟨#[]⟩) (.int .i64 0) (.int .i64 0) (.slice none 0 0) (.slice none 0 0) (.slice none 0 0) (.slice apf xf.length acf) H2.out.b2
  have HB := Lib.hid (H2.out.bel.trans (hT.below H2.out.bel.size (fun k hk => by omega)))
  unfold setEl at hbf HB
  have hcf := hbf.cell
  clear hT hbf c3 c2 f2
  refine bodyPost_ret (v := .agg #[.int .u8 69, .int .u8 0, .string ⟨#[]⟩, .string ⟨#[]⟩, .string ⟨#[]⟩, .int .i64 0, .int .i64 0, .slice none 0 0, .slice none 0 0, .slice none 0 0, .slice apf xf.length acf]) (by simp [results, Tryz.results71, go_sem, hcf]) rfl ?_
  rw [Hk.out]
  exact ⟨⟨none, 0, none, 0, none, 0, apf, acf⟩, rfl, ⟨SliceS.empty none 0 (by simp [maxLen]), SliceS.empty none 0 (by simp [maxLen]), SliceS.empty none 0 (by simp [maxLen]), HL.out.lf.below FdS.still HB.out⟩, HB.out⟩

set_option maxRecDepth 100000 in
set_option maxHeartbeats 4000000 in
theorem bkept_N (S : Nat → Prop) (x : BaV) (a : BaP) (w : World) (h : BaL S w x a) (hk : x.kind = 78) : Calls Tryz.prog 71 #[baArg x a] w (KeptB S x w) := by
  have HL := Lib.hid h
  have Hk : Hid (keptB x = ⟨78, 0, ⟨#[]⟩, ⟨#[]⟩, ⟨#[]⟩, 0, 0, [], [], [], x.fields⟩) := Lib.hid (by unfold keptB baZero; simp_all)
  unfold KeptB
  generalize keptB x = kx at *
  obtain ⟨xk, xs, xt, xn, xv, xa, xb, xo, xc, xr, xf⟩ := x
  obtain ⟨apo, aco, apc, acc, apr, acr, apf, acf⟩ := a
  clear h
  dsimp only at *
  subst hk
  unfold baArg baCells
  dsimp only
  have H1 := Lib.hid (KbI.start w #[.int .u8 78, .int .u8 xs, .string xt, .string xn, .string xv, .int .i64 xa, .int .i64 xb, .slice apo xo.length aco, .slice apc xc.length acc, .slice apr xr.length acr, .slice apf xf.length acf] #[.int .u8 78, .int .u8 0, .string ⟨#[]⟩, .string ⟨#[]⟩, .string ⟨#[]⟩, .int .i64 0, .int .i64 0, .slice none 0 0, .slice none 0 0, .slice none 0 0, .slice none 0 0])
  unfold baZ at H1
  go_enter Tryz.func71, Tryz.ntmps71
  go_upto_region 2 with (fail)
  generalize ((w.alloc (.cells #[.int .u8 78, .int .u8 xs, .string xt, .string xn, .string xv, .int .i64 xa, .int .i64 xb, .slice apo xo.length aco, .slice apc xc.length acc, .slice apr xr.length acr, .slice apf xf.length acf] 39)).alloc (.cells #[.int .u8 0, .int .u8 0, .string ⟨#[]⟩, .string ⟨#[]⟩, .string ⟨#[]⟩, .int .i64 0, .int .i64 0, .slice none 0 0, .slice none 0 0, .slice none 0 0, .slice none 0 0] 39)).alloc (.cells #[.int .u8 78, .int .u8 0, .string ⟨#[]⟩, .string ⟨#[]⟩, .string ⟨#[]⟩, .int .i64 0, .int .i64 0, .slice none 0 0, .slice none 0 0, .slice none 0 0, .slice none 0 0] 39) = w1 at *
  have c1 := H1.out.b1.cell
  have c3 := H1.out.b3.cell
  have f3 := H1.out.b3.frozen
  go_upto_region 20 with fail
  have h2 := (H1.out.set 10 (.slice apf xf.length acf))
  try simp only [List.setIfInBounds_toArray, List.set_cons_succ, List.set_cons_zero] at h2
  have H2 := Lib.hid h2
  clear h2 c1 c3 f3
  generalize (w1.setCell ⟨w.heap.size + 1 + 1, 10, none⟩ (.slice apf xf.length acf)) = w2 at *
  have c3 := H2.out.b3.cell
  have c2 : ∀ i, w2.cell? ⟨w.heap.size + 1, i, none⟩ = (#[.int .u8 0, .int .u8 0, .string ⟨#[]⟩, .string ⟨#[]⟩, .string ⟨#[]⟩, .int .i64 0, .int .i64 0, .slice none 0 0, .slice none 0 0, .slice none 0 0, .slice none 0 0] : Array Value)[i]? := H2.out.b2.cell
  have f2 := H2.out.b2.frozen
  go_wp2_with fail
  have hT := setEl_touch w2 (w.heap.size + 1) (.int .u8 78) (.int .u8 0) (.string ⟨#[]⟩) (.string ⟨#[]⟩) (.string ⟨#[]⟩) (.int .i64 0) (.int .i64 0) (.slice none 0 0) (.slice none 0 0) (.slice none 0 0) (.slice apf xf.length acf)
  have hbf := setEl_blk (.int .u8 78) (.int .u8 0) (.string ⟨#[]⟩) (.string ⟨#[]⟩) (.string ⟨#[]⟩) (.int .i64 0) (.int .i64 0) (.slice none 0 0) (.slice none 0 0) (.slice none 0 0) (.slice apf xf.length acf) H2.out.b2
  have HB := Lib.hid (H2.out.bel.trans (hT.below H2.out.bel.size (fun k hk => by omega)))
  unfold setEl at hbf HB
  have hcf := hbf.cell
  clear hT hbf c3 c2 f2
  refine bodyPost_ret (v := .agg #[.int .u8 78, .int .u8 0, .string ⟨#[]⟩, .string ⟨#[]⟩, .string ⟨#[]⟩, .int .i64 0, .int .i64 0, .slice none 0 0, .slice none 0 0, .slice none 0 0, .slice apf xf.length acf]) (by simp [results, Tryz.results71, go_sem, hcf]) rfl ?_
  rw [Hk.out]
  exact ⟨⟨none, 0, none, 0, none, 0, apf, acf⟩, rfl, ⟨SliceS.empty none 0 (by simp [maxLen]), SliceS.empty none 0 (by simp [maxLen]), SliceS.empty none 0 (by simp [maxLen]), HL.out.lf.below FdS.still HB.out⟩, HB.out⟩

set_option maxRecDepth 100000 in
set_option maxHeartbeats 4000000 in
theorem bkept_O (S : Nat → Prop) (x : BaV) (a : BaP) (w : World) (h : BaL S w x a) (hk : ∀ n ∈ [83, 75, 90, 67, 68, 84, 116, 69, 78], (x.kind == n) = false) : Calls Tryz.prog 71 #[baArg x a] w (KeptB S x w) := by
  have HL := Lib.hid h
  have g0 := hk 83 (by simp)
  have g1 := hk 75 (by simp)
  have g2 := hk 90 (by simp)
  have g3 := hk 67 (by simp)
  have g4 := hk 68 (by simp)
  have g5 := hk 84 (by simp)
  have g6 := hk 116 (by simp)
  have g7 := hk 69 (by simp)
  have g8 := hk 78 (by simp)
  have Hk : Hid (keptB x = ⟨x.kind, 0, ⟨#[]⟩, ⟨#[]⟩, ⟨#[]⟩, 0, 0, [], [], [], []⟩) := Lib.hid (by unfold keptB baZero; simp_all)
  unfold KeptB
  generalize keptB x = kx at *
  obtain ⟨xk, xs, xt, xn, xv, xa, xb, xo, xc, xr, xf⟩ := x
  obtain ⟨apo, aco, apc, acc, apr, acr, apf, acf⟩ := a
  clear h
  dsimp only at *
  clear hk
  unfold baArg baCells
  dsimp only
  have H1 := Lib.hid (KbI.start w #[.int .u8 xk, .int .u8 xs, .string xt, .string xn, .string xv, .int .i64 xa, .int .i64 xb, .slice apo xo.length aco, .slice apc xc.length acc, .slice apr xr.length acr, .slice apf xf.length acf] #[.int .u8 xk, .int .u8 0, .string ⟨#[]⟩, .string ⟨#[]⟩, .string ⟨#[]⟩, .int .i64 0, .int .i64 0, .slice none 0 0, .slice none 0 0, .slice none 0 0, .slice none 0 0])
  unfold baZ at H1
  go_enter Tryz.func71, Tryz.ntmps71
  go_upto_region 2 with (fail)
  generalize ((w.alloc (.cells #[.int .u8 xk, .int .u8 xs, .string xt, .string xn, .string xv, .int .i64 xa, .int .i64 xb, .slice apo xo.length aco, .slice apc xc.length acc, .slice apr xr.length acr, .slice apf xf.length acf] 39)).alloc (.cells #[.int .u8 0, .int .u8 0, .string ⟨#[]⟩, .string ⟨#[]⟩, .string ⟨#[]⟩, .int .i64 0, .int .i64 0, .slice none 0 0, .slice none 0 0, .slice none 0 0, .slice none 0 0] 39)).alloc (.cells #[.int .u8 xk, .int .u8 0, .string ⟨#[]⟩, .string ⟨#[]⟩, .string ⟨#[]⟩, .int .i64 0, .int .i64 0, .slice none 0 0, .slice none 0 0, .slice none 0 0, .slice none 0 0] 39) = w1 at *
  have c1 := H1.out.b1.cell
  have c3 := H1.out.b3.cell
  have f3 := H1.out.b3.frozen
  go_upto_region 20 with fail
  have h2 := H1.out
  try simp only [List.setIfInBounds_toArray, List.set_cons_succ, List.set_cons_zero] at h2
  have H2 := Lib.hid h2
  clear h2 c1 c3 f3
  generalize w1 = w2 at *
  have c3 := H2.out.b3.cell
  have c2 : ∀ i, w2.cell? ⟨w.heap.size + 1, i, none⟩ = (#[.int .u8 0, .int .u8 0, .string ⟨#[]⟩, .string ⟨#[]⟩, .string ⟨#[]⟩, .int .i64 0, .int .i64 0, .slice none 0 0, .slice none 0 0, .slice none 0 0, .slice none 0 0] : Array Value)[i]? := H2.out.b2.cell
  have f2 := H2.out.b2.frozen
  go_wp2_with fail
  have hT := setEl_touch w2 (w.heap.size + 1) (.int .u8 xk) (.int .u8 0) (.string ⟨#[]⟩) (.string ⟨#[]⟩) (.string ⟨#[]⟩) (.int .i64 0) (.int .i64 0) (.slice none 0 0) (.slice none 0 0) (.slice none 0 0) (.slice none 0 0)
  have hbf := setEl_blk (.int .u8 xk) (.int .u8 0) (.string ⟨#[]⟩) (.string ⟨#[]⟩) (.string ⟨#[]⟩) (.int .i64 0) (.int .i64 0) (.slice none 0 0) (.slice none 0 0) (.slice none 0 0) (.slice none 0 0) H2.out.b2
  have HB := Lib.hid (H2.out.bel.trans (hT.below H2.out.bel.size (fun k hk => by omega)))
  unfold setEl at hbf HB
  have hcf := hbf.cell
  clear hT hbf c3 c2 f2
  refine bodyPost_ret (v := .agg #[.int .u8 xk, .int .u8 0, .string ⟨#[]⟩, .string ⟨#[]⟩, .string ⟨#[]⟩, .int .i64 0, .int .i64 0, .slice none 0 0, .slice none 0 0, .slice none 0 0, .slice none 0 0]) (by simp [results, Tryz.results71, go_sem, hcf]) rfl ?_
  rw [Hk.out]
  exact ⟨⟨none, 0, none, 0, none, 0, none, 0⟩, rfl, ⟨SliceS.empty none 0 (by simp [maxLen]), SliceS.empty none 0 (by simp [maxLen]), SliceS.empty none 0 (by simp [maxLen]), SliceS.empty none 0 (by simp [maxLen])⟩, HB.out⟩

theorem bkept_any (S : Nat → Prop) (x : BaV) (a : BaP) (w : World) (h : BaL S w x a) : Calls Tryz.prog 71 #[baArg x a] w (KeptB S x w) := by
  rcases kindB_cases x.kind with hk | hk | hk | hk | hk | hk | hk | hk | hk | hk
  · exact bkept_S S x a w h hk
  · exact bkept_K S x a w h hk
  · exact bkept_Z S x a w h hk
  · exact bkept_C S x a w h hk
  · exact bkept_D S x a w h hk
  · exact bkept_T S x a w h hk
  · exact bkept_t S x a w h hk
  · exact bkept_E S x a w h hk
  · exact bkept_N S x a w h hk
  · exact bkept_O S x a w h hk

end Go.Proofs.YthhebfknikfleaaGreat

/-
  Messages of servers (layer 7): whether two are the same: the document's.
-/
namespace Go.Proofs.YthhebfknikfleaaGreat
open Go.RowKit
set_option linter.unusedVariables false
set_option linter.unusedSimpArgs false

theorem bel_drew' (w : World) : Below w.heap.size w w.drew := ((Touch.refl (fun _ => False) w).drew).below (Nat.le_refl _) (fun _ e => e.elim)

set_option maxRecDepth 100000 in
set_option maxHeartbeats 4000000 in
theorem rbsame_any (S S' : Nat → Prop) (x y : BaV) (a b : BaP) (w : World) (h1 : BaL S w x a) (h2 : BaL S' w y b) :
    Calls Tryz.prog 22 #[baArg x a, baArg y b] w fun e w' => e = .returned (.bool (baEq x y)) ∧ Below w.heap.size w w' := by
  have H0 := Lib.hid (Ba2.start h1 h2)
  have Hv := Lib.hid (baEq_parts x y)
  clear h1 h2
  generalize baEq x y = ev at *
  obtain ⟨xk, xs, xt, xn, xv, xa, xb, xo, xc, xr, xf⟩ := x
  obtain ⟨yk, ys, yt, yn, yv, ya, yb, yo, yc, yr, yf⟩ := y
  obtain ⟨apo, aco, apc, acc, apr, acr, apf, acf⟩ := a
  obtain ⟨bpo, bco, bpc, bcc, bpr, bcr, bpf, bcf⟩ := b
  unfold baArg
  unfold baCells at H0 ⊢
  dsimp only at *
  have HO := Lib.hid (fun (w1 : World) (H : Ba2 w w1 w.heap.size (w.heap.size + 1) ⟨xk, xs, xt, xn, xv, xa, xb, xo, xc, xr, xf⟩ ⟨yk, ys, yt, yn, yv, ya, yb, yo, yc, yr, yf⟩ ⟨apo, aco, apc, acc, apr, acr, apf, acf⟩ ⟨bpo, bco, bpc, bcc, bpr, bcr, bpf, bcf⟩) => reqInts_any _ _ _ _ _ _ _ _ _ _ w1 H.l1.lo H.l2.lo)
  have HP := Lib.hid (fun (w1 : World) (H : Ba2 w w1 w.heap.size (w.heap.size + 1) ⟨xk, xs, xt, xn, xv, xa, xb, xo, xc, xr, xf⟩ ⟨yk, ys, yt, yn, yv, ya, yb, yo, yc, yr, yf⟩ ⟨apo, aco, apc, acc, apr, acr, apf, acf⟩ ⟨bpo, bco, bpc, bcc, bpr, bcr, bpf, bcf⟩) => reqCells_any _ _ _ _ _ _ _ _ _ _ w1 H.l1.lr H.l2.lr)
  have HL := Lib.hid (fun (w1 : World) (H : Ba2 w w1 w.heap.size (w.heap.size + 1) ⟨xk, xs, xt, xn, xv, xa, xb, xo, xc, xr, xf⟩ ⟨yk, ys, yt, yn, yv, ya, yb, yo, yc, yr, yf⟩ ⟨apo, aco, apc, acc, apr, acr, apf, acf⟩ ⟨bpo, bco, bpc, bcc, bpr, bcr, bpf, bcf⟩) => And.intro H.l1.lc (And.intro H.l2.lc (And.intro H.l1.lf H.l2.lf)))
  have HC : Hid (∀ w1 : World, Ba2 w w1 w.heap.size (w.heap.size + 1) ⟨xk, xs, xt, xn, xv, xa, xb, xo, xc, xr, xf⟩ ⟨yk, ys, yt, yn, yv, ya, yb, yo, yc, yr, yf⟩ ⟨apo, aco, apc, acc, apr, acr, apf, acf⟩ ⟨bpo, bco, bpc, bcc, bpr, bcr, bpf, bcf⟩ → (∀ i, w1.cell? ⟨w.heap.size, i, none⟩ = (#[.int .u8 xk, .int .u8 xs, .string xt, .string xn, .string xv, .int .i64 xa, .int .i64 xb, .slice apo xo.length aco, .slice apc xc.length acc, .slice apr xr.length acr, .slice apf xf.length acf] : Array Value)[i]?) ∧ (∀ i, w1.cell? ⟨w.heap.size + 1, i, none⟩ = (#[.int .u8 yk, .int .u8 ys, .string yt, .string yn, .string yv, .int .i64 ya, .int .i64 yb, .slice bpo yo.length bco, .slice bpc yc.length bcc, .slice bpr yr.length bcr, .slice bpf yf.length bcf] : Array Value)[i]?)) := Lib.hid (fun w1 H => ⟨H.b1.cell, H.b2.cell⟩)
  dsimp only at HO HP HL
  have HD := Lib.hid (fun (k : Nat) (h1 : k < xc.length) (h2 : k < yc.length) => listEq_step (f := coEq) h1 h2)
  have HDE := Lib.hid (fun h : xc.length = yc.length => listEq_end (f := coEq) h)
  have HDN := Lib.hid (fun h : xc.length ≠ yc.length => listEq_len (f := coEq) h)
  have HF := Lib.hid (fun (k : Nat) (h1 : k < xf.length) (h2 : k < yf.length) => listEq_step (f := fdEq) h1 h2)
  have HFE := Lib.hid (fun h : xf.length = yf.length => listEq_end (f := fdEq) h)
  have HFN := Lib.hid (fun h : xf.length ≠ yf.length => listEq_len (f := fdEq) h)
  have HLc := Lib.hid (And.intro H0.out.l1.lc.len H0.out.l1.lf.len)
  have HLd := Lib.hid (And.intro H0.out.l2.lc.len H0.out.l2.lf.len)
  obtain ⟨bc, hbc⟩ : ∃ b, listEq coEq xc yc = b := ⟨_, rfl⟩
  obtain ⟨bf, hbf⟩ : ∃ b, listEq fdEq xf yf = b := ⟨_, rfl⟩
  rw [hbc, hbf] at Hv
  have Hbc := Lib.hid hbc
  have Hbf := Lib.hid hbf
  clear hbc hbf
  generalize listEq intsEq xo yo = bo at *
  generalize listEq ceEq xr yr = br at *
  go_enter Tryz.func22, Tryz.ntmps22
  go_upto_region 1 with (fail)
  generalize (w.alloc (.cells #[.int .u8 xk, .int .u8 xs, .string xt, .string xn, .string xv, .int .i64 xa, .int .i64 xb, .slice apo xo.length aco, .slice apc xc.length acc, .slice apr xr.length acr, .slice apf xf.length acf] 39)).alloc (.cells #[.int .u8 yk, .int .u8 ys, .string yt, .string yn, .string yv, .int .i64 ya, .int .i64 yb, .slice bpo yo.length bco, .slice bpc yc.length bcc, .slice bpr yr.length bcr, .slice bpf yf.length bcf] 39) = w1 at *
  obtain ⟨hc1, hd1⟩ := HC.out w1 H0.out
  obtain ⟨hb0, hhb⟩ : ∃ hb : Bool, hb = ((xk == yk) && ((xs == ys) && ((xt.toList == yt.toList) && ((xn.toList == yn.toList) && ((xv.toList == yv.toList) && ((xa == ya) && (xb == yb))))))) := ⟨_, rfl⟩
  have Hhb := Lib.hid hhb
  have Hv2 : Hid (ev = (hb0 && (bo && (br && (bc && bf))))) := Lib.hid (by
    rw [Hv.out, hhb]
    generalize (xk == yk) = q1
    generalize (xs == ys) = q2
    generalize (xa == ya) = q3
    generalize (xb == yb) = q4
    generalize (xt.toList == yt.toList) = q5
    generalize (xn.toList == yn.toList) = q6
    generalize (xv.toList == yv.toList) = q7
    cases q1 <;> cases q2 <;> cases q3 <;> cases q4 <;> cases q5 <;> cases q6 <;> cases q7 <;> cases bo <;> cases br <;> cases bc <;> cases bf <;> rfl)
  clear hhb Hv
  have Hv := Hv2
  clear Hv2
  go_cut [0, 1, 5] (fun _ _ v wx => v = .bool hb0 ∧ wx = w1)
  case first =>
    go_wp2_with fail
    all_goals
      go_meet
      refine ⟨?_, rfl⟩
      rw [Hhb.out]
      simp_all
  case rest =>
    obtain ⟨rfl, rfl⟩ := hcut
    cases hb0 with
    | false =>
      go_wp2_with fail
      go_ret
      exact ⟨ret_bool (by rw [Hv.out]; rfl), H0.out.bel⟩
    | true =>
      go_wp2_with fail
      refine (HO.out _ H0.out).mono ?_
      rintro e wnA ⟨rfl, hb⟩
      have HA := Lib.hid (H0.out.step hb)
      obtain ⟨hcA, hdA⟩ := HC.out wnA HA.out
      clear hb
      clear hc1 hd1
      cases bo with
      | false =>
        go_wp2_with fail
        go_ret
        exact ⟨ret_bool (by rw [Hv.out]; rfl), HA.out.bel⟩
      | true =>
        go_wp2_with fail
        refine (HP.out _ HA.out).mono ?_
        rintro e wnB ⟨rfl, hb⟩
        have HB := Lib.hid (HA.out.step hb)
        obtain ⟨hcB, hdB⟩ := HC.out wnB HB.out
        clear hb
        clear hcA hdA
        cases br with
        | false =>
          go_wp2_with fail
          go_ret
          exact ⟨ret_bool (by rw [Hv.out]; rfl), HB.out.bel⟩
        | true =>
          by_cases hnc : xc.length = yc.length
          · by_cases hnf : xf.length = yf.length
            · have Hnc := Lib.hid hnc
              have Hnf := Lib.hid hnf
              have hnci : (xc.length : Int) = (yc.length : Int) := by omega
              have hnfi : (xf.length : Int) = (yf.length : Int) := by omega
              have hl1 := HLc.out.1.2.1
              have hl2 := HLc.out.1.2.2
              have hl3 := HLc.out.2.2.1
              have hl4 := HLc.out.2.2.2
              unfold maxLen at hl2 hl4
              clear hnc hnf
              go_upto_region 4 with fail
              clear hnci hnfi hcB hdB
              go_wp2_with fail
              go_loopw [6] (fun i wr => ∃ k : Nat, k ≤ xc.length ∧ i = .int .i64 k ∧ Ba2 w wr w.heap.size (w.heap.size + 1) ⟨xk, xs, xt, xn, xv, xa, xb, xo, xc, xr, xf⟩ ⟨yk, ys, yt, yn, yv, ya, yb, yo, yc, yr, yf⟩ ⟨apo, aco, apc, acc, apr, acr, apf, acf⟩ ⟨bpo, bco, bpc, bcc, bpr, bcr, bpf, bcf⟩ ∧ listEq coEq xc yc = listEq coEq (xc.drop k) (yc.drop k)) (fun i _ => xc.length - (intOf i).toNat)
              case atStart => exact ⟨0, Nat.zero_le _, rfl, HB.out, rfl⟩
              case round =>
                obtain ⟨k, hk, rfl, hin, he⟩ := hrel
                have He := Lib.hid he
                have HI := Lib.hid hin
                obtain ⟨hcR, hdR⟩ := HC.out wr hin
                clear he hin
                by_cases hlt : k < xc.length
                · have hlt' : k < yc.length := by rw [← Hnc.out]; exact hlt
                  obtain ⟨b1, o1, hp1, _, _, c0, c1, c2, c3, c4, c5, c6, _⟩ := co_at (HL.out wr HI.out).1 hlt
                  obtain ⟨b2, o2, hp2, _, _, e0, e1, e2, e3, e4, e5, e6, _⟩ := co_at (HL.out wr HI.out).2.1 hlt'
                  subst hp1 hp2
                  have Hst := Lib.hid (HD.out k hlt hlt')
                  generalize hX : xc[k] = x at *
                  generalize hY : yc[k] = y at *
                  clear hX hY hlt'
                  have hlti : (k : Int) < (xc.length : Int) := by omega
                  have hltj : (k : Int) < (yc.length : Int) := by rw [← Hnc.out]; omega
                  have hgd : ∀ (op : BinOp) (a b : Operand) (xs ys : Array Value) (w0 : World), (eqGuard op 79 a b (.agg xs) (.agg ys)).run Tryz.prog w0 = .ok () w0 := fun op a b xs ys w0 => run_eqGuard_agg w0 op 79 a b xs ys (by kernel_rfl)
                  cases hxy : coEq x y with
                  | true =>
                    rw [hxy, Bool.true_and] at Hst
                    have hq := fun w0 => neq_co x y w0
                    rw [hxy, Bool.not_true] at hq
                    clear hxy
                    obtain ⟨x0, x1, x2, x3, x4, x5, x6⟩ := x
                    obtain ⟨y0, y1, y2, y3, y4, y5, y6⟩ := y
                    dsimp only at c0 c1 c2 c3 c4 c5 c6 e0 e1 e2 e3 e4 e5 e6 hq
                    go_wp2_with fail
                    go_region
                    all_goals
                      go_wp2_with fail
                      go_roundw
                      case rel => exact ⟨k + 1, by omega, by go_num, HI.out.step (bel_drew' _), He.out.trans Hst.out⟩
                      case measure => simp [intOf]; omega
                  | false =>
                    rw [hxy, Bool.false_and] at Hst
                    have hq := fun w0 => neq_co x y w0
                    rw [hxy, Bool.not_false] at hq
                    clear hxy
                    obtain ⟨x0, x1, x2, x3, x4, x5, x6⟩ := x
                    obtain ⟨y0, y1, y2, y3, y4, y5, y6⟩ := y
                    dsimp only at c0 c1 c2 c3 c4 c5 c6 e0 e1 e2 e3 e4 e5 e6 hq
                    have Hf : Hid (bc = false) := Lib.hid (Hbc.out.symm.trans (He.out.trans Hst.out))
                    go_wp2_with fail
                    go_region
                    all_goals
                      go_wp2_with fail
                      go_ret
                      exact ⟨ret_bool (by rw [Hv.out, Hf.out]; simp), (HI.out.step (bel_drew' _)).bel⟩
                · obtain rfl : k = xc.length := by omega
                  have Hf : Hid (bc = true) := Lib.hid (Hbc.out.symm.trans (He.out.trans (HDE.out Hnc.out)))
                  have HfC := Hf
                  have HI1 := HI
                  clear Hf He HI
                  go_wp2_with fail
                  go_loopw [7] (fun i wr => ∃ k : Nat, k ≤ xf.length ∧ i = .int .i64 k ∧ Ba2 w wr w.heap.size (w.heap.size + 1) ⟨xk, xs, xt, xn, xv, xa, xb, xo, xc, xr, xf⟩ ⟨yk, ys, yt, yn, yv, ya, yb, yo, yc, yr, yf⟩ ⟨apo, aco, apc, acc, apr, acr, apf, acf⟩ ⟨bpo, bco, bpc, bcc, bpr, bcr, bpf, bcf⟩ ∧ listEq fdEq xf yf = listEq fdEq (xf.drop k) (yf.drop k)) (fun i _ => xf.length - (intOf i).toNat)
                  case atStart => exact ⟨0, Nat.zero_le _, rfl, HI1.out, rfl⟩
                  case round =>
                    obtain ⟨k, hk, rfl, hin, he⟩ := hrel
                    have He := Lib.hid he
                    have HI := Lib.hid hin
                    obtain ⟨hcR, hdR⟩ := HC.out wr hin
                    clear he hin
                    by_cases hlt : k < xf.length
                    · have hlt' : k < yf.length := by rw [← Hnf.out]; exact hlt
                      obtain ⟨b1, o1, hp1, _, _, c0, c1, _, _, _⟩ := fd_at (HL.out wr HI.out).2.2.1 hlt
                      obtain ⟨b2, o2, hp2, _, _, e0, e1, _, _, _⟩ := fd_at (HL.out wr HI.out).2.2.2 hlt'
                      subst hp1 hp2
                      have Hst := Lib.hid (HF.out k hlt hlt')
                      generalize hX : xf[k] = x at *
                      generalize hY : yf[k] = y at *
                      clear hX hY hlt'
                      have hlti : (k : Int) < (xf.length : Int) := by omega
                      have hltj : (k : Int) < (yf.length : Int) := by rw [← Hnf.out]; omega
                      have hgd : ∀ (op : BinOp) (a b : Operand) (xs ys : Array Value) (w0 : World), (eqGuard op 87 a b (.agg xs) (.agg ys)).run Tryz.prog w0 = .ok () w0 := fun op a b xs ys w0 => run_eqGuard_agg w0 op 87 a b xs ys (by kernel_rfl)
                      cases hxy : fdEq x y with
                      | true =>
                        rw [hxy, Bool.true_and] at Hst
                        have hq := fun w0 => neq_fd x y w0
                        rw [hxy, Bool.not_true] at hq
                        clear hxy
                        obtain ⟨x0, x1⟩ := x
                        obtain ⟨y0, y1⟩ := y
                        dsimp only at c0 c1 e0 e1 hq
                        go_wp2_with fail
                        go_region
                        all_goals
                          go_wp2_with fail
                          go_roundw
                          case rel => exact ⟨k + 1, by omega, by go_num, HI.out.step (bel_drew' _), He.out.trans Hst.out⟩
                          case measure => simp [intOf]; omega
                      | false =>
                        rw [hxy, Bool.false_and] at Hst
                        have hq := fun w0 => neq_fd x y w0
                        rw [hxy, Bool.not_false] at hq
                        clear hxy
                        obtain ⟨x0, x1⟩ := x
                        obtain ⟨y0, y1⟩ := y
                        dsimp only at c0 c1 e0 e1 hq
                        have Hf : Hid (bf = false) := Lib.hid (Hbf.out.symm.trans (He.out.trans Hst.out))
                        go_wp2_with fail
                        go_region
                        all_goals
                          go_wp2_with fail
                          go_ret
                          exact ⟨ret_bool (by rw [Hv.out, Hf.out]; simp), (HI.out.step (bel_drew' _)).bel⟩
                    · obtain rfl : k = xf.length := by omega
                      have Hf : Hid (bf = true) := Lib.hid (Hbf.out.symm.trans (He.out.trans (HFE.out Hnf.out)))
                      go_wp2_with fail
                      go_ret
                      exact ⟨ret_bool (by rw [Hv.out, HfC.out, Hf.out]; rfl), HI.out.bel⟩
            · have Hf : Hid (bf = false) := Lib.hid (Hbf.out.symm.trans (HFN.out hnf))
              have hnfi : ¬ (xf.length : Int) = (yf.length : Int) := by omega
              have hnci : (xc.length : Int) = (yc.length : Int) := by omega
              clear hnc hnf
              go_wp2_with fail
              go_ret
              exact ⟨ret_bool (by rw [Hv.out, Hf.out]; simp), HB.out.bel⟩
          · have Hf : Hid (bc = false) := Lib.hid (Hbc.out.symm.trans (HDN.out hnc))
            have hnci : ¬ (xc.length : Int) = (yc.length : Int) := by omega
            clear hnc
            go_wp2_with fail
            go_ret
            exact ⟨ret_bool (by rw [Hv.out, Hf.out]; simp), HB.out.bel⟩

end Go.Proofs.YthhebfknikfleaaGreat

