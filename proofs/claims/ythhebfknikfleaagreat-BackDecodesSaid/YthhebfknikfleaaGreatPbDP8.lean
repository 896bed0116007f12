/-
  Ground: BaE, BaB.
-/
import Derived.Test.YthhebfknikfleaaGreatPbDP2
import Derived.Test.YthhebfknikfleaaGreatPbDP7
import Derived.Laws.StructEq
/-
  Messages of servers (layer 7): a message with just the fields that its body has: the program's.
-/
namespace Go.Proofs.YthhebfknikfleaaGreat
open Go.RowKit
set_option linter.unusedVariables false
set_option linter.unusedSimpArgs false

def baZ : Array Value := #[.int .u8 0, .int .u8 0, .string ⟨#[]⟩, .string ⟨#[]⟩, .string ⟨#[]⟩, .int .i64 0, .int .i64 0, .slice none 0 0, .slice none 0 0, .slice none 0 0, .slice none 0 0]
/-- Eleven cells are stored into a block. -/
abbrev setEl (w : World) (g : Nat) (v0 v1 v2 v3 v4 v5 v6 v7 v8 v9 v10 : Value) : World := (((((((((((w.setCell ⟨g, 0, none⟩ v0).setCell ⟨g, 1, none⟩ v1).setCell ⟨g, 2, none⟩ v2).setCell ⟨g, 3, none⟩ v3).setCell ⟨g, 4, none⟩ v4).setCell ⟨g, 5, none⟩ v5).setCell ⟨g, 6, none⟩ v6).setCell ⟨g, 7, none⟩ v7).setCell ⟨g, 8, none⟩ v8).setCell ⟨g, 9, none⟩ v9).setCell ⟨g, 10, none⟩ v10)
theorem setEl_touch (w : World) (g : Nat) (v0 v1 v2 v3 v4 v5 v6 v7 v8 v9 v10 : Value) : Touch (fun k => k = g) w (setEl w g v0 v1 v2 v3 v4 v5 v6 v7 v8 v9 v10) := ((((((((((((Touch.refl (fun k => k = g) w).setCell (x := ⟨g, 0, none⟩) (fun _ => rfl) _).setCell (x := ⟨g, 1, none⟩) (fun _ => rfl) _).setCell (x := ⟨g, 2, none⟩) (fun _ => rfl) _).setCell (x := ⟨g, 3, none⟩) (fun _ => rfl) _).setCell (x := ⟨g, 4, none⟩) (fun _ => rfl) _).setCell (x := ⟨g, 5, none⟩) (fun _ => rfl) _).setCell (x := ⟨g, 6, none⟩) (fun _ => rfl) _).setCell (x := ⟨g, 7, none⟩) (fun _ => rfl) _).setCell (x := ⟨g, 8, none⟩) (fun _ => rfl) _).setCell (x := ⟨g, 9, none⟩) (fun _ => rfl) _).setCell (x := ⟨g, 10, none⟩) (fun _ => rfl) _)
theorem setEl_blk {t : TypeId} {w : World} {g : Nat} {u0 u1 u2 u3 u4 u5 u6 u7 u8 u9 u10 : Value} (v0 v1 v2 v3 v4 v5 v6 v7 v8 v9 v10 : Value) (hb : Blk w g t #[u0, u1, u2, u3, u4, u5, u6, u7, u8, u9, u10]) : Blk (setEl w g v0 v1 v2 v3 v4 v5 v6 v7 v8 v9 v10) g t #[v0, v1, v2, v3, v4, v5, v6, v7, v8, v9, v10] := by
  have h := (((((((((((hb.set_ 0 v0).set_ 1 v1).set_ 2 v2).set_ 3 v3).set_ 4 v4).set_ 5 v5).set_ 6 v6).set_ 7 v7).set_ 8 v8).set_ 9 v9).set_ 10 v10)
  simpa using h

/-- What 'of' leaves. -/
def KeptB (S : Nat → Prop) (f : BaV) (w : World) (e : Ending) (w' : World) : Prop := ∃ a', e = .returned (baArg (keptB f) a') ∧ BaL S w' (keptB f) a' ∧ Below w.heap.size w w'

/-- What holds ahead of the stores: the message, the result, the message that is made. -/
structure KbI (w0 w : World) (c1 c3 : Array Value) : Prop where
  b1 : Blk w w0.heap.size 39 c1
  b2 : Blk w (w0.heap.size + 1) 39 baZ
  b3 : Blk w (w0.heap.size + 1 + 1) 39 c3
  bel : Below w0.heap.size w0 w
theorem KbI.start (w : World) (c1 c3 : Array Value) : KbI w (((w.alloc (.cells c1 39)).alloc (.cells baZ 39)).alloc (.cells c3 39)) c1 c3 := by
  have e1 : (w.alloc (.cells c1 39)).heap.size = w.heap.size + 1 := by simp
  have e2 : ((w.alloc (.cells c1 39)).alloc (.cells baZ 39)).heap.size = w.heap.size + 1 + 1 := by simp
  refine ⟨((Blk.new _ _ _).alloc _).alloc _, ?_, ?_, (((Below.refl _ _).alloc (Nat.le_refl _) _).alloc (by simp) _).alloc (by simp; omega) _⟩
  · have := (Blk.new (w.alloc (.cells c1 39)) 39 baZ).alloc (.cells c3 39)
    rw [e1] at this
    exact this
  · have := Blk.new ((w.alloc (.cells c1 39)).alloc (.cells baZ 39)) 39 c3
    rw [e2] at this
    exact this
theorem KbI.set {w0 w : World} {c1 c3 : Array Value} (h : KbI w0 w c1 c3) (i : Nat) (u : Value) : KbI w0 (w.setCell ⟨w0.heap.size + 1 + 1, i, none⟩ u) c1 (c3.setIfInBounds i u) := by
  have hT : Touch (fun k => k = w0.heap.size + 1 + 1) w (w.setCell ⟨w0.heap.size + 1 + 1, i, none⟩ u) := (Touch.refl (fun k => k = w0.heap.size + 1 + 1) w).setCell (x := ⟨w0.heap.size + 1 + 1, i, none⟩) (fun _ => rfl) _
  exact ⟨hT.blk h.b1 (by omega), hT.blk h.b2 (by omega), h.b3.set_ i u, h.bel.trans (hT.below h.bel.size (fun k e => by omega))⟩
theorem KbI.drew {w0 w : World} {c1 c3 : Array Value} (h : KbI w0 w c1 c3) : KbI w0 w.drew c1 c3 := ⟨h.b1, h.b2, h.b3, h.bel.trans (((Touch.refl (fun _ => False) w).drew).below h.bel.size (fun _ e => e.elim))⟩

theorem kindB_cases (k : Int) : k = 83 ∨ k = 75 ∨ k = 90 ∨ k = 67 ∨ k = 68 ∨ k = 84 ∨ k = 116 ∨ k = 69 ∨ k = 78 ∨ (∀ n ∈ [83, 75, 90, 67, 68, 84, 116, 69, 78], (k == n) = false) := by
  by_cases h0 : k = 83
  · exact .inl h0
  by_cases h1 : k = 75
  · exact .inr (.inl h1)
  by_cases h2 : k = 90
  · exact .inr (.inr (.inl h2))
  by_cases h3 : k = 67
  · exact .inr (.inr (.inr (.inl h3)))
  by_cases h4 : k = 68
  · exact .inr (.inr (.inr (.inr (.inl h4))))
  by_cases h5 : k = 84
  · exact .inr (.inr (.inr (.inr (.inr (.inl h5)))))
  by_cases h6 : k = 116
  · exact .inr (.inr (.inr (.inr (.inr (.inr (.inl h6))))))
  by_cases h7 : k = 69
  · exact .inr (.inr (.inr (.inr (.inr (.inr (.inr (.inl h7)))))))
  by_cases h8 : k = 78
  · exact .inr (.inr (.inr (.inr (.inr (.inr (.inr (.inr (.inl h8))))))))
  refine .inr (.inr (.inr (.inr (.inr (.inr (.inr (.inr (.inr (?_)))))))))
  intro n hn
  simp only [List.mem_cons, List.not_mem_nil, or_false] at hn
  rcases hn with rfl | rfl | rfl | rfl | rfl | rfl | rfl | rfl | rfl <;> simp [*]

set_option maxRecDepth 100000 in
set_option maxHeartbeats 4000000 in
theorem bof_S (S : Nat → Prop) (x : BaV) (a : BaP) (w : World) (h : BaL S w x a) (hk : x.kind = 83) : Calls Tryz.prog 63 #[baArg x a] w (KeptB S x w) := by
  have HL := Lib.hid h
  have Hk : Hid (keptB x = ⟨83, 0, ⟨#[]⟩, x.name, x.value, 0, 0, [], [], [], []⟩) := Lib.hid (by unfold keptB baZero; simp_all)
  unfold KeptB
  generalize keptB x = kx at *
  obtain ⟨xk, xs, xt, xn, xv, xa, xb, xo, xc, xr, xf⟩ := x
  obtain ⟨apo, aco, apc, acc, apr, acr, apf, acf⟩ := a
  clear h
  dsimp only at *
  subst hk
  unfold baArg baCells
  dsimp only
  have H1 := Lib.hid (KbI.start w #[.int .u8 83, .int .u8 xs, .string xt, .string xn, .string xv, .int .i64 xa, .int .i64 xb, .slice apo xo.length aco, .slice apc xc.length acc, .slice apr xr.length acr, .slice apf xf.length acf] #[.int .u8 83, .int .u8 0, .string ⟨#[]⟩, .string ⟨#[]⟩, .string ⟨#[]⟩, .int .i64 0, .int .i64 0, .slice none 0 0, .slice none 0 0, .slice none 0 0, .slice none 0 0])
  unfold baZ at H1
  go_enter Tryz.func63, Tryz.ntmps63
  go_upto_region 2 with (fail)
  generalize ((w.alloc (.cells #[.int .u8 83, .int .u8 xs, .string xt, .string xn, .string xv, .int .i64 xa, .int .i64 xb, .slice apo xo.length aco, .slice apc xc.length acc, .slice apr xr.length acr, .slice apf xf.length acf] 39)).alloc (.cells #[.int .u8 0, .int .u8 0, .string ⟨#[]⟩, .string ⟨#[]⟩, .string ⟨#[]⟩, .int .i64 0, .int .i64 0, .slice none 0 0, .slice none 0 0, .slice none 0 0, .slice none 0 0] 39)).alloc (.cells #[.int .u8 83, .int .u8 0, .string ⟨#[]⟩, .string ⟨#[]⟩, .string ⟨#[]⟩, .int .i64 0, .int .i64 0, .slice none 0 0, .slice none 0 0, .slice none 0 0, .slice none 0 0] 39) = w1 at *
  have c1 := H1.out.b1.cell
  have c3 := H1.out.b3.cell
  have f3 := H1.out.b3.frozen
  go_wp2_with fail
  go_region
  have h2 := ((H1.out.set 3 (.string xn)).set 4 (.string xv)).drew
  try simp only [List.setIfInBounds_toArray, List.set_cons_succ, List.set_cons_zero] at h2
  have H2 := Lib.hid h2
  clear h2 c1 c3 f3
  generalize ((w1.setCell ⟨w.heap.size + 1 + 1, 3, none⟩ (.string xn)).setCell ⟨w.heap.size + 1 + 1, 4, none⟩ (.string xv)).drew = w2 at *
  have c3 := H2.out.b3.cell
  have c2 : ∀ i, w2.cell? ⟨w.heap.size + 1, i, none⟩ = (#[.int .u8 0, .int .u8 0, .string ⟨#[]⟩, .string ⟨#[]⟩, .string ⟨#[]⟩, .int .i64 0, .int .i64 0, .slice none 0 0, .slice none 0 0, .slice none 0 0, .slice none 0 0] : Array Value)[i]? := H2.out.b2.cell
  have f2 := H2.out.b2.frozen
  go_wp2_with fail
  have hT := setEl_touch w2 (w.heap.size + 1) (.int .u8 83) (.int .u8 0) (.string ⟨#[]⟩) (.string xn) (.string xv) (.int .i64 0) (.int .i64 0) (.slice none 0 0) (.slice none 0 0) (.slice none 0 0) (.slice none 0 0)
  have hbf := setEl_blk (.int .u8 83) (.int .u8 0) (.string ⟨#[]⟩) (.string xn) (.string xv) (.int .i64 0) (.int .i64 0) (.slice none 0 0) (.slice none 0 0) (.slice none 0 0) (.slice none 0 0) H2.out.b2
  have HB := Lib.hid (H2.out.bel.trans (hT.below H2.out.bel.size (fun k hk => by omega)))
  unfold setEl at hbf HB
  have hcf := hbf.cell
  clear hT hbf c3 c2 f2
  refine bodyPost_ret (v := .agg #[.int .u8 83, .int .u8 0, .string ⟨#[]⟩, .string xn, .string xv, .int .i64 0, .int .i64 0, .slice none 0 0, .slice none 0 0, .slice none 0 0, .slice none 0 0]) (by simp [results, Tryz.results63, go_sem, hcf]) rfl ?_
  rw [Hk.out]
  exact ⟨⟨none, 0, none, 0, none, 0, none, 0⟩, rfl, ⟨SliceS.empty none 0 (by simp [maxLen]), SliceS.empty none 0 (by simp [maxLen]), SliceS.empty none 0 (by simp [maxLen]), SliceS.empty none 0 (by simp [maxLen])⟩, HB.out⟩

set_option maxRecDepth 100000 in
set_option maxHeartbeats 4000000 in
theorem bof_K (S : Nat → Prop) (x : BaV) (a : BaP) (w : World) (h : BaL S w x a) (hk : x.kind = 75) : Calls Tryz.prog 63 #[baArg x a] w (KeptB S x w) := by
  have HL := Lib.hid h
  have Hk : Hid (keptB x = ⟨75, 0, ⟨#[]⟩, ⟨#[]⟩, ⟨#[]⟩, x.n, x.m, [], [], [], []⟩) := Lib.hid (by unfold keptB baZero; simp_all)
  unfold KeptB
  generalize keptB x = kx at *
  obtain ⟨xk, xs, xt, xn, xv, xa, xb, xo, xc, xr, xf⟩ := x
  obtain ⟨apo, aco, apc, acc, apr, acr, apf, acf⟩ := a
  clear h
  dsimp only at *
  subst hk
  unfold baArg baCells
  dsimp only
  have H1 := Lib.hid (KbI.start w #[.int .u8 75, .int .u8 xs, .string xt, .string xn, .string xv, .int .i64 xa, .int .i64 xb, .slice apo xo.length aco, .slice apc xc.length acc, .slice apr xr.length acr, .slice apf xf.length acf] #[.int .u8 75, .int .u8 0, .string ⟨#[]⟩, .string ⟨#[]⟩, .string ⟨#[]⟩, .int .i64 0, .int .i64 0, .slice none 0 0, .slice none 0 0, .slice none 0 0, .slice none 0 0])
  unfold baZ at H1
  go_enter Tryz.func63, Tryz.ntmps63
  go_upto_region 2 with (fail)
  generalize ((w.alloc (.cells #[.int .u8 75, .int .u8 xs, .string xt, .string xn, .string xv, .int .i64 xa, .int .i64 xb, .slice apo xo.length aco, .slice apc xc.length acc, .slice apr xr.length acr, .slice apf xf.length acf] 39)).alloc (.cells #[.int .u8 0, .int .u8 0, .string ⟨#[]⟩, .string ⟨#[]⟩, .string ⟨#[]⟩, .int .i64 0, .int .i64 0, .slice none 0 0, .slice none 0 0, .slice none 0 0, .slice none 0 0] 39)).alloc (.cells #[.int .u8 75, .int .u8 0, .string ⟨#[]⟩, .string ⟨#[]⟩, .string ⟨#[]⟩, .int .i64 0, .int .i64 0, .slice none 0 0, .slice none 0 0, .slice none 0 0, .slice none 0 0] 39) = w1 at *
  have c1 := H1.out.b1.cell
  have c3 := H1.out.b3.cell
  have f3 := H1.out.b3.frozen
  go_wp2_with fail
  go_region
  have h2 := ((H1.out.set 5 (.int .i64 xa)).set 6 (.int .i64 xb)).drew
  try simp only [List.setIfInBounds_toArray, List.set_cons_succ, List.set_cons_zero] at h2
  have H2 := Lib.hid h2
  clear h2 c1 c3 f3
  generalize ((w1.setCell ⟨w.heap.size + 1 + 1, 5, none⟩ (.int .i64 xa)).setCell ⟨w.heap.size + 1 + 1, 6, none⟩ (.int .i64 xb)).drew = w2 at *
  have c3 := H2.out.b3.cell
  have c2 : ∀ i, w2.cell? ⟨w.heap.size + 1, i, none⟩ = (#[.int .u8 0, .int .u8 0, .string ⟨#[]⟩, .string ⟨#[]⟩, .string ⟨#[]⟩, .int .i64 0, .int .i64 0, .slice none 0 0, .slice none 0 0, .slice none 0 0, .slice none 0 0] : Array Value)[i]? := H2.out.b2.cell
  have f2 := H2.out.b2.frozen
  go_wp2_with fail
  have hT := setEl_touch w2 (w.heap.size + 1) (.int .u8 75) (.int .u8 0) (.string ⟨#[]⟩) (.string ⟨#[]⟩) (.string ⟨#[]⟩) (.int .i64 xa) (.int .i64 xb) (.slice none 0 0) (.slice none 0 0) (.slice none 0 0) (.slice none 0 0)
  have hbf := setEl_blk (.int .u8 75) (.int .u8 0) (.string ⟨#[]⟩) (.string ⟨#[]⟩) (.string ⟨#[]⟩) (.int .i64 xa) (.int .i64 xb) (.slice none 0 0) (.slice none 0 0) (.slice none 0 0) (.slice none 0 0) H2.out.b2
  have HB := Lib.hid (H2.out.bel.trans (hT.below H2.out.bel.size (fun k hk => by omega)))
  unfold setEl at hbf HB
  have hcf := hbf.cell
  clear hT hbf c3 c2 f2
  refine bodyPost_ret (v := .agg #[.int .u8 75, .int .u8 0, .string ⟨#[]⟩, .string ⟨#[]⟩, .string ⟨#[]⟩, .int .i64 xa, .int .i64 xb, .slice none 0 0, .slice none 0 0, .slice none 0 0, .slice none 0 0]) (by simp [results, Tryz.results63, go_sem, hcf]) rfl ?_
  rw [Hk.out]
  exact ⟨⟨none, 0, none, 0, none, 0, none, 0⟩, rfl, ⟨SliceS.empty none 0 (by simp [maxLen]), SliceS.empty none 0 (by simp [maxLen]), SliceS.empty none 0 (by simp [maxLen]), SliceS.empty none 0 (by simp [maxLen])⟩, HB.out⟩

set_option maxRecDepth 100000 in
set_option maxHeartbeats 4000000 in
theorem bof_Z (S : Nat → Prop) (x : BaV) (a : BaP) (w : World) (h : BaL S w x a) (hk : x.kind = 90) : Calls Tryz.prog 63 #[baArg x a] w (KeptB S x w) := by
  have HL := Lib.hid h
  have Hk : Hid (keptB x = ⟨90, x.status, ⟨#[]⟩, ⟨#[]⟩, ⟨#[]⟩, 0, 0, [], [], [], []⟩) := Lib.hid (by unfold keptB baZero; simp_all)
  unfold KeptB
  generalize keptB x = kx at *
  obtain ⟨xk, xs, xt, xn, xv, xa, xb, xo, xc, xr, xf⟩ := x
  obtain ⟨apo, aco, apc, acc, apr, acr, apf, acf⟩ := a
  clear h
  dsimp only at *
  subst hk
  unfold baArg baCells
  dsimp only
  have H1 := Lib.hid (KbI.start w #[.int .u8 90, .int .u8 xs, .string xt, .string xn, .string xv, .int .i64 xa, .int .i64 xb, .slice apo xo.length aco, .slice apc xc.length acc, .slice apr xr.length acr, .slice apf xf.length acf] #[.int .u8 90, .int .u8 0, .string ⟨#[]⟩, .string ⟨#[]⟩, .string ⟨#[]⟩, .int .i64 0, .int .i64 0, .slice none 0 0, .slice none 0 0, .slice none 0 0, .slice none 0 0])
  unfold baZ at H1
  go_enter Tryz.func63, Tryz.ntmps63
  go_upto_region 2 with (fail)
  generalize ((w.alloc (.cells #[.int .u8 90, .int .u8 xs, .string xt, .string xn, .string xv, .int .i64 xa, .int .i64 xb, .slice apo xo.length aco, .slice apc xc.length acc, .slice apr xr.length acr, .slice apf xf.length acf] 39)).alloc (.cells #[.int .u8 0, .int .u8 0, .string ⟨#[]⟩, .string ⟨#[]⟩, .string ⟨#[]⟩, .int .i64 0, .int .i64 0, .slice none 0 0, .slice none 0 0, .slice none 0 0, .slice none 0 0] 39)).alloc (.cells #[.int .u8 90, .int .u8 0, .string ⟨#[]⟩, .string ⟨#[]⟩, .string ⟨#[]⟩, .int .i64 0, .int .i64 0, .slice none 0 0, .slice none 0 0, .slice none 0 0, .slice none 0 0] 39) = w1 at *
  have c1 := H1.out.b1.cell
  have c3 := H1.out.b3.cell
  have f3 := H1.out.b3.frozen
  go_upto_region 20 with fail
  have h2 := (H1.out.set 1 (.int .u8 xs))
  try simp only [List.setIfInBounds_toArray, List.set_cons_succ, List.set_cons_zero] at h2
  have H2 := Lib.hid h2
  clear h2 c1 c3 f3
  generalize (w1.setCell ⟨w.heap.size + 1 + 1, 1, none⟩ (.int .u8 xs)) = w2 at *
  have c3 := H2.out.b3.cell
  have c2 : ∀ i, w2.cell? ⟨w.heap.size + 1, i, none⟩ = (#[.int .u8 0, .int .u8 0, .string ⟨#[]⟩, .string ⟨#[]⟩, .string ⟨#[]⟩, .int .i64 0, .int .i64 0, .slice none 0 0, .slice none 0 0, .slice none 0 0, .slice none 0 0] : Array Value)[i]? := H2.out.b2.cell
  have f2 := H2.out.b2.frozen
  go_wp2_with fail
  have hT := setEl_touch w2 (w.heap.size + 1) (.int .u8 90) (.int .u8 xs) (.string ⟨#[]⟩) (.string ⟨#[]⟩) (.string ⟨#[]⟩) (.int .i64 0) (.int .i64 0) (.slice none 0 0) (.slice none 0 0) (.slice none 0 0) (.slice none 0 0)
  have hbf := setEl_blk (.int .u8 90) (.int .u8 xs) (.string ⟨#[]⟩) (.string ⟨#[]⟩) (.string ⟨#[]⟩) (.int .i64 0) (.int .i64 0) (.slice none 0 0) (.slice none 0 0) (.slice none 0 0) (.slice none 0 0) H2.out.b2
  have HB := Lib.hid (H2.out.bel.trans (hT.below H2.out.bel.size (fun k hk => by omega)))
  unfold setEl at hbf HB
  have hcf := hbf.cell
  clear hT hbf c3 c2 f2
  refine bodyPost_ret (v := .agg #[.int .u8 90, .int .u8 xs, .string ⟨#[]⟩, .string ⟨#[]⟩, .string ⟨#[]⟩, .int .i64 0, .int .i64 0, .slice none 0 0, .slice none 0 0, .slice none 0 0, .slice none 0 0]) (by simp [results, Tryz.results63, go_sem, hcf]) rfl ?_
  rw [Hk.out]
  exact ⟨⟨none, 0, none, 0, none, 0, none, 0⟩, rfl, ⟨SliceS.empty none 0 (by simp [maxLen]), SliceS.empty none 0 (by simp [maxLen]), SliceS.empty none 0 (by simp [maxLen]), SliceS.empty none 0 (by simp [maxLen])⟩, HB.out⟩

set_option maxRecDepth 100000 in
set_option maxHeartbeats 4000000 in
theorem bof_C (S : Nat → Prop) (x : BaV) (a : BaP) (w : World) (h : BaL S w x a) (hk : x.kind = 67) : Calls Tryz.prog 63 #[baArg x a] w (KeptB S x w) := by
  have HL := Lib.hid h
  have Hk : Hid (keptB x = ⟨67, 0, x.tag, ⟨#[]⟩, ⟨#[]⟩, 0, 0, [], [], [], []⟩) := Lib.hid (by unfold keptB baZero; simp_all)
  unfold KeptB
  generalize keptB x = kx at *
  obtain ⟨xk, xs, xt, xn, xv, xa, xb, xo, xc, xr, xf⟩ := x
  obtain ⟨apo, aco, apc, acc, apr, acr, apf, acf⟩ := a
  clear h
  dsimp only at *
  subst hk
  unfold baArg baCells
  dsimp only
  have H1 := Lib.hid (KbI.start w #[.int .u8 67, .int .u8 xs, .string xt, .string xn, .string xv, .int .i64 xa, .int .i64 xb, .slice apo xo.length aco, .slice apc xc.length acc, .slice apr xr.length acr, .slice apf xf.length acf] #[.int .u8 67, .int .u8 0, .string ⟨#[]⟩, .string ⟨#[]⟩, .string ⟨#[]⟩, .int .i64 0, .int .i64 0, .slice none 0 0, .slice none 0 0, .slice none 0 0, .slice none 0 0])
  unfold baZ at H1
  go_enter Tryz.func63, Tryz.ntmps63
  go_upto_region 2 with (fail)
  generalize ((w.alloc (.cells #[.int .u8 67, .int .u8 xs, .string xt, .string xn, .string xv, .int .i64 xa, .int .i64 xb, .slice apo xo.length aco, .slice apc xc.length acc, .slice apr xr.length acr, .slice apf xf.length acf] 39)).alloc (.cells #[.int .u8 0, .int .u8 0, .string ⟨#[]⟩, .string ⟨#[]⟩, .string ⟨#[]⟩, .int .i64 0, .int .i64 0, .slice none 0 0, .slice none 0 0, .slice none 0 0, .slice none 0 0] 39)).alloc (.cells #[.int .u8 67, .int .u8 0, .string ⟨#[]⟩, .string ⟨#[]⟩, .string ⟨#[]⟩, .int .i64 0, .int .i64 0, .slice none 0 0, .slice none 0 0, .slice none 0 0, .slice none 0 0] 39) = w1 at *
  have c1 := H1.out.b1.cell
  have c3 := H1.out.b3.cell
  have f3 := H1.out.b3.frozen
  go_upto_region 20 with fail
  have h2 := (H1.out.set 2 (.string xt))
  try simp only [List.setIfInBounds_toArray, List.set_cons_succ, List.set_cons_zero] at h2
  have H2 := Lib.hid h2
  clear h2 c1 c3 f3
  generalize (w1.setCell ⟨w.heap.size + 1 + 1, 2, none⟩ (.string xt)) = w2 at *
  have c3 := H2.out.b3.cell
  have c2 : ∀ i, w2.cell? ⟨w.heap.size + 1, i, none⟩ = (#[.int .u8 0, .int .u8 0, .string ⟨#[]⟩, .string ⟨#[]⟩, .string ⟨#[]⟩, .int .i64 0, .int .i64 0, .slice none 0 0, .slice none 0 0, .slice none 0 0, .slice none 0 0] : Array Value)[i]? := H2.out.b2.cell
  have f2 := H2.out.b2.frozen
  go_wp2_with fail
  have hT := setEl_touch w2 (w.heap.size + 1) (.int .u8 67) (.int .u8 0) (.string xt) (.string ⟨#[]⟩) (.string ⟨#[]⟩) (.int .i64 0) (.int .i64 0) (.slice none 0 0) (.slice none 0 0) (.slice none 0 0) (.slice none 0 0)
  have hbf := setEl_blk (.int .u8 67) (.int .u8 0) (.string xt) (.string ⟨#[]⟩) (.string ⟨#[]⟩) (.int .i64 0) (.int .i64 0) (.slice none 0 0) (.slice none 0 0) (.slice none 0 0) (.slice none 0 0) H2.out.b2
  have HB := Lib.hid (H2.out.bel.trans (hT.below H2.out.bel.size (fun k hk => by omega)))
  unfold setEl at hbf HB
  have hcf := hbf.cell
  clear hT hbf c3 c2 f2
  refine bodyPost_ret (v := .agg #[.int .u8 67, .int .u8 0, .string xt, .string ⟨#[]⟩, .string ⟨#[]⟩, .int .i64 0, .int .i64 0, .slice none 0 0, .slice none 0 0, .slice none 0 0, .slice none 0 0]) (by simp [results, Tryz.results63, go_sem, hcf]) rfl ?_
  rw [Hk.out]
  exact ⟨⟨none, 0, none, 0, none, 0, none, 0⟩, rfl, ⟨SliceS.empty none 0 (by simp [maxLen]), SliceS.empty none 0 (by simp [maxLen]), SliceS.empty none 0 (by simp [maxLen]), SliceS.empty none 0 (by simp [maxLen])⟩, HB.out⟩

set_option maxRecDepth 100000 in
set_option maxHeartbeats 4000000 in
theorem bof_D (S : Nat → Prop) (x : BaV) (a : BaP) (w : World) (h : BaL S w x a) (hk : x.kind = 68) : Calls Tryz.prog 63 #[baArg x a] w (KeptB S x w) := by
  have HL := Lib.hid h
  have Hk : Hid (keptB x = ⟨68, 0, ⟨#[]⟩, ⟨#[]⟩, ⟨#[]⟩, 0, 0, [], [], x.row, []⟩) := Lib.hid (by unfold keptB baZero; simp_all)
  unfold KeptB
  generalize keptB x = kx at *
  obtain ⟨xk, xs, xt, xn, xv, xa, xb, xo, xc, xr, xf⟩ := x
  obtain ⟨apo, aco, apc, acc, apr, acr, apf, acf⟩ := a
  clear h
  dsimp only at *
  subst hk
  unfold baArg baCells
  dsimp only
  have H1 := Lib.hid (KbI.start w #[.int .u8 68, .int .u8 xs, .string xt, .string xn, .string xv, .int .i64 xa, .int .i64 xb, .slice apo xo.length aco, .slice apc xc.length acc, .slice apr xr.length acr, .slice apf xf.length acf] #[.int .u8 68, .int .u8 0, .string ⟨#[]⟩, .string ⟨#[]⟩, .string ⟨#[]⟩, .int .i64 0, .int .i64 0, .slice none 0 0, .slice none 0 0, .slice none 0 0, .slice none 0 0])
  unfold baZ at H1
  go_enter Tryz.func63, Tryz.ntmps63
  go_upto_region 2 with (fail)
  generalize ((w.alloc (.cells #[.int .u8 68, .int .u8 xs, .string xt, .string xn, .string xv, .int .i64 xa, .int .i64 xb, .slice apo xo.length aco, .slice apc xc.length acc, .slice apr xr.length acr, .slice apf xf.length acf] 39)).alloc (.cells #[.int .u8 0, .int .u8 0, .string ⟨#[]⟩, .string ⟨#[]⟩, .string ⟨#[]⟩, .int .i64 0, .int .i64 0, .slice none 0 0, .slice none 0 0, .slice none 0 0, .slice none 0 0] 39)).alloc (.cells #[.int .u8 68, .int .u8 0, .string ⟨#[]⟩, .string ⟨#[]⟩, .string ⟨#[]⟩, .int .i64 0, .int .i64 0, .slice none 0 0, .slice none 0 0, .slice none 0 0, .slice none 0 0] 39) = w1 at *
  have c1 := H1.out.b1.cell
  have c3 := H1.out.b3.cell
  have f3 := H1.out.b3.frozen
  go_upto_region 20 with fail
  have h2 := (H1.out.set 9 (.slice apr xr.length acr))
  try simp only [List.setIfInBounds_toArray, List.set_cons_succ, List.set_cons_zero] at h2
  have H2 := Lib.hid h2
  clear h2 c1 c3 f3
  generalize (w1.setCell ⟨w.heap.size + 1 + 1, 9, none⟩ (.slice apr xr.length acr)) = w2 at *
  have c3 := H2.out.b3.cell
  have c2 : ∀ i, w2.cell? ⟨w.heap.size + 1, i, none⟩ = (#[.int .u8 0, .int .u8 0, .string ⟨#[]⟩, .string ⟨#[]⟩, .string ⟨#[]⟩, .int .i64 0, .int .i64 0, .slice none 0 0, .slice none 0 0, .slice none 0 0, .slice none 0 0] : Array Value)[i]? := H2.out.b2.cell
  have f2 := H2.out.b2.frozen
  go_wp2_with fail
  have hT := setEl_touch w2 (w.heap.size + 1) (.int .u8 68) (.int .u8 0) (.string ⟨#[]⟩) (.string ⟨#[]⟩) (.string ⟨#[]⟩) (.int .i64 0) (.int .i64 0) (.slice none 0 0) (.slice none 0 0) (.slice apr xr.length acr) (.slice none 0 0)
  have hbf := setEl_blk (.int .u8 68) (.int .u8 0) (.string ⟨#[]⟩) (.string ⟨#[]⟩) (.string ⟨#[]⟩) (.int .i64 0) (.int .i64 0) (.slice none 0 0) (.slice none 0 0) (.slice apr xr.length acr) (.slice none 0 0) H2.out.b2
  have HB := Lib.hid (H2.out.bel.trans (hT.below H2.out.bel.size (fun k hk => by omega)))
  unfold setEl at hbf HB
  have hcf := hbf.cell
  clear hT hbf c3 c2 f2
  refine bodyPost_ret (v := .agg #[.int .u8 68, .int .u8 0, .string ⟨#[]⟩, .string ⟨#[]⟩, .string ⟨#[]⟩, .int .i64 0, .int .i64 0, .slice none 0 0, .slice none 0 0, .slice apr xr.length acr, .slice none 0 0]) (by simp [results, Tryz.results63, go_sem, hcf]) rfl ?_
  rw [Hk.out]
  exact ⟨⟨none, 0, none, 0, apr, acr, none, 0⟩, rfl, ⟨SliceS.empty none 0 (by simp [maxLen]), SliceS.empty none 0 (by simp [maxLen]), HL.out.lr.below CeS.still HB.out, SliceS.empty none 0 (by simp [maxLen])⟩, HB.out⟩

set_option maxRecDepth 100000 in
set_option maxHeartbeats 4000000 in
theorem bof_T (S : Nat → Prop) (x : BaV) (a : BaP) (w : World) (h : BaL S w x a) (hk : x.kind = 84) : Calls Tryz.prog 63 #[baArg x a] w (KeptB S x w) := by
  have HL := Lib.hid h
  have Hk : Hid (keptB x = ⟨84, 0, ⟨#[]⟩, ⟨#[]⟩, ⟨#[]⟩, 0, 0, [], x.cols, [], []⟩) := Lib.hid (by unfold keptB baZero; simp_all)
  unfold KeptB
  generalize keptB x = kx at *
  obtain ⟨xk, xs, xt, xn, xv, xa, xb, xo, xc, xr, xf⟩ := x
  obtain ⟨apo, aco, apc, acc, apr, acr, apf, acf⟩ := a
  clear h
  dsimp only at *
  subst hk
  unfold baArg baCells
  dsimp only
  have H1 := Lib.hid (KbI.start w #[.int .u8 84, .int .u8 xs, .string xt, .string xn, .string xv, .int .i64 xa, .int .i64 xb, .slice apo xo.length aco, .slice apc xc.length acc, .slice apr xr.length acr, .slice apf xf.length acf] #[.int .u8 84, .int .u8 0, .string ⟨#[]⟩, .string ⟨#[]⟩, .string ⟨#[]⟩, .int .i64 0, .int .i64 0, .slice none 0 0, .slice none 0 0, .slice none 0 0, .slice none 0 0])
  unfold baZ at H1
  go_enter Tryz.func63, Tryz.ntmps63
  go_upto_region 2 with (fail)
  generalize ((w.alloc (.cells #[.int .u8 84, .int .u8 xs, .string xt, .string xn, .string xv, .int .i64 xa, .int .i64 xb, .slice apo xo.length aco, .slice apc xc.length acc, .slice apr xr.length acr, .slice apf xf.length acf] 39)).alloc (.cells #[.int .u8 0, .int .u8 0, .string ⟨#[]⟩, .string ⟨#[]⟩, .string ⟨#[]⟩, .int .i64 0, .int .i64 0, .slice none 0 0, .slice none 0 0, .slice none 0 0, .slice none 0 0] 39)).alloc (.cells #[.int .u8 84, .int .u8 0, .string ⟨#[]⟩, .string ⟨#[]⟩, .string ⟨#[]⟩, .int .i64 0, .int .i64 0, .slice none 0 0, .slice none 0 0, .slice none 0 0, .slice none 0 0] 39) = w1 at *
  have c1 := H1.out.b1.cell
  have c3 := H1.out.b3.cell
  have f3 := H1.out.b3.frozen
  go_upto_region 20 with fail
  have h2 := (H1.out.set 8 (.slice apc xc.length acc))
  try simp only [List.setIfInBounds_toArray, List.set_cons_succ, List.set_cons_zero] at h2
  have H2 := Lib.hid h2
  clear h2 c1 c3 f3
  generalize (w1.setCell ⟨w.heap.size + 1 + 1, 8, none⟩ (.slice apc xc.length acc)) = w2 at *
  have c3 := H2.out.b3.cell
  have c2 : ∀ i, w2.cell? ⟨w.heap.size + 1, i, none⟩ = (#[.int .u8 0, .int .u8 0, .string ⟨#[]⟩, .string ⟨#[]⟩, .string ⟨#[]⟩, .int .i64 0, .int .i64 0, .slice none 0 0, .slice none 0 0, .slice none 0 0, .slice none 0 0] : Array Value)[i]? := H2.out.b2.cell
  have f2 := H2.out.b2.frozen
  go_wp2_with fail
  have hT := setEl_touch w2 (w.heap.size + 1) (.int .u8 84) (.int .u8 0) (.string ⟨#[]⟩) (.string ⟨#[]⟩) (.string ⟨#[]⟩) (.int .i64 0) (.int .i64 0) (.slice none 0 0) (.slice apc xc.length acc) (.slice none 0 0) (.slice none 0 0)
  have hbf := setEl_blk (.int .u8 84) (.int .u8 0) (.string ⟨#[]⟩) (.string ⟨#[]⟩) (.string ⟨#[]⟩) (.int .i64 0) (.int .i64 0) (.slice none 0 0) (.slice apc xc.length acc) (.slice none 0 0) (.slice none 0 0) H2.out.b2
  have HB := Lib.hid (H2.out.bel.trans (hT.below H2.out.bel.size (fun k hk => by omega)))
  unfold setEl at hbf HB
  have hcf := hbf.cell
  clear hT hbf c3 c2 f2
  refine bodyPost_ret (v := .agg #[.int .u8 84, .int .u8 0, .string ⟨#[]⟩, .string ⟨#[]⟩, .string ⟨#[]⟩, .int .i64 0, .int .i64 0, .slice none 0 0, .slice apc xc.length acc, .slice none 0 0, .slice none 0 0]) (by simp [results, Tryz.results63, go_sem, hcf]) rfl ?_
  rw [Hk.out]
  exact ⟨⟨none, 0, apc, acc, none, 0, none, 0⟩, rfl, ⟨SliceS.empty none 0 (by simp [maxLen]), HL.out.lc.below CoS.still HB.out, SliceS.empty none 0 (by simp [maxLen]), SliceS.empty none 0 (by simp [maxLen])⟩, HB.out⟩

set_option maxRecDepth 100000 in
set_option maxHeartbeats 4000000 in
theorem bof_t (S : Nat → Prop) (x : BaV) (a : BaP) (w : World) (h : BaL S w x a) (hk : x.kind = 116) : Calls Tryz.prog 63 #[baArg x a] w (KeptB S x w) := by
  have HL := Lib.hid h
  have Hk : Hid (keptB x = ⟨116, 0, ⟨#[]⟩, ⟨#[]⟩, ⟨#[]⟩, 0, 0, x.oids, [], [], []⟩) := Lib.hid (by unfold keptB baZero; simp_all)
  unfold KeptB
  generalize keptB x = kx at *
  obtain ⟨xk, xs, xt, xn, xv, xa, xb, xo, xc, xr, xf⟩ := x
  obtain ⟨apo, aco, apc, acc, apr, acr, apf, acf⟩ := a
  clear h
  dsimp only at *
  subst hk
  unfold baArg baCells
  dsimp only
  have H1 := Lib.hid (KbI.start w #[.int .u8 116, .int .u8 xs, .string xt, .string xn, .string xv, .int .i64 xa, .int .i64 xb, .slice apo xo.length aco, .slice apc xc.length acc, .slice apr xr.length acr, .slice apf xf.length acf] #[.int .u8 116, .int .u8 0, .string ⟨#[]⟩, .string ⟨#[]⟩, .string ⟨#[]⟩, .int .i64 0, .int .i64 0, .slice none 0 0, .slice none 0 0, .slice none 0 0, .slice none 0 0])
  unfold baZ at H1
  go_enter Tryz.func63, Tryz.ntmps63
  go_upto_region 2 with (fail)
  generalize ((w.alloc (.cells #[.int .u8 116, .int .u8 xs, .string xt, .string xn, .string xv, .int .i64 xa, .int .i64 xb, .slice apo xo.length aco, .slice apc xc.length acc, .slice apr xr.length acr, .slice apf xf.length acf] 39)).alloc (.cells #[.int .u8 0, .int .u8 0, .string ⟨#[]⟩, .string ⟨#[]⟩, .string ⟨#[]⟩, .int .i64 0, .int .i64 0, .slice none 0 0, .slice none 0 0, .slice none 0 0, .slice none 0 0] 39)).alloc (.cells #[.int .u8 116, .int .u8 0, .string ⟨#[]⟩, .string ⟨#[]⟩, .string ⟨#[]⟩, .int .i64 0, .int .i64 0, .slice none 0 0, .slice none 0 0, .slice none 0 0, .slice none 0 0] 39) = w1 at *
  have c1 := H1.out.b1.cell
  have c3 := H1.out.b3.cell
  have f3 := H1.out.b3.frozen
  go_upto_region 20 with fail
  have h2 := (H1.out.set 7 (.slice apo xo.length aco))
  try simp only [List.setIfInBounds_toArray, List.set_cons_succ, List.set_cons_zero] at h2
  have H2 := Lib.hid h2
  clear h2 c1 c3 f3
  generalize (w1.setCell ⟨w.heap.size + 1 + 1, 7, none⟩ (.slice apo xo.length aco)) = w2 at *
  have c3 := H2.out.b3.cell
  have c2 : ∀ i, w2.cell? ⟨w.heap.size + 1, i, none⟩ = (#[.int .u8 0, .int .u8 0, .string ⟨#[]⟩, .string ⟨#[]⟩, .string ⟨#[]⟩, .int .i64 0, .int .i64 0, .slice none 0 0, .slice none 0 0, .slice none 0 0, .slice none 0 0] : Array Value)[i]? := H2.out.b2.cell
  have f2 := H2.out.b2.frozen
  go_wp2_with fail
  have hT := setEl_touch w2 (w.heap.size + 1) (.int .u8 116) (.int .u8 0) (.string ⟨#[]⟩) (.string ⟨#[]⟩) (.string ⟨#[]⟩) (.int .i64 0) (.int .i64 0) (.slice apo xo.length aco) (.slice none 0 0) (.slice none 0 0) (.slice none 0 0)
  have hbf := setEl_blk (.int .u8 116) (.int .u8 0) (.string ⟨#[]⟩) (.string ⟨#[]⟩) (.string ⟨#[]⟩) (.int .i64 0) (.int .i64 0) (.slice apo xo.length aco) (.slice none 0 0) (.slice none 0 0) (.slice none 0 0) H2.out.b2
  have HB := Lib.hid (H2.out.bel.trans (hT.below H2.out.bel.size (fun k hk => by omega)))
  unfold setEl at hbf HB
  have hcf := hbf.cell
  clear hT hbf c3 c2 f2
  refine bodyPost_ret (v := .agg #[.int .u8 116, .int .u8 0, .string ⟨#[]⟩, .string ⟨#[]⟩, .string ⟨#[]⟩, .int .i64 0, .int .i64 0, .slice apo xo.length aco, .slice none 0 0, .slice none 0 0, .slice none 0 0]) (by simp [results, Tryz.results63, go_sem, hcf]) rfl ?_
  rw [Hk.out]
  exact ⟨⟨apo, aco, none, 0, none, 0, none, 0⟩, rfl, ⟨HL.out.lo.below IntU.still HB.out, SliceS.empty none 0 (by simp [maxLen]), SliceS.empty none 0 (by simp [maxLen]), SliceS.empty none 0 (by simp [maxLen])⟩, HB.out⟩

set_option maxRecDepth 100000 in
set_option maxHeartbeats 4000000 in
theorem bof_E (S : Nat → Prop) (x : BaV) (a : BaP) (w : World) (h : BaL S w x a) (hk : x.kind = 69) : Calls Tryz.prog 63 #[baArg x a] w (KeptB S x w) := by
  have HL := Lib.hid h
  have Hk : Hid (keptB x = ⟨69, 0, ⟨#[]⟩, ⟨#[]⟩, ⟨#[]⟩, 0, 0, [], [], [], x.fields⟩) := Lib.hid (by unfold keptB baZero; simp_all)
  unfold KeptB
  generalize keptB x = kx at *
  obtain ⟨xk, xs, xt, xn, xv, xa, xb, xo, xc, xr, xf⟩ := x
  obtain ⟨apo, aco, apc, acc, apr, acr, apf, acf⟩ := a
  clear h
  dsimp only at *
  subst hk
  unfold baArg baCells
  dsimp only
  have H1 := Lib.hid (KbI.start w #[.int .u8 69, .int .u8 xs, .string xt, .string xn, .string xv, .int .i64 xa, .int .i64 xb, .slice apo xo.length aco, .slice apc xc.length acc, .slice apr xr.length acr, .slice apf xf.length acf] #[.int .u8 69, .int .u8 0, .string ⟨#[]⟩, .string ⟨#[]⟩, .string ⟨#[]⟩, .int .i64 0, .int .i64 0, .slice none 0 0, .slice none 0 0, .slice none 0 0, .slice none 0 0])
  unfold baZ at H1
  go_enter Tryz.func63, Tryz.ntmps63
  go_upto_region 2 with (fail)
  generalize ((w.alloc (.cells #[.int .u8 69, .int .u8 xs, .string xt, .string xn, .string xv, .int .i64 xa, .int .i64 xb, .slice apo xo.length aco, .slice apc xc.length acc, .slice apr xr.length acr, .slice apf xf.length acf] 39)).alloc (.cells #[.int .u8 0, .int .u8 0, .string ⟨#[]⟩, .string ⟨#[]⟩, .string ⟨#[]⟩, .int .i64 0, .int .i64 0, .slice none 0 0, .slice none 0 0, .slice none 0 0, .slice none 0 0] 39)).alloc (.cells #[.int .u8 69, .int .u8 0, .string ⟨#[]⟩, .string ⟨#[]⟩, .string ⟨#[]⟩, .int .i64 0, .int .i64 0, .slice none 0 0, .slice none 0 0, .slice none 0 0, .slice none 0 0] 39) = w1 at *
  have c1 := H1.out.b1.cell
  have c3 := H1.out.b3.cell
  have f3 := H1.out.b3.frozen
  go_upto_region 20 with fail
  have h2 := (H1.out.set 10 (.slice apf xf.length acf))
  try simp only [List.setIfInBounds_toArray, List.set_cons_succ, List.set_cons_zero] at h2
  have H2 := Lib.hid h2
  clear h2 c1 c3 f3
  generalize (w1.setCell ⟨w.heap.size + 1 + 1, 10, none⟩ (.slice apf xf.length acf)) = w2 at *
  have c3 := H2.out.b3.cell
  have c2 : ∀ i, w2.cell? ⟨w.heap.size + 1, i, none⟩ = (#[.int .u8 0, .int .u8 0, .string ⟨#[]⟩, .string ⟨#[]⟩, .string ⟨#[]⟩, .int .i64 0, .int .i64 0, .slice none 0 0, .slice none 0 0, .slice none 0 0, .slice none 0 0] : Array Value)[i]? := H2.out.b2.cell
  have f2 := H2.out.b2.frozen
  go_wp2_with fail
  have hT := setEl_touch w2 (w.heap.size + 1) (.int .u8 69) (.int .u8 0) (.string ⟨#[]⟩) (.string ⟨#[]⟩) (.string ⟨#[]⟩) (.int .i64 0) (.int .i64 0) (.slice none 0 0) (.slice none 0 0) (.slice none 0 0) (.slice apf xf.length acf)
  have hbf := setEl_blk (.int .u8 69) (.int .u8 0) (.string ⟨#[]⟩) (.string ⟨#[]⟩) (.string ⟨#[]⟩) (.int .i64 0) (.int .i64 0) (.slice none 0 0) (.slice none 0 0) (.slice none 0 0) (.slice apf xf.length acf) H2.out.b2
  have HB := Lib.hid (H2.out.bel.trans (hT.below H2.out.bel.size (fun k hk => by omega)))
  unfold setEl at hbf HB
  have hcf := hbf.cell
  clear hT hbf c3 c2 f2
  refine bodyPost_ret (v := .agg #[.int .u8 69, .int .u8 0, .string ⟨#[]⟩, .string ⟨#[]⟩, .string ⟨#[]⟩, .int .i64 0, .int .i64 0, .slice none 0 0, .slice none 0 0, .slice none 0 0, .slice apf xf.length acf]) (by simp [results, Tryz.results63, go_sem, hcf]) rfl ?_
  rw [Hk.out]
  exact ⟨⟨none, 0, none, 0, none, 0, apf, acf⟩, rfl, ⟨SliceS.empty none 0 (by simp [maxLen]), SliceS.empty none 0 (by simp [maxLen]), SliceS.empty none 0 (by simp [maxLen]), HL.out.lf.below FdS.still HB.out⟩, HB.out⟩

set_option maxRecDepth 100000 in
set_option maxHeartbeats 4000000 in
theorem bof_N (S : Nat → Prop) (x : BaV) (a : BaP) (w : World) (h : BaL S w x a) (hk : x.kind = 78) : Calls Tryz.prog 63 #[baArg x a] w (KeptB S x w) := by
  have HL := Lib.hid h
  have Hk : Hid (keptB x = ⟨78, 0, ⟨#[]⟩, ⟨#[]⟩, ⟨#[]⟩, 0, 0, [], [], [], x.fields⟩) := Lib.hid (by unfold keptB baZero; simp_all)
  unfold KeptB
  generalize keptB x = kx at *
  obtain ⟨xk, xs, xt, xn, xv, xa, xb, xo, xc, xr, xf⟩ := x
  obtain ⟨apo, aco, apc, acc, apr, acr, apf, acf⟩ := a
  clear h
  dsimp only at *
  subst hk
  unfold baArg baCells
  dsimp only
  have H1 := Lib.hid (KbI.start w #[.int .u8 78, .int .u8 xs, .string xt, .string xn, .string xv, .int .i64 xa, .int .i64 xb, .slice apo xo.length aco, .slice apc xc.length acc, .slice apr xr.length acr, .slice apf xf.length acf] #[.int .u8 78, .int .u8 0, .string ⟨#[]⟩, .string ⟨#[]⟩, .string ⟨#[]⟩, .int .i64 0, .int .i64 0, .slice none 0 0, .slice none 0 0, .slice none 0 0, .slice none 0 0])
  unfold baZ at H1
  go_enter Tryz.func63, Tryz.ntmps63
  go_upto_region 2 with (fail)
  generalize ((w.alloc (.cells #[.int .u8 78, .int .u8 xs, .string xt, .string xn, .string xv, .int .i64 xa, .int .i64 xb, .slice apo xo.length aco, .slice apc xc.length acc, .slice apr xr.length acr, .slice apf xf.length acf] 39)).alloc (.cells #[.int .u8 0, .int .u8 0, .string ⟨#[]⟩, .string ⟨#[]⟩, .string ⟨#[]⟩, .int .i64 0, .int .i64 0, .slice none 0 0, .slice none 0 0, .slice none 0 0, .slice none 0 0] 39)).alloc (.cells #[.int .u8 78, .int .u8 0, .string ⟨#[]⟩, .string ⟨#[]⟩, .string ⟨#[]⟩, .int .i64 0, .int .i64 0, .slice none 0 0, .slice none 0 0, .slice none 0 0, .slice none 0 0] 39) = w1 at *
  have c1 := H1.out.b1.cell
  have c3 := H1.out.b3.cell
  have f3 := H1.out.b3.frozen
  go_upto_region 20 with fail
  have h2 := (H1.out.set 10 (.slice apf xf.length acf))
  try simp only [List.setIfInBounds_toArray, List.set_cons_succ, List.set_cons_zero] at h2
  have H2 := Lib.hid h2
  clear h2 c1 c3 f3
  generalize (w1.setCell ⟨w.heap.size + 1 + 1, 10, none⟩ (.slice apf xf.length acf)) = w2 at *
  have c3 := H2.out.b3.cell
  have c2 : ∀ i, w2.cell? ⟨w.heap.size + 1, i, none⟩ = (#[.int .u8 0, .int .u8 0, .string ⟨#[]⟩, .string ⟨#[]⟩, .string ⟨#[]⟩, .int .i64 0, .int .i64 0, .slice none 0 0, .slice none 0 0, .slice none 0 0, .slice none 0 0] : Array Value)[i]? := H2.out.b2.cell
  have f2 := H2.out.b2.frozen
  go_wp2_with fail
  have hT := setEl_touch w2 (w.heap.size + 1) (.int .u8 78) (.int .u8 0) (.string ⟨#[]⟩) (.string ⟨#[]⟩) (.string ⟨#[]⟩) (.int .i64 0) (.int .i64 0) (.slice none 0 0) (.slice none 0 0) (.slice none 0 0) (.slice apf xf.length acf)
  have hbf := setEl_blk (.int .u8 78) (.int .u8 0) (.string ⟨#[]⟩) (.string ⟨#[]⟩) (.string ⟨#[]⟩) (.int .i64 0) (.int .i64 0) (.slice none 0 0) (.slice none 0 0) (.slice none 0 0) (.slice apf xf.length acf) H2.out.b2
  have HB := Lib.hid (H2.out.bel.trans (hT.below H2.out.bel.size (fun k hk => by omega)))
  unfold setEl at hbf HB
  have hcf := hbf.cell
  clear hT hbf c3 c2 f2
  refine bodyPost_ret (v := .agg #[.int .u8 78, .int .u8 0, .string ⟨#[]⟩, .string ⟨#[]⟩, .string ⟨#[]⟩, .int .i64 0, .int .i64 0, .slice none 0 0, .slice none 0 0, .slice none 0 0, .slice apf xf.length acf]) (by simp [results, Tryz.results63, go_sem, hcf]) rfl ?_
  rw [Hk.out]
  exact ⟨⟨none, 0, none, 0, none, 0, apf, acf⟩, rfl, ⟨SliceS.empty none 0 (by simp [maxLen]), SliceS.empty none 0 (by simp [maxLen]), SliceS.empty none 0 (by simp [maxLen]), HL.out.lf.below FdS.still HB.out⟩, HB.out⟩

set_option maxRecDepth 100000 in
set_option maxHeartbeats 4000000 in
theorem bof_O (S : Nat → Prop) (x : BaV) (a : BaP) (w : World) (h : BaL S w x a) (hk : ∀ n ∈ [83, 75, 90, 67, 68, 84, 116, 69, 78], (x.kind == n) = false) : Calls Tryz.prog 63 #[baArg x a] w (KeptB S x w) := by
  have HL := Lib.hid h
  have g0 := hk 83 (by simp)
  have g1 := hk 75 (by simp)
  have g2 := hk 90 (by simp)
  have g3 := hk 67 (by simp)
  have g4 := hk 68 (by simp)
  have g5 := hk 84 (by simp)
  have g6 := hk 116 (by simp)
  have g7 := hk 69 (by simp)
  have g8 := hk 78 (by simp)
  have Hk : Hid (keptB x = ⟨x.kind, 0, ⟨#[]⟩, ⟨#[]⟩, ⟨#[]⟩, 0, 0, [], [], [], []⟩) := Lib.hid (by unfold keptB baZero; simp_all)
  unfold KeptB
  generalize keptB x = kx at *
  obtain ⟨xk, xs, xt, xn, xv, xa, xb, xo, xc, xr, xf⟩ := x
  obtain ⟨apo, aco, apc, acc, apr, acr, apf, acf⟩ := a
  clear h
  dsimp only at *
  clear hk
  unfold baArg baCells
  dsimp only
  have H1 := Lib.hid (KbI.start w #[.int .u8 xk, .int .u8 xs, .string xt, .string xn, .string xv, .int .i64 xa, .int .i64 xb, .slice apo xo.length aco, .slice apc xc.length acc, .slice apr xr.length acr, .slice apf xf.length acf] #[.int .u8 xk, .int .u8 0, .string ⟨#[]⟩, .string ⟨#[]⟩, .string ⟨#[]⟩, .int .i64 0, .int .i64 0, .slice none 0 0, .slice none 0 0, .slice none 0 0, .slice none 0 0])
  unfold baZ at H1
  go_enter Tryz.func63, Tryz.ntmps63
  go_upto_region 2 with (fail)
  generalize ((w.alloc (.cells #[.int .u8 xk, .int .u8 xs, .string xt, .string xn, .string xv, .int .i64 xa, .int .i64 xb, .slice apo xo.length aco, .slice apc xc.length acc, .slice apr xr.length acr, .slice apf xf.length acf] 39)).alloc (.cells #[.int .u8 0, .int .u8 0, .string ⟨#[]⟩, .string ⟨#[]⟩, .string ⟨#[]⟩, .int .i64 0, .int .i64 0, .slice none 0 0, .slice none 0 0, .slice none 0 0, .slice none 0 0] 39)).alloc (.cells #[.int .u8 xk, .int .u8 0, .string ⟨#[]⟩, .string ⟨#[]⟩, .string ⟨#[]⟩, .int .i64 0, .int .i64 0, .slice none 0 0, .slice none 0 0, .slice none 0 0, .slice none 0 0] 39) = w1 at *
  have c1 := H1.out.b1.cell
  have c3 := H1.out.b3.cell
  have f3 := H1.out.b3.frozen
  go_upto_region 20 with fail
  have h2 := H1.out
  try simp only [List.setIfInBounds_toArray, List.set_cons_succ, List.set_cons_zero] at h2
  have H2 := Lib.hid h2
  clear h2 c1 c3 f3
  generalize w1 = w2 at *
  have c3 := H2.out.b3.cell
  have c2 : ∀ i, w2.cell? ⟨w.heap.size + 1, i, none⟩ = (#[.int .u8 0, .int .u8 0, .string ⟨#[]⟩, .string ⟨#[]⟩, .string ⟨#[]⟩, .int .i64 0, .int .i64 0, .slice none 0 0, .slice none 0 0, .slice none 0 0, .slice none 0 0] : Array Value)[i]? := H2.out.b2.cell
  have f2 := H2.out.b2.frozen
  go_wp2_with fail
  have hT := setEl_touch w2 (w.heap.size + 1) (.int .u8 xk) (.int .u8 0) (.string ⟨#[]⟩) (.string ⟨#[]⟩) (.string ⟨#[]⟩) (.int .i64 0) (.int .i64 0) (.slice none 0 0) (.slice none 0 0) (.slice none 0 0) (.slice none 0 0)
  have hbf := setEl_blk (.int .u8 xk) (.int .u8 0) (.string ⟨#[]⟩) (.string ⟨#[]⟩) (.string ⟨#[]⟩) (.int .i64 0) (.int .i64 0) (.slice none 0 0) (.slice none 0 0) (.slice none 0 0) (.slice none 0 0) H2.out.b2
  have HB := Lib.hid (H2.out.bel.trans (hT.below H2.out.bel.size (fun k hk => by omega)))
  unfold setEl at hbf HB
  have hcf := hbf.cell
  clear hT hbf c3 c2 f2
  refine bodyPost_ret (v := .agg #[.int .u8 xk, .int .u8 0, .string ⟨#[]⟩, .string ⟨#[]⟩, .string ⟨#[]⟩, .int .i64 0, .int .i64 0, .slice none 0 0, .slice none 0 0, .slice none 0 0, .slice none 0 0]) (by simp [results, Tryz.results63, go_sem, hcf]) rfl ?_
  rw [Hk.out]
  exact ⟨⟨none, 0, none, 0, none, 0, none, 0⟩, rfl, ⟨SliceS.empty none 0 (by simp [maxLen]), SliceS.empty none 0 (by simp [maxLen]), SliceS.empty none 0 (by simp [maxLen]), SliceS.empty none 0 (by simp [maxLen])⟩, HB.out⟩

theorem bof_any (S : Nat → Prop) (x : BaV) (a : BaP) (w : World) (h : BaL S w x a) : Calls Tryz.prog 63 #[baArg x a] w (KeptB S x w) := by
  rcases kindB_cases x.kind with hk | hk | hk | hk | hk | hk | hk | hk | hk | hk
  · exact bof_S S x a w h hk
  · exact bof_K S x a w h hk
  · exact bof_Z S x a w h hk
  · exact bof_C S x a w h hk
  · exact bof_D S x a w h hk
  · exact bof_T S x a w h hk
  · exact bof_t S x a w h hk
  · exact bof_E S x a w h hk
  · exact bof_N S x a w h hk
  · exact bof_O S x a w h hk

end Go.Proofs.YthhebfknikfleaaGreat

/-
  Messages of servers (layer 7): columns and fields compared.
-/
namespace Go.Proofs.YthhebfknikfleaaGreat
open Go.RowKit
set_option linter.unusedVariables false
set_option linter.unusedSimpArgs false

theorem neq_co (x y : CoV) (w : World) : (binOp .neq 79 (.agg #[.string x.name, .int .i64 x.table, .int .i64 x.attr, .int .i64 x.oid, .int .i64 x.size, .int .i64 x.mod, .int .i64 x.format]) (.agg #[.string y.name, .int .i64 y.table, .int .i64 y.attr, .int .i64 y.oid, .int .i64 y.size, .int .i64 y.mod, .int .i64 y.format])).run Tryz.prog w = .ok (.bool (!coEq x y)) w := by
  have hS : Tryz.prog.underlying 79 = some (.struct (Tryz.prog.fieldsOf 79)) := by kernel_rfl
  have hp : Tryz.prog.stoodInHeld 79 = false := by kernel_rfl
  have u0 := Tryz.underlying3
  have a0 := Tryz.isAgg3
  have z0 := Tryz.sizeOf3
  have u1 := Tryz.underlying9
  have a1 := Tryz.isAgg9
  have z1 := Tryz.sizeOf9
  rw [run_neq_struct, show (10000 : Nat) = 9999 + 1 from rfl, run_equalIn_agg w 9999 79 _ _ hS hp]
  simp only [Program.fieldsOf, Tryz.underlying79]
  unfold coEq
  obtain ⟨x0, x1, x2, x3, x4, x5, x6⟩ := x
  obtain ⟨y0, y1, y2, y3, y4, y5, y6⟩ := y
  go_simp
  by_cases h0 : x0.toList = y0.toList
  case neg => simp [h0]
  by_cases h1 : x1 = y1
  case neg => simp [h0, h1]
  by_cases h2 : x2 = y2
  case neg => simp [h0, h1, h2]
  by_cases h3 : x3 = y3
  case neg => simp [h0, h1, h2, h3]
  by_cases h4 : x4 = y4
  case neg => simp [h0, h1, h2, h3, h4]
  by_cases h5 : x5 = y5
  case neg => simp [h0, h1, h2, h3, h4, h5]
  by_cases h6 : x6 = y6
  case neg => simp [h0, h1, h2, h3, h4, h5, h6]
  simp [h0, h1, h2, h3, h4, h5, h6]

theorem neq_fd (x y : FdV) (w : World) : (binOp .neq 87 (.agg #[.int .u8 x.code, .string x.text]) (.agg #[.int .u8 y.code, .string y.text])).run Tryz.prog w = .ok (.bool (!fdEq x y)) w := by
  have hS : Tryz.prog.underlying 87 = some (.struct (Tryz.prog.fieldsOf 87)) := by kernel_rfl
  have hp : Tryz.prog.stoodInHeld 87 = false := by kernel_rfl
  have u0 := Tryz.underlying9
  have a0 := Tryz.isAgg9
  have z0 := Tryz.sizeOf9
  have u1 := Tryz.underlying5
  have a1 := Tryz.isAgg5
  have z1 := Tryz.sizeOf5
  rw [run_neq_struct, show (10000 : Nat) = 9999 + 1 from rfl, run_equalIn_agg w 9999 87 _ _ hS hp]
  simp only [Program.fieldsOf, Tryz.underlying87]
  unfold fdEq
  obtain ⟨x0, x1⟩ := x
  obtain ⟨y0, y1⟩ := y
  go_simp
  by_cases h0 : x0 = y0
  case neg => simp [h0]
  by_cases h1 : x1.toList = y1.toList
  case neg => simp [h0, h1]
  simp [h0, h1]

set_option maxRecDepth 100000 in
set_option maxHeartbeats 4000000 in
/-- slices.Equal at remuda/api.Col. -/
theorem equal_cols (S S' : Nat → Prop) (p q : Option Addr) (n m c d : Nat) (xs ys : List CoV) (w : World) (hx : SliceS 7 CoS S w [.slice p n c] xs) (hy : SliceS 7 CoS S' w [.slice q m d] ys) :
    Calls Tryz.prog 73 #[.slice p n c, .slice q m d] w fun e w' => e = .returned (.bool (listEq coEq xs ys)) ∧ ∃ r, w' = w.drewN r := by
  have Hx := Lib.hid hx
  have Hy := Lib.hid hy
  obtain ⟨rfl, hlc, hcm⟩ := hx.len
  obtain ⟨rfl, hld, hdm⟩ := hy.len
  unfold maxLen at hcm hdm
  clear hx hy
  by_cases hnm : xs.length = ys.length
  · have Hnm := Lib.hid hnm
    rw [← hnm] at hld ⊢
    clear hnm
    go_enter Tryz.func73, Tryz.ntmps73
    go_wp2_with fail
    go_loopw [5, 13] (fun _ i wr => ∃ k r : Nat, k ≤ xs.length ∧ i = .int .i64 k ∧ wr = w.drewN r ∧ listEq coEq xs ys = listEq coEq (xs.drop k) (ys.drop k)) (fun _ i _ => xs.length - (intOf i).toNat)
    case atStart => exact ⟨0, 0, Nat.zero_le _, rfl, rfl, rfl⟩
    case round =>
      obtain ⟨k, r, hk, rfl, rfl, he⟩ := hrel
      have He := Lib.hid he
      clear he
      by_cases hlt : k < xs.length
      · have hlt' : k < ys.length := by rw [← Hnm.out]; exact hlt
        obtain ⟨b, o, cs, rfl, _, hbl, _, hc, hr⟩ := Hx.out.elem (by omega) k xs[k] (List.getElem?_eq_getElem hlt)
        obtain ⟨b', o', cs', rfl, _, hbl', _, hc', hr'⟩ := Hy.out.elem (by omega) k ys[k] (List.getElem?_eq_getElem hlt')
        obtain ⟨rfl, hq1⟩ := hr
        obtain ⟨rfl, hq2⟩ := hr'
        clear hq1 hq2
        have c0 : (w.drewN r).cell? _ = _ := hc 0 _ rfl
        have e0 : (w.drewN r).cell? _ = _ := hc' 0 _ rfl
        have c1 : (w.drewN r).cell? _ = _ := hc 1 _ rfl
        have e1 : (w.drewN r).cell? _ = _ := hc' 1 _ rfl
        have c2 : (w.drewN r).cell? _ = _ := hc 2 _ rfl
        have e2 : (w.drewN r).cell? _ = _ := hc' 2 _ rfl
        have c3 : (w.drewN r).cell? _ = _ := hc 3 _ rfl
        have e3 : (w.drewN r).cell? _ = _ := hc' 3 _ rfl
        have c4 : (w.drewN r).cell? _ = _ := hc 4 _ rfl
        have e4 : (w.drewN r).cell? _ = _ := hc' 4 _ rfl
        have c5 : (w.drewN r).cell? _ = _ := hc 5 _ rfl
        have e5 : (w.drewN r).cell? _ = _ := hc' 5 _ rfl
        have c6 : (w.drewN r).cell? _ = _ := hc 6 _ rfl
        have e6 : (w.drewN r).cell? _ = _ := hc' 6 _ rfl
        rw [Nat.add_zero] at c0 e0
        have Hst := Lib.hid (listEq_step (f := coEq) hlt hlt')
        clear hc hc' hbl hbl'
        generalize hX : xs[k] = x at *
        generalize hY : ys[k] = y at *
        clear hX hY hlt'
        obtain ⟨wq, hwq⟩ : ∃ wq, wq = w.drewN r := ⟨_, rfl⟩
        rw [← hwq] at c0 e0 c1 e1 c2 e2 c3 e3 c4 e4 c5 e5 c6 e6 ⊢
        have Hwq := Lib.hid hwq
        clear hwq
        have hlti : (k : Int) < (xs.length : Int) := by omega
        have hgd : ∀ (op : BinOp) (a b : Operand) (xs ys : Array Value) (w0 : World), (eqGuard op 79 a b (.agg xs) (.agg ys)).run Tryz.prog w0 = .ok () w0 := fun op a b xs ys w0 => run_eqGuard_agg w0 op 79 a b xs ys (by kernel_rfl)
        cases hxy : coEq x y with
        | true =>
          rw [hxy, Bool.true_and] at Hst
          have hq := fun w0 => neq_co x y w0
          rw [hxy, Bool.not_true] at hq
          clear hxy
          obtain ⟨x0, x1, x2, x3, x4, x5, x6⟩ := x
          obtain ⟨y0, y1, y2, y3, y4, y5, y6⟩ := y
          dsimp only at c0 e0 c1 e1 c2 e2 c3 e3 c4 e4 c5 e5 c6 e6 hq
          go_wp2_with fail
          go_region
          all_goals
            go_wp2_with fail
            go_roundw
            case rel => exact ⟨k + 1, r + 1, by omega, by go_num, by rw [Hwq.out]; rfl, He.out.trans Hst.out⟩
            case measure => simp [intOf]; omega
        | false =>
          rw [hxy, Bool.false_and] at Hst
          have hq := fun w0 => neq_co x y w0
          rw [hxy, Bool.not_false] at hq
          clear hxy
          obtain ⟨x0, x1, x2, x3, x4, x5, x6⟩ := x
          obtain ⟨y0, y1, y2, y3, y4, y5, y6⟩ := y
          dsimp only at c0 e0 c1 e1 c2 e2 c3 e3 c4 e4 c5 e5 c6 e6 hq
          have Hfin := Lib.hid (He.out.trans Hst.out)
          go_wp2_with fail
          go_region
          all_goals
            go_wp2_with fail
            go_ret
            exact ⟨ret_bool Hfin.out.symm, r + 1, by rw [Hwq.out]; rfl⟩
      · obtain rfl : k = xs.length := by omega
        have Hfin := Lib.hid (He.out.trans (listEq_end Hnm.out))
        go_wp2
        go_ret
        exact ⟨ret_bool Hfin.out.symm, r, rfl⟩
  · have Hfin := Lib.hid (listEq_len (f := coEq) hnm)
    have hnmi : ¬ (xs.length : Int) = (ys.length : Int) := by omega
    go_enter Tryz.func73, Tryz.ntmps73
    go_wp2
    go_ret
    exact ⟨ret_bool Hfin.out.symm, 0, rfl⟩

set_option maxRecDepth 100000 in
set_option maxHeartbeats 4000000 in
/-- slices.Equal at remuda/api.Field. -/
theorem equal_fields (S S' : Nat → Prop) (p q : Option Addr) (n m c d : Nat) (xs ys : List FdV) (w : World) (hx : SliceS 2 FdS S w [.slice p n c] xs) (hy : SliceS 2 FdS S' w [.slice q m d] ys) :
    Calls Tryz.prog 74 #[.slice p n c, .slice q m d] w fun e w' => e = .returned (.bool (listEq fdEq xs ys)) ∧ ∃ r, w' = w.drewN r := by
  have Hx := Lib.hid hx
  have Hy := Lib.hid hy
  obtain ⟨rfl, hlc, hcm⟩ := hx.len
  obtain ⟨rfl, hld, hdm⟩ := hy.len
  unfold maxLen at hcm hdm
  clear hx hy
  by_cases hnm : xs.length = ys.length
  · have Hnm := Lib.hid hnm
    rw [← hnm] at hld ⊢
    clear hnm
    go_enter Tryz.func74, Tryz.ntmps74
    go_wp2_with fail
    go_loopw [5, 13] (fun _ i wr => ∃ k r : Nat, k ≤ xs.length ∧ i = .int .i64 k ∧ wr = w.drewN r ∧ listEq fdEq xs ys = listEq fdEq (xs.drop k) (ys.drop k)) (fun _ i _ => xs.length - (intOf i).toNat)
    case atStart => exact ⟨0, 0, Nat.zero_le _, rfl, rfl, rfl⟩
    case round =>
      obtain ⟨k, r, hk, rfl, rfl, he⟩ := hrel
      have He := Lib.hid he
      clear he
      by_cases hlt : k < xs.length
      · have hlt' : k < ys.length := by rw [← Hnm.out]; exact hlt
        obtain ⟨b, o, cs, rfl, _, hbl, _, hc, hr⟩ := Hx.out.elem (by omega) k xs[k] (List.getElem?_eq_getElem hlt)
        obtain ⟨b', o', cs', rfl, _, hbl', _, hc', hr'⟩ := Hy.out.elem (by omega) k ys[k] (List.getElem?_eq_getElem hlt')
        obtain ⟨rfl, hq1⟩ := hr
        obtain ⟨rfl, hq2⟩ := hr'
        clear hq1 hq2
        have c0 : (w.drewN r).cell? _ = _ := hc 0 _ rfl
        have e0 : (w.drewN r).cell? _ = _ := hc' 0 _ rfl
        have c1 : (w.drewN r).cell? _ = _ := hc 1 _ rfl
        have e1 : (w.drewN r).cell? _ = _ := hc' 1 _ rfl
        rw [Nat.add_zero] at c0 e0
        have Hst := Lib.hid (listEq_step (f := fdEq) hlt hlt')
        clear hc hc' hbl hbl'
        generalize hX : xs[k] = x at *
        generalize hY : ys[k] = y at *
        clear hX hY hlt'
        obtain ⟨wq, hwq⟩ : ∃ wq, wq = w.drewN r := ⟨_, rfl⟩
        rw [← hwq] at c0 e0 c1 e1 ⊢
        have Hwq := Lib.hid hwq
        clear hwq
        have hlti : (k : Int) < (xs.length : Int) := by omega
        have hgd : ∀ (op : BinOp) (a b : Operand) (xs ys : Array Value) (w0 : World), (eqGuard op 87 a b (.agg xs) (.agg ys)).run Tryz.prog w0 = .ok () w0 := fun op a b xs ys w0 => run_eqGuard_agg w0 op 87 a b xs ys (by kernel_rfl)
        cases hxy : fdEq x y with
        | true =>
          rw [hxy, Bool.true_and] at Hst
          have hq := fun w0 => neq_fd x y w0
          rw [hxy, Bool.not_true] at hq
          clear hxy
          obtain ⟨x0, x1⟩ := x
          obtain ⟨y0, y1⟩ := y
          dsimp only at c0 e0 c1 e1 hq
          go_wp2_with fail
          go_region
          all_goals
            go_wp2_with fail
            go_roundw
            case rel => exact ⟨k + 1, r + 1, by omega, by go_num, by rw [Hwq.out]; rfl, He.out.trans Hst.out⟩
            case measure => simp [intOf]; omega
        | false =>
          rw [hxy, Bool.false_and] at Hst
          have hq := fun w0 => neq_fd x y w0
          rw [hxy, Bool.not_false] at hq
          clear hxy
          obtain ⟨x0, x1⟩ := x
          obtain ⟨y0, y1⟩ := y
          dsimp only at c0 e0 c1 e1 hq
          have Hfin := Lib.hid (He.out.trans Hst.out)
          go_wp2_with fail
          go_region
          all_goals
            go_wp2_with fail
            go_ret
            exact ⟨ret_bool Hfin.out.symm, r + 1, by rw [Hwq.out]; rfl⟩
      · obtain rfl : k = xs.length := by omega
        have Hfin := Lib.hid (He.out.trans (listEq_end Hnm.out))
        go_wp2
        go_ret
        exact ⟨ret_bool Hfin.out.symm, r, rfl⟩
  · have Hfin := Lib.hid (listEq_len (f := fdEq) hnm)
    have hnmi : ¬ (xs.length : Int) = (ys.length : Int) := by omega
    go_enter Tryz.func74, Tryz.ntmps74
    go_wp2
    go_ret
    exact ⟨ret_bool Hfin.out.symm, 0, rfl⟩

theorem eqCols_any (S S' : Nat → Prop) (p q : Option Addr) (n m c d : Nat) (xs ys : List CoV) (w : World) (hx : SliceS 7 CoS S w [.slice p n c] xs) (hy : SliceS 7 CoS S' w [.slice q m d] ys) :
    Calls Tryz.prog 73 #[.slice p n c, .slice q m d] w fun e w' => e = .returned (.bool (listEq coEq xs ys)) ∧ Below w.heap.size w w' :=
  (equal_cols S S' p q n m c d xs ys w hx hy).mono fun e w' h => ⟨h.1, by obtain ⟨r, hr⟩ := h.2; rw [hr]; exact bel_drawN w r⟩

theorem eqFields_any (S S' : Nat → Prop) (p q : Option Addr) (n m c d : Nat) (xs ys : List FdV) (w : World) (hx : SliceS 2 FdS S w [.slice p n c] xs) (hy : SliceS 2 FdS S' w [.slice q m d] ys) :
    Calls Tryz.prog 74 #[.slice p n c, .slice q m d] w fun e w' => e = .returned (.bool (listEq fdEq xs ys)) ∧ Below w.heap.size w w' :=
  (equal_fields S S' p q n m c d xs ys w hx hy).mono fun e w' h => ⟨h.1, by obtain ⟨r, hr⟩ := h.2; rw [hr]; exact bel_drawN w r⟩

end Go.Proofs.YthhebfknikfleaaGreat

