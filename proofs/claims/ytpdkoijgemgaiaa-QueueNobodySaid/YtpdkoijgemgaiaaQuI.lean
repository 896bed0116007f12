/-
  The walk of QueueNobody (layer 21).
-/
import Derived.Test.YtpdkoijgemgaiaaQuH
namespace Go.Proofs.Ytpdkoijgemgaiaa
open Go.RowKit
set_option linter.unusedVariables false
set_option linter.unusedSimpArgs false

theorem qHide_zero (sb : Nat) (m : Value) (w : World) (h : ∀ i, w.cell? ⟨sb, i, none⟩ = (#[.slice none 0 0, m] : Array Value)[i]?) :
    Calls Try.prog 19 #[.pointer (some ⟨sb, 0, none⟩)] w fun e w' => e = .returned (.slice none 0 0) ∧ w = w' := by
  go_enter Try.func19, Try.ntmps19
  go_wp2_with fail
  refine wp_loop_rounds 1 ?_
  rw [rounds_succ]
  go_wp2
  go_ret
  exact ⟨rfl, rfl⟩

theorem qAll_nil (c : Nat) (w : World) : Calls Try.prog 72 #[.slice none 0 c] w fun e w' => e = .returned (.slice none 0 0) ∧ w = w' := by
  go_enter Try.func72, Try.ntmps72
  go_wp2_with fail
  refine wp_loop_rounds 1 ?_
  rw [rounds_succ]
  go_wp2
  go_ret
  exact ⟨rfl, rfl⟩

theorem qList_zero (sb : Nat) (m : Value) (w : World) (h : ∀ i, w.cell? ⟨sb, i, none⟩ = (#[.slice none 0 0, m] : Array Value)[i]?) :
    Calls Try.prog 21 #[.pointer (some ⟨sb, 0, none⟩)] w fun e w' => e = .returned (.slice none 0 0) ∧ w = w' := by
  have Ha := Lib.hid (qAll_nil 0 w)
  go_enter Try.func21, Try.ntmps21
  go_wp2_with (go_at_call 72; refine Ha.out.mono ?_; rintro e w1 ⟨rfl, rfl⟩)
  go_ret
  exact ⟨rfl, rfl⟩

structure ZQ (cs : Array Value) (w0 : World) (z : Nat) (w : World) : Prop where
  z : Blk w z 30 #[.slice none 0 0, .int .i64 0]
  arg : Blk w w0.heap.size 26 cs
  bel : Below w0.heap.size w0 w
theorem ZQ.step {cs : Array Value} {w0 w w' : World} {z : Nat} (h : ZQ cs w0 z w) (hb : Below w.heap.size w w') : ZQ cs w0 z w' := ⟨h.z.below hb h.z.lt, h.arg.below hb h.arg.lt, h.bel.trans (hb.mono h.bel.size)⟩
theorem ZQ.alloc {cs : Array Value} {w0 w : World} {z : Nat} (h : ZQ cs w0 z w) (o : Obj) : ZQ cs w0 z (w.alloc o) := h.step ((Below.refl _ _).alloc (Nat.le_refl _) o)
theorem ZQ.start (cs : Array Value) (w : World) : ZQ cs w (w.heap.size + 1) ((w.alloc (.cells cs 26)).alloc (.cells #[.slice none 0 0, .int .i64 0] 30)) :=
  ⟨by have := Blk.new (w.alloc (.cells cs 26)) 30 #[.slice none 0 0, .int .i64 0]; simpa using this, (Blk.new _ _ _).alloc _, ((Below.refl _ _).alloc (Nat.le_refl _) _).alloc (by simp) _⟩

set_option maxRecDepth 100000 in
set_option maxHeartbeats 4000000 in
theorem quNobody_walk (x : EnV) (a : EnP) (w : World) : Calls Try.prog 3 #[enArg x a] w fun e w' => e = .returned (.bool true) ∧ Below w.heap.size w w' := by
  have Haw := Lib.hid quAwake
  have Hhead : Hid (∀ w0, Calls Try.prog 15 #[.pointer none] w0 fun e w' => e = .returned (.tuple #[enArg enZero enZeroP, .bool false]) ∧ Below w0.heap.size w0 w') := Lib.hid (fun w0 => qHead_none none w0 (qLen_nil _))
  have Hpop : Hid (∀ cs W z w0, ZQ cs W z w0 → Calls Try.prog 16 #[.pointer (some ⟨z, 0, none⟩)] w0 fun e w' => e = .returned (.tuple #[enArg enZero enZeroP, .bool false]) ∧ ZQ cs W z w') := Lib.hid (fun cs W z w0 h => (qPop_none (some ⟨z, 0, none⟩) w0 (qLen_zero z 0 _ _ (h.alloc _).z.cell)).mono (fun e w' he => ⟨he.1, h.step he.2⟩))
  have Hpush : Hid (∀ cs W z w0 u, ZQ cs W z w0 → Calls Try.prog 17 #[.pointer (some ⟨z, 0, none⟩), u] w0 fun e w' => e = .returned (.int .i64 2) ∧ w0 = w') := Lib.hid (fun cs W z w0 u h => qPush_zero z _ u w0 h.z.cell)
  have Hhide : Hid (∀ cs W z w0, ZQ cs W z w0 → Calls Try.prog 19 #[.pointer (some ⟨z, 0, none⟩)] w0 fun e w' => e = .returned (.slice none 0 0) ∧ w0 = w') := Lib.hid (fun cs W z w0 h => qHide_zero z _ w0 h.z.cell)
  have Hlist : Hid (∀ cs W z w0, ZQ cs W z w0 → Calls Try.prog 21 #[.pointer (some ⟨z, 0, none⟩)] w0 fun e w' => e = .returned (.slice none 0 0) ∧ w0 = w') := Lib.hid (fun cs W z w0 h => qList_zero z _ w0 h.z.cell)
  obtain ⟨xk, xh, xf, xd, xg, xb, xc, xr⟩ := x
  obtain ⟨pg, cg, pb, cb, pc, cc, pr, cr⟩ := a
  unfold enArg
  dsimp only
  go_enter Try.func3, Try.ntmps3
  go_wp2_with fail
  have HZ0 := Lib.hid (ZQ.start #[.int .i64 xk, .bool xh, .string xf, .string xd, .slice pg xg.length cg, .slice pb xb.length cb, .slice pc xc.length cc, .slice pr xr.length cr] w)
  generalize (w.alloc (.cells #[.int .i64 xk, .bool xh, .string xf, .string xd, .slice pg xg.length cg, .slice pb xb.length cb, .slice pc xc.length cc, .slice pr xr.length cr] 26)).alloc (.cells #[.slice none 0 0, .int .i64 0] 30) = w0 at *
  refine (Hhead.out _).mono ?_
  rintro e w1 ⟨rfl, hb1⟩
  have HZ1 := Lib.hid (HZ0.out.step hb1)
  unfold enArg enZero enZeroP at Hpop ⊢
  dsimp only [List.length_nil] at Hpop ⊢
  clear HZ0 hb1 Hhead
  go_wp2_with fail
  refine (Hpop.out _ _ _ _ (HZ1.out.alloc _)).mono ?_
  rintro e w2 ⟨rfl, hz2⟩
  have HZ2 := Lib.hid hz2
  clear hz2 HZ1 Hpop
  go_upto_region 5 with (fail)
  have HZ3 := Lib.hid (HZ2.out.alloc (.cells #[.int .i64 0, .bool false, .string ⟨#[]⟩, .string ⟨#[]⟩, .slice none 0 0, .slice none 0 0, .slice none 0 0, .slice none 0 0] 26))
  clear HZ2
  generalize w2.alloc _ = w3 at *
  have hc3 := HZ3.out.arg.cell
  go_wp2_with fail
  refine (qPush_nil _ _).mono ?_
  rintro e w4 ⟨rfl, rfl⟩
  have HZ4 := Lib.hid (HZ3.out.alloc (.cells #[.int .i64 xk, .bool xh, .string xf, .string xd, .slice pg xg.length cg, .slice pb xb.length cb, .slice pc xc.length cc, .slice pr xr.length cr] 26))
  clear HZ3 hc3
  generalize w3.alloc _ = w4 at *
  have hc4 := HZ4.out.arg.cell
  go_wp2_with fail
  have HZ5 := Lib.hid (HZ4.out.alloc (.cells #[.int .i64 xk, .bool xh, .string xf, .string xd, .slice pg xg.length cg, .slice pb xb.length cb, .slice pc xc.length cc, .slice pr xr.length cr] 26))
  refine (Hpush.out _ _ _ _ _ HZ5.out).mono ?_
  rintro e w5 ⟨rfl, rfl⟩
  clear HZ4 hc4
  generalize w4.alloc _ = w5 at *
  go_wp2_with fail
  refine (qSkip_nil _).mono ?_
  rintro e w6 ⟨rfl, rfl⟩
  go_wp2_with fail
  refine (Hhide.out _ _ _ _ HZ5.out).mono ?_
  rintro e w6 ⟨rfl, rfl⟩
  go_wp2_with fail
  refine (qLen_nil _).mono ?_
  rintro e w6 ⟨rfl, rfl⟩
  go_wp2_with fail
  refine (Hlist.out _ _ _ _ HZ5.out).mono ?_
  rintro e w6 ⟨rfl, rfl⟩
  go_wp2_with fail
  refine (Haw.out _).mono ?_
  rintro e w6 ⟨rfl, hb6⟩
  have HB := Lib.hid (HZ5.out.bel.trans (hb6.mono HZ5.out.bel.size))
  clear hb6
  go_wp2_with fail
  go_ret
  exact ⟨rfl, HB.out⟩

theorem quNobody_read (s : Array Value) (y : EnV) (w : World) (h : EnS (fun k => k < w.heap.size) w s.toList y) : Calls Try.prog 3 #[.agg s] w fun e w' => e = .returned (.bool true) ∧ Below w.heap.size w w' := by
  obtain ⟨a, hs, _⟩ := h
  have e : s = (enCells y a).toArray := by rw [← hs]
  subst e
  exact quNobody_walk y a w

end Go.Proofs.Ytpdkoijgemgaiaa
