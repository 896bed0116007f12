/-
  Ground (layer 38): a session's keys as bytes; the parameters' clone; New; Made.
-/
import Derived.Test.YthhebfknikfleaaGreatLzB
import Derived.Test.YthhebfknikfleaaGreatGrD
namespace Go.Proofs.YthhebfknikfleaaGreat
open Go.RowKit
set_option linter.unusedVariables false
set_option linter.unusedSimpArgs false

set_option maxRecDepth 100000 in
set_option maxHeartbeats 1000000 in
theorem lzKeys_any (id : Int) (w : World) : Calls Tryz.prog 32 #[.int .i64 id] w fun e w' => ∃ p d, e = .returned (.slice p (bytesB [keyB id, idleB]).length d) ∧ (BytesIn w' p (bytesB [keyB id, idleB]) ∧ (bytesB [keyB id, idleB]).length ≤ d ∧ d ≤ maxLen) ∧ Below w.heap.size w w' := by
  have HK := Lib.hid (keys_any id w)
  have hal : Below w.heap.size w (w.alloc (.cells #[.int .u8 75, .int .u8 0, .string ⟨#[]⟩, .string ⟨#[]⟩, .string ⟨#[]⟩, .int .i64 (keyI id), .int .i64 (keyM id), .slice none 0 0, .slice none 0 0, .slice none 0 0, .slice none 0 0, .int .u8 90, .int .u8 73, .string ⟨#[]⟩, .string ⟨#[]⟩, .string ⟨#[]⟩, .int .i64 0, .int .i64 0, .slice none 0 0, .slice none 0 0, .slice none 0 0, .slice none 0 0] 39)) := (Below.refl _ _).alloc (Nat.le_refl _) _
  have HB := Lib.hid hal
  have Hy := Lib.hid (bbytes_any _ _ _ 2 [keyB id, idleB] _ (show SliceS 11 BaS (fun j => j = w.heap.size) (w.alloc (.cells #[.int .u8 75, .int .u8 0, .string ⟨#[]⟩, .string ⟨#[]⟩, .string ⟨#[]⟩, .int .i64 (keyI id), .int .i64 (keyM id), .slice none 0 0, .slice none 0 0, .slice none 0 0, .slice none 0 0, .int .u8 90, .int .u8 73, .string ⟨#[]⟩, .string ⟨#[]⟩, .string ⟨#[]⟩, .int .i64 0, .int .i64 0, .slice none 0 0, .slice none 0 0, .slice none 0 0, .slice none 0 0] 39)) [.slice (some ⟨w.heap.size, 0, none⟩) 2 2] [keyB id, idleB] from slice2Ba w [.int .u8 75, .int .u8 0, .string ⟨#[]⟩, .string ⟨#[]⟩, .string ⟨#[]⟩, .int .i64 (keyI id), .int .i64 (keyM id), .slice none 0 0, .slice none 0 0, .slice none 0 0, .slice none 0 0] [.int .u8 90, .int .u8 73, .string ⟨#[]⟩, .string ⟨#[]⟩, .string ⟨#[]⟩, .int .i64 0, .int .i64 0, .slice none 0 0, .slice none 0 0, .slice none 0 0, .slice none 0 0] (keyB id) idleB rfl rfl (fun _ _ => key_ba id _ _) (fun _ _ => idle_ba _ _)) (by show 2 ≤ 1000; omega) (fun x hx => greet_short (l := []) id near_nil x (by unfold greetV; simp at hx ⊢; rcases hx with rfl | rfl <;> simp)))
  clear hal
  generalize bytesB [keyB id, idleB] = L at *
  generalize keyI id = ki at *
  generalize keyM id = km at *
  go_enter Tryz.func32, Tryz.ntmps32
  go_wp2_with fail
  refine HK.out.mono ?_
  rintro e wx ⟨rfl, rfl⟩
  go_wp2_with fail
  refine Hy.out.mono ?_
  rintro e w2 ⟨v2, rfl, ho, hb⟩
  obtain ⟨p2, d2, hv2, g1, g2, q2, -⟩ := ho.slice
  have Hq := Lib.hid (And.intro q2 (And.intro g1 g2))
  have HB2 := Lib.hid (HB.out.trans (hb.mono HB.out.size))
  subst hv2
  clear ho hb q2 g1 g2
  go_wp2_with fail
  go_ret
  exact ⟨_, _, rfl, Hq.out, HB2.out⟩

abbrev OwnPa (B : Nat) (w : World) (v : Value) (xs : List PaV) : Prop := OwnS B 55 2 PaS (fun _ => True) w v xs
theorem PaS.one (S : Nat → Prop) (w : World) (cs : List Value) (x : PaV) (h : PaS S w cs x) : ∀ u ∈ cs, u.oneCell' = true := by
  obtain ⟨rfl, _⟩ := h
  intro u hu
  simp only [List.mem_cons, List.not_mem_nil, or_false] at hu
  rcases hu with rfl | rfl <;> rfl
theorem Tryz.info55 : (Tryz.prog.info? 55).map (fun i => (i.zero, i.size, i.bytes)) = some (some (.agg #[.string ⟨#[]⟩, .string ⟨#[]⟩]), 2, 32) := by kernel_rfl
theorem info_pa : ∃ i z, Tryz.prog.info? 55 = some i ∧ i.zero = some z ∧ i.size = 2 ∧ i.bytes = 32 ∧ z.cells.size = 2 := by
  obtain ⟨i0, hi, hz0, hz1, hz2⟩ := info_parts Tryz.info55
  exact ⟨i0, _, hi, hz0, hz1, hz2, rfl⟩
theorem OwnPa.lst {B : Nat} {w : World} {v : Value} {xs : List PaV} (h : OwnPa B w v xs) : ∃ p c, v = .slice p xs.length c ∧ SliceS 2 PaS (fun k => B ≤ k) w [.slice p xs.length c] xs := by
  obtain ⟨css, h1, h2⟩ := h
  obtain ⟨p, c, rfl, k1, k2, k3⟩ := h1.slice
  refine ⟨p, c, rfl, p, c, css, rfl, k1, k2, fun j u hu => ?_, h2.imp (fun _ _ hx => ⟨hx.1, hx.2⟩)⟩
  obtain ⟨g, rfl, hg, hB, hc⟩ := k3 j u hu
  exact ⟨g, 0, rfl, hB, by rw [Nat.zero_add]; exact hc⟩

set_option maxRecDepth 100000 in
theorem clone_pas (S : Nat → Prop) (p : Option Addr) (m c : Nat) (xs : List PaV) (w : World) (h : SliceS 2 PaS S w [.slice p m c] xs) (hl : xs.length ≤ 100000) :
    Calls Tryz.prog 28 #[.slice p m c] w fun e w' => ∃ v, e = .returned v ∧ OwnPa w.heap.size w' v xs ∧ Below w.heap.size w w' := by
  have q22 : ∀ (w : World) (a : Option Addr) (n c n' c' : Nat), (binOp .eql 22 (.slice a n c) (.slice none n' c')).run Tryz.prog w = .ok (.bool a.isNone) w :=
    fun w a n c n' c' => Lib.run_eql_slice_nil w _ _ a n c n' c' Tryz.underlying22
  obtain ⟨rfl, hlc, hcm⟩ := h.len
  have H := Lib.hid (SliceS.below PaS.still h ((Below.refl _ _).alloc (Nat.le_refl _) (.cells #[] 55)))
  cases p with
  | none =>
    have hx := SliceS.nilLen (by omega) h
    subst hx
    clear h
    go_enter Tryz.func28, Tryz.ntmps28
    go_wp2
    go_ret
    exact ⟨_, rfl, OwnS.empty _, Below.refl _ _⟩
  | some a =>
    unfold maxLen at hcm
    clear h
    go_enter Tryz.func28, Tryz.ntmps28
    go_wp2_with (first | (at_builtin; refine wpList_append_S _ rfl (.tmp 5) (.tmp 6) 22 22 rfl w.heap.size 55 55 2 32 Tryz.underlying22 Tryz.underlying22 info_pa PaS PaS.still PaS.one (fun _ => True) (.slice (some ⟨w.heap.size, 0, none⟩) 0 0) [] rfl (OwnS.empty _) (some a) xs.length c xs rfl (SliceS.weak PaS.still H.out (fun k _ hs => ⟨trivial, by rw [rowOf_zero]; simp⟩)) (by simp; omega) (by simp [maxLen]; omega) (by simp) ?_; intro v1 w1 ho1 hg1 _; have Ho1 := Lib.hid ho1; have Hb1 := Lib.hid (((Below.refl _ _).alloc (Nat.le_refl _) (.cells #[] 55)).trans (Below.of_row hg1 (by simp) (fun k hk => by rw [rowOf_zero] at hk; cases hk))); clear ho1 hg1))
    go_ret
    exact ⟨_, rfl, by simpa using Ho1.out, Hb1.out⟩


/-- A Greets in memory: the parameters, whether it is done, what all say alike, how often it was made. -/
structure LzO (w0 w : World) (g : Nat) (l : List PaV) (pp : Option Addr) (cp : Nat) (d : Int) (A : Value) : Prop where
  hg : w0.heap.size ≤ g
  b : Blk w g 73 #[.slice pp l.length cp, .int .u32 d, .int .i32 0, .int .u32 0, A, .int .i32 d, .bool true]
  p : SliceS 2 PaS (fun k => k ≠ g) w [.slice pp l.length cp] l
  bel : Below w0.heap.size w0 w

set_option maxRecDepth 100000 in
theorem lzNew_any (S : Nat → Prop) (p : Option Addr) (n c : Nat) (l : List PaV) (w : World) (h : SliceS 2 PaS S w [.slice p n c] l) (hl : l.length ≤ 100000) :
    Calls Tryz.prog 10 #[.slice p n c] w fun e w' => ∃ g pp cp, e = .returned (.pointer (some ⟨g, 0, none⟩)) ∧ LzO w w' g l pp cp 0 (.slice none 0 0) := by
  have HC := Lib.hid (clone_pas S p n c l w h hl)
  clear h
  go_enter Tryz.func10, Tryz.ntmps10
  go_wp2_with fail
  refine HC.out.mono ?_
  rintro e w1 ⟨v1, rfl, ho, hb⟩
  obtain ⟨pp, cp, hv, hs⟩ := ho.lst
  subst hv
  have hz := hb.size
  have hal := (Below.refl w1.heap.size w1).alloc (Nat.le_refl _) (.cells #[.slice pp l.length cp, .int .u32 0, .int .i32 0, .int .u32 0, .slice none 0 0, .int .i32 0, .bool true] 73)
  have HO : Hid (LzO w (w1.alloc (.cells #[.slice pp l.length cp, .int .u32 0, .int .i32 0, .int .u32 0, .slice none 0 0, .int .i32 0, .bool true] 73)) w1.heap.size l pp cp 0 (.slice none 0 0)) :=
    Lib.hid ⟨hz, Blk.new _ _ _, (SliceS.weak PaS.still hs (fun k hk _ => by omega)).below PaS.still hal, hb.trans (hal.mono hz)⟩
  clear ho hs hb hal
  go_wp2_with fail
  go_ret
  exact ⟨_, _, _, rfl, HO.out⟩

theorem lzMade_nil (w : World) : Calls Tryz.prog 13 #[.pointer none] w fun e w' => e = .returned (.int .i64 0) ∧ w' = w := by
  go_enter Tryz.func13, Tryz.ntmps13
  go_wp2
  go_ret
  exact ⟨rfl, rfl⟩
set_option maxRecDepth 100000 in
theorem lzMade_at (g : Nat) (n : Int) (w : World) (hn : n = 0 ∨ n = 1) (hc : w.cell? ⟨g, 5, none⟩ = some (.int .i32 n)) : Calls Tryz.prog 13 #[.pointer (some ⟨g, 0, none⟩)] w fun e w' => e = .returned (.int .i64 n) ∧ w' = w := by
  have HC := Lib.hid (lzCount ⟨g, 5, none⟩ n w hc)
  have hw : IntKind.i64.wrap n = n := by rw [IntKind.wrap_i64]; omega
  go_enter Tryz.func13, Tryz.ntmps13
  go_wp2_with (first | (go_at_call 33; refine HC.out.mono ?_; rintro e w' ⟨rfl, rfl⟩))
  go_ret
  exact ⟨rfl, rfl⟩
theorem lzOf_nil (id : Int) (w : World) : Calls Tryz.prog 11 #[.pointer none, .int .i64 id] w fun e w' => e = .returned (.slice none 0 0) ∧ w' = w := by
  go_enter Tryz.func11, Tryz.ntmps11
  go_wp2
  go_ret
  exact ⟨rfl, rfl⟩
theorem lzOf_zero (g : Nat) (id : Int) (w : World) (hc : w.cell? ⟨g, 6, none⟩ = some (.bool false)) : Calls Tryz.prog 11 #[.pointer (some ⟨g, 0, none⟩), .int .i64 id] w fun e w' => e = .returned (.slice none 0 0) ∧ w' = w := by
  go_enter Tryz.func11, Tryz.ntmps11
  go_wp2
  go_ret
  exact ⟨rfl, rfl⟩

end Go.Proofs.YthhebfknikfleaaGreat
