/-
  Messages of servers (layer 7): the program's writer: its state, text, num, column.
-/
import Derived.Test.YthhebfknikfleaaGreatBaA
import Derived.Test.YthhebfknikfleaaGreatPackD
import Derived.Test.YthhebfknikfleaaGreatPackB
namespace Go.Proofs.YthhebfknikfleaaGreat
open Go.RowKit
set_option linter.unusedVariables false
set_option linter.unusedSimpArgs false

/-- A writer in memory: its block holds v; the row that is being made is u; the blocks of G are guarded. -/
structure WbP (B : Nat) (G : Nat → Prop) (w : World) (wb : Nat) (v u : Value) (l : List UInt8) : Prop where
  b : Blk w wb 91 #[v]
  own : OwnBR B w u l
  no : rowOf u ≠ some wb
  ge : B ≤ wb
  gr : ∀ k, rowOf u = some k → ¬ G k
  gw : ¬ G wb
  gl : ∀ k, G k → k < w.heap.size
/-- What the writer's steps may turn. -/
def wbD (B : Nat) (G : Nat → Prop) (k : Nat) : Prop := B ≤ k ∧ ¬ G k
/-- A writer that holds its bytes. -/
def WbO (B : Nat) (G : Nat → Prop) (w : World) (wb : Nat) (l : List UInt8) : Prop := ∃ v, WbP B G w wb v v l
section
variable {B : Nat} {G G' : Nat → Prop} {w w' : World} {wb : Nat} {v u u' : Value} {l l' : List UInt8}
theorem WbP.below (h : WbP B G w wb v u l) (hb : Below w.heap.size w w') : WbP B G w' wb v u l :=
  ⟨h.b.below hb h.b.lt, h.own.below hb, h.no, h.ge, h.gr, h.gw, fun k hk => Nat.lt_of_lt_of_le (h.gl k hk) hb.size⟩
theorem WbP.drew (h : WbP B G w wb v u l) : WbP B G w.drew wb v u l := ⟨h.b, h.own.touch ((Touch.refl (fun _ => False) w).drew) (fun _ _ e => e), h.no, h.ge, h.gr, h.gw, h.gl⟩
theorem WbP.alloc (h : WbP B G w wb v u l) (o : Obj) : WbP B G (w.alloc o) wb v u l := h.below ((Below.refl _ _).alloc (Nat.le_refl _) o)
theorem WbP.grow (h : WbP B G w wb v u l) (ho : OwnBR B w' u' l') (hg : w.grownBy w' (rowOf u)) (hn : ∀ k, rowOf u' = some k → rowOf u = some k ∨ w.heap.size ≤ k) : WbP B G w' wb v u' l' ∧ Touch (wbD B G) w w' := by
  have hlt := h.b.lt
  refine ⟨⟨h.b.grown hg (fun e => h.no e.symm), ho, fun e => ?_, h.ge, fun k e hk => ?_, h.gw, fun k hk => Nat.lt_of_lt_of_le (h.gl k hk) hg.size⟩, (Touch.of_row hg).mono (fun k hk e => ?_)⟩
  · rcases hn _ e with h1 | h1
    · exact h.no h1
    · omega
  · rcases hn _ e with h1 | h1
    · exact h.gr k h1 hk
    · have := h.gl k hk; omega
  · exact ⟨(h.own.row k e.symm).1, h.gr k e.symm⟩
theorem WbP.store (h : WbP B G w wb v u l) : WbP B G (w.setCell ⟨wb, 0, none⟩ u) wb u u l ∧ Touch (wbD B G) w (w.setCell ⟨wb, 0, none⟩ u) := by
  have hT : Touch (fun k => k = wb) w (w.setCell ⟨wb, 0, none⟩ u) := (Touch.refl (fun k => k = wb) w).setCell (x := ⟨wb, 0, none⟩) (fun _ => rfl) _
  refine ⟨⟨?_, h.own.touch hT (fun k hk e => h.no (by rw [hk, e])), h.no, h.ge, h.gr, h.gw, fun k hk => Nat.lt_of_lt_of_le (h.gl k hk) hT.size⟩, hT.mono (fun k _ e => by subst e; exact ⟨h.ge, h.gw⟩)⟩
  have := h.b.set_ 0 u
  simpa using this
/-- A new row of a call's own. -/
theorem WbP.put (h : WbP B G w wb v u l) (hB : B ≤ w.heap.size) (hb : Below w.heap.size w w') (ho : OwnBR w.heap.size w' u' l') : WbP B G w' wb v u' l' := by
  have h1 := h.below hb
  have hlt := h.b.lt
  exact ⟨h1.b, OwnR.base ho hB, fun e => by have := (ho.row _ e).1; omega, h.ge, fun k e hk => by have := (ho.row k e).1; have := h.gl k hk; omega, h.gw, h1.gl⟩
theorem WbP.tbelow (h : WbP B G w wb v u l) (hb : Below w.heap.size w w') : Touch (wbD B G) w w' := Touch.of_below hb
theorem WbO.below (h : WbO B G w wb l) (hb : Below w.heap.size w w') : WbO B G w' wb l := by
  obtain ⟨v, hv⟩ := h
  exact ⟨v, hv.below hb⟩
theorem WbO.lt (h : WbO B G w wb l) : wb < w.heap.size := by
  obtain ⟨v, hv⟩ := h
  exact hv.b.lt
theorem WbO.ge (h : WbO B G w wb l) : B ≤ wb := by
  obtain ⟨v, hv⟩ := h
  exact hv.ge
/-- A new block is guarded. -/
theorem WbO.guard (h : WbO B G w wb l) (o : Obj) : WbO B (fun k => G k ∨ k = w.heap.size) (w.alloc o) wb l := by
  obtain ⟨v, hv⟩ := h
  have h1 := hv.alloc o
  have hlt := hv.b.lt
  refine ⟨v, h1.b, h1.own, h1.no, h1.ge, fun k e hk => ?_, fun hk => ?_, fun k hk => ?_⟩
  · rcases hk with hk | hk
    · exact h1.gr k e hk
    · have := (hv.own.row k e).2; omega
  · rcases hk with hk | hk
    · exact h1.gw hk
    · omega
  · rcases hk with hk | hk
    · exact h1.gl k hk
    · rw [World.size_alloc]; omega
theorem WbO.less (h : WbO B G w wb l) (hG : ∀ k, G' k → G k) : WbO B G' w wb l := by
  obtain ⟨v, hv⟩ := h
  exact ⟨v, hv.b, hv.own, hv.no, hv.ge, fun k e hk => hv.gr k e (hG k hk), fun hk => hv.gw (hG _ hk), fun k hk => hv.gl k (hG k hk)⟩
theorem wbD_less (hG : ∀ k, G k → G' k) (k : Nat) (h : wbD B G' k) : wbD B G k := ⟨h.1, fun hk => h.2 (hG k hk)⟩
/-- A new writer. -/
theorem WbO.new (B : Nat) (w : World) (hB : B ≤ w.heap.size) : WbO B (fun k => k < B) (w.alloc (.cells #[.slice none 0 0] 91)) w.heap.size [] :=
  ⟨.slice none 0 0, Blk.new _ _ _, OwnBR.empty _ _ _, by simp [rowOf], hB, fun k e => by simp [rowOf] at e, by omega, fun k hk => by rw [World.size_alloc]; omega⟩
theorem wbD_below (h : Touch (wbD B G) w w') {C : Nat} (hC : C ≤ w.heap.size) (hB : C ≤ B) : Below C w w' := h.below hC (fun k hk => Nat.le_trans hB hk.1)
end
/-- What the writer's methods leave. -/
def WbR (B : Nat) (G : Nat → Prop) (w : World) (wb : Nat) (l' : List UInt8) (e : Ending) (w' : World) : Prop :=
  e = .returned (.tuple #[]) ∧ WbO B G w' wb l' ∧ Touch (wbD B G) w w'

set_option maxRecDepth 100000 in
set_option maxHeartbeats 1000000 in
theorem btext_any (B : Nat) (G : Nat → Prop) (wb : Nat) (l : List UInt8) (s : ByteArray) (w : World) (h : WbO B G w wb l) (hB : B ≤ w.heap.size) (hl : l.length ≤ 100000000) (hs : s.size ≤ 10000000) :
    Calls Tryz.prog 42 #[.pointer (some ⟨wb, 0, none⟩), .string s] w (WbR B G w wb (strB l s)) := by
  obtain ⟨v, hv⟩ := h
  have HP := Lib.hid hv
  have hwl := hv.b.lt
  have hcw := hv.b.cell
  have hsd : s.data.toList.length ≤ 10000000 := by rw [← size_data]; exact hs
  have hr2 : (l ++ s.data.toList).length + 1 ≤ 400000000 := by rw [List.length_append]; omega
  have Hst : Hid (strB l s = (l ++ s.data.toList) ++ [0]) := Lib.hid rfl
  clear hv
  go_enter Tryz.func42, Tryz.ntmps42
  go_wp2_with (first
    | (at_builtin; refine step_appendStr _ rfl (.tmp 8) (.tmp 9) rfl B v l rfl HP.out.own s rfl (by omega) hB ?_; intro v5 w5 ho5 hg5 hn5; have HG5 := Lib.hid (HP.out.grow ho5 hg5 hn5); have hz5 := hg5.size; clear ho5 hg5 hn5)
    | (at_builtin; refine step_appendBR _ rfl (.tmp 10) (.tmp 11) rfl B v5 _ rfl (HG5.out.1.own.alloc _) (some ⟨w5.heap.size, 0, none⟩) [0] 1 1 rfl rfl (BytesIn.new1 w5 0 0 _ rfl) (by rw [List.length_singleton]; omega) (by rw [World.size_alloc]; omega) ?_; intro v6 w6 ho6 hg6 hn6; obtain ⟨n6, p6, c6, hv6⟩ : ∃ n p c, v6 = .slice p n c := (by obtain ⟨p, c, h, _⟩ := OwnBR.slice ho6; exact ⟨_, p, c, h⟩); subst hv6; have HG6 := Lib.hid ((HG5.out.1.alloc _).grow ho6 hg6 hn6); have hcw6 := HG6.out.1.b.cell; have hfw6 := HG6.out.1.b.frozen; clear ho6 hg6 hn6))
  have HS := Lib.hid HG6.out.1.store
  have HT : Hid (Touch (wbD B G) w (w6.setCell ⟨wb, 0, none⟩ (.slice p6 n6 c6))) := Lib.hid ((((HG5.out.2).alloc _).trans HG6.out.2).trans HS.out.2)
  rw [← Hst.out] at HS
  clear hcw hcw6 hfw6
  go_end0
  exact ⟨rfl, ⟨_, HS.out.1⟩, HT.out⟩

set_option maxRecDepth 100000 in
set_option maxHeartbeats 1000000 in
theorem bnum_any (B : Nat) (G : Nat → Prop) (wb : Nat) (l : List UInt8) (n : Int) (z : Int) (w : World) (h : WbO B G w wb l) (hB : B ≤ w.heap.size) (hl : l.length ≤ 1000000000) :
    Calls Tryz.prog 41 #[.pointer (some ⟨wb, 0, none⟩), .int .i64 n, .int .i64 z] w (WbR B G w wb (putV l n z)) := by
  obtain ⟨v, hv⟩ := h
  have HP := Lib.hid hv
  have hwl := hv.b.lt
  have hcw := hv.b.cell
  obtain ⟨p0, c0, hv0, -, -, q0, -⟩ := hv.own.slice
  subst hv0
  have Hp := Lib.hid (put_any p0 l c0 n z w hl q0)
  clear hv q0
  generalize l.length = nl at *
  go_enter Tryz.func41, Tryz.ntmps41
  go_wp2_with fail
  refine Hp.out.mono ?_
  rintro e w1 ⟨v1, rfl, ho1, hb1⟩
  have HP1 := Lib.hid (HP.out.put hB hb1 (OwnBR.of ho1))
  obtain ⟨n1, p1, c1, hv1⟩ : ∃ n p c, v1 = .slice p n c := (by obtain ⟨p, c, h, _⟩ := (OwnBR.of ho1).slice; exact ⟨_, p, c, h⟩)
  subst hv1
  have hc1 := HP1.out.b.cell
  have hf1 := HP1.out.b.frozen
  have HS := Lib.hid HP1.out.store
  have HT : Hid (Touch (wbD B G) w (w1.setCell ⟨wb, 0, none⟩ (.slice p1 n1 c1))) := Lib.hid ((Touch.of_below hb1).trans HS.out.2)
  clear ho1 hb1 hcw Hp
  go_wp2_with fail
  go_end0
  exact ⟨rfl, ⟨_, HS.out.1⟩, HT.out⟩

/-- A writer beside a guarded block. -/
structure WbG (B : Nat) (G : Nat → Prop) (w0 w : World) (wb g : Nat) (t : TypeId) (cs : Array Value) (l : List UInt8) : Prop where
  o : WbO B (fun k => G k ∨ k = g) w wb l
  b : Blk w g t cs
  t : Touch (wbD B G) w0 w
  hz : B ≤ w.heap.size
section
variable {B : Nat} {G : Nat → Prop} {w0 w w' : World} {wb g : Nat} {t : TypeId} {cs : Array Value} {l l' : List UInt8}
theorem WbG.start (h : WbO B G w wb l) (hB : B ≤ w.heap.size) (t : TypeId) (cs : Array Value) : WbG B G w (w.alloc (.cells cs t)) wb w.heap.size t cs l :=
  ⟨h.guard _, Blk.new _ _ _, (Touch.refl _ _).alloc _, by rw [World.size_alloc]; omega⟩
theorem WbG.step (h : WbG B G w0 w wb g t cs l) (ho : WbO B (fun k => G k ∨ k = g) w' wb l') (hT : Touch (wbD B (fun k => G k ∨ k = g)) w w') : WbG B G w0 w' wb g t cs l' :=
  ⟨ho, hT.blk h.b (fun e => e.2 (.inr rfl)), h.t.trans (hT.mono (fun k _ hk => ⟨hk.1, fun e => hk.2 (.inl e)⟩)), Nat.le_trans h.hz hT.size⟩
theorem WbG.done (h : WbG B G w0 w wb g t cs l) : WbO B G w wb l := h.o.less (fun k hk => .inl hk)
end

theorem colW_len (b : List UInt8) (c : CoV) : (colW b c).length ≤ b.length + c.name.size + 25 := by
  unfold colW
  have h0 := strB_len b c.name
  have h1 := putV_len4 (strB b c.name) c.table 4
  have h2 := putV_len4 (putV (strB b c.name) c.table 4) c.attr 2
  have h3 := putV_len4 (putV (putV (strB b c.name) c.table 4) c.attr 2) c.oid 4
  have h4 := putV_len4 (putV (putV (putV (strB b c.name) c.table 4) c.attr 2) c.oid 4) c.size 2
  have h5 := putV_len4 (putV (putV (putV (putV (strB b c.name) c.table 4) c.attr 2) c.oid 4) c.size 2) c.mod 4
  have h6 := putV_len4 (putV (putV (putV (putV (putV (strB b c.name) c.table 4) c.attr 2) c.oid 4) c.size 2) c.mod 4) c.format 2
  omega

set_option maxRecDepth 100000 in
set_option maxHeartbeats 4000000 in
theorem bcolumn_any (B : Nat) (G : Nat → Prop) (wb : Nat) (l : List UInt8) (x : CoV) (w : World) (h : WbO B G w wb l) (hB : B ≤ w.heap.size) (hl : l.length ≤ 90000000) (hs : x.name.size ≤ 1000000) :
    Calls Tryz.prog 44 #[.pointer (some ⟨wb, 0, none⟩), .agg #[.string x.name, .int .i64 x.table, .int .i64 x.attr, .int .i64 x.oid, .int .i64 x.size, .int .i64 x.mod, .int .i64 x.format]] w (WbR B G w wb (colW l x)) := by
  have H0 := Lib.hid (WbG.start h hB 79 #[.string x.name, .int .i64 x.table, .int .i64 x.attr, .int .i64 x.oid, .int .i64 x.size, .int .i64 x.mod, .int .i64 x.format])
  have Hc : Hid (colW l x = putV (putV (putV (putV (putV (putV (strB l x.name) x.table 4) x.attr 2) x.oid 4) x.size 2) x.mod 4) x.format 2) := Lib.hid rfl
  have k0 := strB_len l x.name
  have k1 := putV_len4 (strB l x.name) x.table 4
  have k2 := putV_len4 (putV (strB l x.name) x.table 4) x.attr 2
  have k3 := putV_len4 (putV (putV (strB l x.name) x.table 4) x.attr 2) x.oid 4
  have k4 := putV_len4 (putV (putV (putV (strB l x.name) x.table 4) x.attr 2) x.oid 4) x.size 2
  have k5 := putV_len4 (putV (putV (putV (putV (strB l x.name) x.table 4) x.attr 2) x.oid 4) x.size 2) x.mod 4
  have K := Lib.hid (And.intro k0 (And.intro k1 (And.intro k2 (And.intro k3 (And.intro k4 k5)))))
  clear k0 k1 k2 k3 k4 k5 h
  generalize colW l x = res at *
  obtain ⟨xn, xt, xa, xo, xs, xm, xf⟩ := x
  dsimp only at *
  have HC : Hid (∀ (w1 : World) (l1 : List UInt8), WbG B G w w1 wb w.heap.size 79 #[.string xn, .int .i64 xt, .int .i64 xa, .int .i64 xo, .int .i64 xs, .int .i64 xm, .int .i64 xf] l1 → ∀ i, w1.cell? ⟨w.heap.size, i, none⟩ = (#[.string xn, .int .i64 xt, .int .i64 xa, .int .i64 xo, .int .i64 xs, .int .i64 xm, .int .i64 xf] : Array Value)[i]?) := Lib.hid (fun w1 l1 H => H.b.cell)
  go_enter Tryz.func44, Tryz.ntmps44
  go_upto_region 1 with fail
  generalize w.alloc (.cells #[.string xn, .int .i64 xt, .int .i64 xa, .int .i64 xo, .int .i64 xs, .int .i64 xm, .int .i64 xf] 79) = w1 at *
  have hc := HC.out _ _ H0.out
  have Hk := Lib.hid (btext_any _ _ _ _ xn _ H0.out.o H0.out.hz (by omega) (by omega))
  unfold WbR at Hk
  go_wp2_with fail
  refine Hk.out.mono ?_
  rintro e w2 ⟨rfl, ho, hT⟩
  have H1 := Lib.hid (H0.out.step ho hT)
  clear ho hT hc Hk H0
  have hc := HC.out _ _ H1.out
  have Hk := Lib.hid (bnum_any _ _ _ _ xt 4 _ H1.out.o H1.out.hz (by have := K.out; omega))
  unfold WbR at Hk
  go_wp2_with fail
  refine Hk.out.mono ?_
  rintro e w3 ⟨rfl, ho, hT⟩
  have H2 := Lib.hid (H1.out.step ho hT)
  clear ho hT hc Hk H1
  have hc := HC.out _ _ H2.out
  have Hk := Lib.hid (bnum_any _ _ _ _ xa 2 _ H2.out.o H2.out.hz (by have := K.out; omega))
  unfold WbR at Hk
  go_wp2_with fail
  refine Hk.out.mono ?_
  rintro e w4 ⟨rfl, ho, hT⟩
  have H3 := Lib.hid (H2.out.step ho hT)
  clear ho hT hc Hk H2
  have hc := HC.out _ _ H3.out
  have Hk := Lib.hid (bnum_any _ _ _ _ xo 4 _ H3.out.o H3.out.hz (by have := K.out; omega))
  unfold WbR at Hk
  go_wp2_with fail
  refine Hk.out.mono ?_
  rintro e w5 ⟨rfl, ho, hT⟩
  have H4 := Lib.hid (H3.out.step ho hT)
  clear ho hT hc Hk H3
  have hc := HC.out _ _ H4.out
  have Hk := Lib.hid (bnum_any _ _ _ _ xs 2 _ H4.out.o H4.out.hz (by have := K.out; omega))
  unfold WbR at Hk
  go_wp2_with fail
  refine Hk.out.mono ?_
  rintro e w6 ⟨rfl, ho, hT⟩
  have H5 := Lib.hid (H4.out.step ho hT)
  clear ho hT hc Hk H4
  have hc := HC.out _ _ H5.out
  have Hk := Lib.hid (bnum_any _ _ _ _ xm 4 _ H5.out.o H5.out.hz (by have := K.out; omega))
  unfold WbR at Hk
  go_wp2_with fail
  refine Hk.out.mono ?_
  rintro e w7 ⟨rfl, ho, hT⟩
  have H6 := Lib.hid (H5.out.step ho hT)
  clear ho hT hc Hk H5
  have hc := HC.out _ _ H6.out
  have Hk := Lib.hid (bnum_any _ _ _ _ xf 2 _ H6.out.o H6.out.hz (by have := K.out; omega))
  unfold WbR at Hk
  go_wp2_with fail
  refine Hk.out.mono ?_
  rintro e w8 ⟨rfl, ho, hT⟩
  have H7 := Lib.hid (H6.out.step ho hT)
  clear ho hT hc Hk H6
  rw [← Hc.out] at H7
  go_wp2_with fail
  go_end0
  exact ⟨rfl, H7.out.done, H7.out.t⟩

end Go.Proofs.YthhebfknikfleaaGreat
