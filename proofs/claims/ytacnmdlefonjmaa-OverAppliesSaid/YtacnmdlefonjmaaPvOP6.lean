/-
  Ground: OvN, QuC, QuD, QuE, QuF, QuEqA, QuEqI, OvH, OvW.
-/
import Derived.Test.YtacnmdlefonjmaaPvOP5
import Derived.Test.YtacnmdlefonjmaaPvOP4
import Derived.Test.YtacnmdlefonjmaaPvOP3
import Derived.Test.YtacnmdlefonjmaaPvOP1
import Derived.Laws.StructEq
/-
  over.IDs (layer 16).
-/
namespace Go.Proofs.Ytacnmdlefonjmaa
open Go.RowKit Go.Shelf Go.Maps
set_option linter.unusedVariables false
set_option linter.unusedSimpArgs false
attribute [local go_sem] Oper.semAt_some

theorem OwnR.of_owns' {w : World} {base : Nat} {e : TypeId} {size : Nat} {v : Value} {n : Nat} {xs : List Value} (h : w.ownsRow base e size v n xs) : OwnR base e size w v n xs := by
  obtain ⟨h1, h2⟩ := h
  refine ⟨h1, ?_⟩
  rcases h2 with ⟨rfl, rfl⟩ | ⟨g, cap, cur, rfl, hb, hg, hn, hm, hc, ht⟩
  · exact .inl ⟨none, rfl, rfl⟩
  · by_cases h0 : cap = 0
    · subst h0
      obtain rfl : n = 0 := by omega
      exact .inl ⟨_, rfl, rfl⟩
    · exact .inr ⟨g, cap, cur, rfl, by omega, hb, hg, hn, hm, hc, ht⟩
theorem elems_ints' : ∀ (S : Nat → Prop) (w : World) (l : List Int), ElemsS 1 IntU S w (l.map fun n => [Value.int .i64 n]) l
  | S, w, [] => trivial
  | S, w, n :: l => ⟨⟨rfl, rfl⟩, elems_ints' S w l⟩
theorem flat_ints' : ∀ l : List Int, (l.map fun n => [Value.int .i64 n]).flatten = l.map (Value.int .i64)
  | [] => rfl
  | n :: l => by rw [List.map_cons, List.flatten_cons, flat_ints' l]; rfl
theorem OwnI.of_owns' {w : World} {base : Nat} {v : Value} {l : List Int} (h : w.ownsRow base 3 1 v l.length (l.map (Value.int .i64))) : OwnI base w v l := by
  have := OwnR.of_owns' h
  refine ⟨l.map fun n => [Value.int .i64 n], ?_, elems_ints' _ _ _⟩
  rw [flat_ints' l]
  exact this

/-- Between two rounds of IDs. -/
structure IdQ (w0 : World) (out : List Int) (W : World) : Prop where
  s : ∃ u, Boxed W w0.heap.size 36 u ∧ W.ownsRow w0.heap.size 3 1 u out.length (out.map (Value.int .i64))
  bel : Below w0.heap.size w0 W
theorem IdQ.own {α : Type} (w0 : World) (B : Nat) (f : List α → List Int) (hB : w0.heap.size ≤ B) : OwnFrom B (fun pre W => IdQ w0 (f pre) W) := by
  intro pre W W' row h hg hr
  have hne : ∀ {b : Nat} {t : TypeId} {cs : Array Value}, Blk W b t cs → some b ≠ row := by
    intro b t cs hb e
    obtain ⟨-, o, ho, hc⟩ := hr b e.symm
    rw [show W.heap[b]? = _ from hb] at ho
    cases ho
    cases hc
  obtain ⟨u, hs, hu⟩ := h.s
  refine ⟨⟨u, hs.kept hg (hne (show Blk W _ _ _ from hs)), hu.kept hg ?_⟩, h.bel.grown hg h.bel.size (fun k e => Nat.le_trans hB (hr k e).1)⟩
  rcases hu.2 with ⟨rfl, _⟩ | ⟨g', cap, cur, rfl, _, hgb, _⟩
  · exact .inl rfl
  · exact .inr (hne (show Blk W g' _ _ from hgb))
theorem IdQ.alloc {w0 W : World} {out : List Int} (h : IdQ w0 out W) (o : Obj) : IdQ w0 out (W.alloc o) := by
  obtain ⟨u, hs, hu⟩ := h.s
  exact ⟨⟨u, hs.alloc _, hu.alloc _⟩, h.bel.alloc h.bel.size _⟩
def idS (l : List OpV) : List Int := (l.filter OpV.set).map OpV.id
theorem idS_snoc (l : List OpV) (o : OpV) : idS (l ++ [o]) = if o.set = true then idS l ++ [o.id] else idS l := by
  unfold idS
  rw [List.filter_append, List.map_append]
  by_cases h : o.set = true <;> simp [List.filter_cons, h]
theorem idS_le (l : List OpV) : (idS l).length ≤ l.length := by
  unfold idS
  rw [List.length_map]
  exact List.length_filter_le _ _

set_option maxRecDepth 100000 in
set_option maxHeartbeats 8000000 in
theorem pids_any (S : Nat → Prop) (p : Option Addr) (n c : Nat) (l : List EnV) (w : World) (h : SliceS 8 EnS S w [.slice p n c] l) (hs : ∀ x ∈ l, EnSmall x) (hl : l.length ≤ 30) (hol : (opsE l).length ≤ 30000) :
    Calls Try.prog 16 #[.slice p n c] w fun e w' => ∃ v, e = .returned v ∧ OwnI w.heap.size w' v (idsT l) ∧ Below w.heap.size w w' := by
  have H := Lib.hid (h.weak EnS.still (S' := fun k => k < w.heap.size) (fun k hk _ => hk))
  have Hs := Lib.hid hs
  obtain ⟨rfl, hlc, hcm⟩ := h.len
  unfold maxLen at hcm
  rw [show idsT l = idS (opsE l) from rfl]
  clear h hs
  refine (callsIn_wide (n := 8)).1 ?_
  refine callsIn_of_wp_marks Try.func16 rfl trivial ?_ rfl
  simp only [Try.ntmps16, List.size_toArray, List.length_cons, List.length_nil, Nat.reduceAdd, Nat.reduceSub, Array.replicate_succ, Array.replicate_zero, List.push_toArray, List.append_toArray, List.nil_append, List.cons_append]
  gi_wp2
  refine ⟨trivial, (callsIn_wide.2 (later_any _ _ _ _)).mono ?_⟩
  rintro e w4 ⟨rfl, rfl⟩
  gi_wp2
  have bS := (Boxed.new w 36 (.slice none 0 0)).alloc (.cells #[.slice p l.length c] 23)
  have bL := Boxed.new (w.alloc (.cells #[.slice none 0 0] 36)) 23 (.slice p l.length c)
  have hB0 : Below w.heap.size w ((w.alloc (.cells #[.slice none 0 0] 36)).alloc (.cells #[.slice p l.length c] 23)) := ((Below.refl _ w).alloc (Nat.le_refl _) _).alloc (by simp) _
  have hsz0 : ((w.alloc (.cells #[.slice none 0 0] 36)).alloc (.cells #[.slice p l.length c] 23)).heap.size = w.heap.size + 2 := by simp
  simp only [World.size_alloc] at bL
  generalize ((w.alloc (.cells #[.slice none 0 0] 36)).alloc (.cells #[.slice p l.length c] 23)) = W0 at *
  have Hsz := Lib.hid hsz0
  have HB0 := Lib.hid hB0
  have HI0 : Hid (IdQ w [] W0) := Lib.hid ⟨⟨_, bS, World.ownsRow_nil _ _ _ _⟩, hB0⟩
  have HL := Lib.hid bL
  clear bS bL hB0 hsz0
  refine wpIn_rangeFunc_ownH (F := Fence.wide) rfl (by omega) (gf := 50) (lb := #[.pointer (some ⟨w.heap.size + 1, 0, none⟩)]) rfl trivial (enters_of Try.func50 (by kernel_rfl) rfl)
    (later_stops Fence.wide 7 trivial rfl (by omega) (w.heap.size + 1) w.heap.size p c l (by omega) Hs.out W0 (by have := Hsz.out; omega) (by have := Hsz.out; omega) HL.out.cell (H.out.below EnS.still HB0.out))
    belowK_t (belowK_b (by have := Hsz.out; omega)) (Below.refl _ _) (fun _ => rfl)
    (fun pre W => IdQ w (idS (pre.map (fun x : Fin (opsE l).length => (opsE l)[x]))) W)
    (fun _ _ _ => False)
    (IdQ.own w W0.heap.size (fun pre : List (Fin (opsE l).length) => idS (pre.map (fun x => (opsE l)[x]))) (by have := Hsz.out; omega))
    (fun _ _ _ _ _ hs _ _ => hs) HI0.out
    (fun x a' W => ∃ Bx, w.heap.size < Bx ∧ Blk W Bx 55 #[.bool (opsE l)[x].set, .string (opsE l)[x].name, .int .i64 (opsE l)[x].id] ∧ a' = { tmps := #[.slice p l.length c, undef, .slice none 0 0, .pointer (some ⟨w.heap.size, 0, none⟩), .pointer (some ⟨Bx, 0, none⟩), .slice p l.length c, .func (.func 50) #[] #[.pointer (some ⟨w.heap.size + 1, 0, none⟩)], opV (opsE l)[x], undef, undef, undef, undef, undef, undef, undef, undef], defers := [] })
    (fun x a' _ X Y row hs hg hr => by obtain ⟨Bx, h1, h2, h3⟩ := hs; exact ⟨Bx, h1, opBox_own Bx (fun (_ : Unit) => (opsE l)[x]) () X Y row h2 hg (fun r e => (hr r e).2), h3⟩)
    ?assign ?body ?done ?stop
  case assign =>
    intro lb pre x W K hQ hK
    unfold opV
    have HQ := Lib.hid hQ
    clear hQ
    generalize (opsE l)[x] = o at *
    gi_wp2
    exact hK _ _ ((KeepsOthers.alloc _ _).from _) ((Below.refl _ W).alloc HQ.out.bel.size _) (HQ.out.alloc _) ⟨W.heap.size, (by obtain ⟨u, hs, _⟩ := HQ.out.s; exact hs.lt), Blk.new W _ _, rfl⟩
  case body =>
    rintro lb pre x a' W hlb hloop hQ ⟨Bx, hBx, hblk, rfl⟩ hlt
    have hst : idS ((pre ++ [x]).map (fun x : Fin (opsE l).length => (opsE l)[x])) = if (opsE l)[x].set = true then idS (pre.map (fun x : Fin (opsE l).length => (opsE l)[x])) ++ [(opsE l)[x].id] else idS (pre.map (fun x : Fin (opsE l).length => (opsE l)[x])) := by rw [List.map_append]; exact idS_snoc _ _
    have hpl : (idS (pre.map (fun x : Fin (opsE l).length => (opsE l)[x]))).length ≤ 30000 := Nat.le_trans (idS_le _) (by rw [List.length_map]; omega)
    have Hst := Lib.hid hst
    clear hst hlt hloop hlb
    unfold opV
    generalize idS (pre.map (fun x : Fin (opsE l).length => (opsE l)[x])) = out at *
    generalize (opsE l)[x] = o at *
    obtain ⟨os, on, oi⟩ := o
    dsimp only at *
    have hc := hblk.cell
    obtain ⟨u, hs, hu⟩ := hQ.s
    have cS := hs.cell
    have HQ := Lib.hid hQ
    cases os with
    | true =>
      have HE : Hid (∀ W', IdQ w (out ++ [oi]) W' → IdQ w (idS ((pre ++ [x]).map (fun x : Fin (opsE l).length => (opsE l)[x]))) W') := Lib.hid (fun W' h => by rw [Hst.out]; simpa using h)
      have Hs2 := Lib.hid hs
      have Hu := Lib.hid hu
      obtain ⟨i0, hi, hz0, hz1, hz2⟩ := info_parts Try.info3
      have hbs : w.heap.size ≤ (W.alloc (.cells #[.int .i64 oi] 3)).heap.size := by have := hQ.bel.size; rw [World.size_alloc]; omega
      clear hs hu hQ Hst
      gi_wp2_with (gi_at_builtin; refine wpListIn_append_own _ rfl _ _ 36 rfl w.heap.size 3 i0 (.int .i64 0) 1 8 Try.underlying36 hi hz0 hz1 hz2 rfl (by decide) _ _ _ rfl (Hu.out.alloc _) ⟨W.heap.size, 0, none⟩ 1 1 [.int .i64 oi] rfl rfl (cell_one_new _ _ _) (by simp [Value.oneCell']) (by simp only [maxLen]; omega) (by omega) hbs ?_; intro v' w1 hown' hgrow _; obtain ⟨g', cap', rfl⟩ := ownsRow_succ hown'; obtain ⟨hv1, hv2, hr2, hk2, hb2⟩ := Hs2.out.appended (by decide) Hu.out HQ.out.bel.size (Nat.le_refl _) hown' hgrow; have hc1 := hv1.cell; have hf1 := hv1.frozen; have HR2 := Lib.hid (And.intro hv2 (And.intro hr2 (And.intro hk2 hb2))); clear hv1 hv2 hr2 hk2 hb2 hown' hgrow hc cS)
      exact ⟨HR2.out.2.2.1.from _, HR2.out.2.2.2, HE.out _ ⟨⟨_, HR2.out.1, by rw [List.length_append, List.map_append]; exact HR2.out.2.1⟩, HQ.out.bel.trans HR2.out.2.2.2⟩⟩
    | false =>
      have HE : Hid (∀ W', IdQ w out W' → IdQ w (idS ((pre ++ [x]).map (fun x : Fin (opsE l).length => (opsE l)[x]))) W') := Lib.hid (fun W' h => by rw [Hst.out]; simpa using h)
      clear hs hu hQ Hst
      gi_wp2
      exact ⟨KeepsFrom.refl _ _, Below.refl _ _, HE.out _ HQ.out⟩
  case done =>
    rintro D ys W hD rfl hQ hK
    rw [fin_ops] at hQ
    obtain ⟨u, hs, hu⟩ := hQ.s
    have cS := hs.cell
    have HQ := Lib.hid hQ
    have HK := Lib.hid hK
    have Hu := Lib.hid hu
    clear hQ hK hs hu
    gi_wp2
    refine ⟨by simp, .inl ⟨_, _, rfl, run_takeDeferred HK.out, ?_⟩⟩
    refine ⟨_, results_tmp (t := 2) (by kernel_rfl) _ _ _, _, rfl, ?_, ?_⟩
    · exact OwnI.of_owns' (ownsRow_putObj Hu.out _ HK.out rfl)
    · exact (HQ.out.bel).trans (belowK_b (w := w) (Nat.le_refl _) W D _ _ (by have := Hsz.out; omega) HK.out rfl rfl)
  case stop =>
    rintro D cc pre W _ _ h _
    exact h.elim
end Go.Proofs.Ytacnmdlefonjmaa

/-
  A queue in memory (layer 21): New, Len, List, Head, Push.
-/
namespace Go.Proofs.Ytacnmdlefonjmaa
open Go.RowKit
set_option linter.unusedVariables false
set_option linter.unusedSimpArgs false

/-- A queue in memory: its struct in block sb, its entries in a row of the call's own; they lean on the blocks of E. -/
structure QO (t : TypeId) (B : Nat) (w : World) (sb : Nat) (E : Nat → Prop) (L : List EnV) (most : Nat) (v : Value) : Prop where
  blk : Blk w sb t #[v, .int .i64 (most : Int)]
  own : OwnEn B E w v L
  sB : B ≤ sb
  no : rowOf v ≠ some sb
  noE : ¬ E sb
  small : ∀ x ∈ L, EnSmall x
  len : L.length ≤ most
  lim : most ≤ 4096

/-- What a queue may lean on behind a step. -/
def gE (E : Nat → Prop) (v : Value) (w w' : World) : Nat → Prop := fun k => E k ∨ rowOf v = some k ∨ (w.heap.size ≤ k ∧ k < w'.heap.size)
/-- What a step on a queue may turn. -/
abbrev QT (sb : Nat) (v : Value) (w w' : World) : Prop := Touch (fun i => i = sb ∨ rowOf v = some i) w w'

section
variable {t : TypeId} {B : Nat} {w w' : World} {sb : Nat} {E E' : Nat → Prop} {L : List EnV} {most : Nat} {v : Value}
theorem QO.touch {p : Nat → Prop} (h : QO t B w sb E L most v) (ht : Touch p w w') (h1 : ¬ p sb) (h2 : ∀ k, rowOf v = some k → ¬ p k) (h3 : ∀ k, k < w.heap.size → E k → rowOf v ≠ some k → ¬ p k) : QO t B w' sb E L most v :=
  ⟨ht.blk h.blk h1, h.own.touch EnS.still ht h2 (fun k hk hs hr => ⟨hs, h3 k hk hs hr⟩), h.sB, h.no, h.noE, h.small, h.len, h.lim⟩
theorem QO.still (h : QO t B w sb E L most v) (hb : Below w.heap.size w w') : QO t B w' sb E L most v :=
  h.touch (Touch.of_below (p := fun _ => False) hb) (fun e => e) (fun _ _ e => e) (fun _ _ _ _ e => e)
theorem QO.weak (h : QO t B w sb E L most v) (hE : ∀ k, k < w.heap.size → E k → E' k) (hn : ¬ E' sb) : QO t B w sb E' L most v :=
  ⟨h.blk, h.own.touch EnS.still (Touch.refl (fun _ => False) w) (fun _ _ e => e) (fun k hk hs _ => ⟨hE k hk hs, fun e => e⟩), h.sB, h.no, hn, h.small, h.len, h.lim⟩
theorem QO.slice (h : QO t B w sb E L most v) : ∃ p c, v = .slice p L.length c ∧ SliceS 8 EnS (fun k => E k ∨ rowOf v = some k) w [.slice p L.length c] L := by
  obtain ⟨p, c, e, hs⟩ := h.own.slice EnS.still (S' := fun k => E k ∨ rowOf v = some k) (fun _ _ h => .inl h) (fun _ h => .inr h)
  exact ⟨p, c, e, hs⟩
/-- New entries. -/
theorem QO.set {L' : List EnV} {v' : Value} (h : Blk w sb t #[v, .int .i64 (most : Int)]) (hB : B ≤ sb) (ho : OwnEn B E w v' L') (hn : rowOf v' ≠ some sb) (hE : ¬ E sb) (hs : ∀ x ∈ L', EnSmall x) (hl : L'.length ≤ most) (hm : most ≤ 4096) : QO t B (w.setCell ⟨sb, 0, none⟩ v') sb E L' most v' := by
  have hT : Touch (fun i => i = sb) w (w.setCell ⟨sb, 0, none⟩ v') := (Touch.refl (fun i => i = sb) w).setCell (x := ⟨sb, 0, none⟩) (fun _ => rfl) _
  exact ⟨by simpa using h.set_ 0 v', ho.touch EnS.still hT (fun k hk e => hn (by rw [hk, e])) (fun k _ hs _ => ⟨hs, fun e => hE (by rw [← e]; exact hs)⟩), hB, hn, hE, hs, hl, hm⟩
end

def enZero : EnV := ⟨0, false, ⟨#[]⟩, ⟨#[]⟩, [], [], [], []⟩

end Go.Proofs.Ytacnmdlefonjmaa

/-
  Queue's Head, cut and Pop (layer 21).
-/
namespace Go.Proofs.Ytacnmdlefonjmaa
open Go.RowKit
set_option linter.unusedVariables false
set_option linter.unusedSimpArgs false

end Go.Proofs.Ytacnmdlefonjmaa

/-
  Queue's Head and Pop (layer 21).
-/
namespace Go.Proofs.Ytacnmdlefonjmaa
open Go.RowKit
set_option linter.unusedVariables false
set_option linter.unusedSimpArgs false

/-- An entry is stored into a block of its own. -/
abbrev setEn (w : World) (g : Nat) (x : EnV) (a : EnP) : World :=
  ((((((((w.setCell ⟨g, 0, none⟩ (.int .i64 x.kind)).setCell ⟨g, 1, none⟩ (.bool x.hide)).setCell ⟨g, 2, none⟩ (.string x.frm)).setCell ⟨g, 3, none⟩ (.string x.dst)).setCell ⟨g, 4, none⟩ (.slice a.pg x.good.length a.cg)).setCell ⟨g, 5, none⟩ (.slice a.pb x.bad.length a.cb)).setCell ⟨g, 6, none⟩ (.slice a.pc x.cache.length a.cc)).setCell ⟨g, 7, none⟩ (.slice a.pr x.reply.length a.cr))

theorem setEn_touch (w : World) (g : Nat) (x : EnV) (a : EnP) : Touch (fun k => k = g) w (setEn w g x a) :=
  ((((((((Touch.refl (fun k => k = g) w).setCell (x := ⟨g, 0, none⟩) (fun _ => rfl) _).setCell (x := ⟨g, 1, none⟩) (fun _ => rfl) _).setCell (x := ⟨g, 2, none⟩) (fun _ => rfl) _).setCell (x := ⟨g, 3, none⟩) (fun _ => rfl) _).setCell (x := ⟨g, 4, none⟩) (fun _ => rfl) _).setCell (x := ⟨g, 5, none⟩) (fun _ => rfl) _).setCell (x := ⟨g, 6, none⟩) (fun _ => rfl) _).setCell (x := ⟨g, 7, none⟩) (fun _ => rfl) _

theorem setEn_blk {w : World} {g : Nat} (x : EnV) (a : EnP) (h : Blk w g 52 enZ) : Blk (setEn w g x a) g 52 #[.int .i64 x.kind, .bool x.hide, .string x.frm, .string x.dst, .slice a.pg x.good.length a.cg, .slice a.pb x.bad.length a.cb, .slice a.pc x.cache.length a.cc, .slice a.pr x.reply.length a.cr] := by
  have h8 := (((((((h.set_ 0 (.int .i64 x.kind)).set_ 1 (.bool x.hide)).set_ 2 (.string x.frm)).set_ 3 (.string x.dst)).set_ 4 (.slice a.pg x.good.length a.cg)).set_ 5 (.slice a.pb x.bad.length a.cb)).set_ 6 (.slice a.pc x.cache.length a.cc)).set_ 7 (.slice a.pr x.reply.length a.cr)
  unfold enZ at h8
  simpa using h8

def enZeroP : EnP := ⟨none, 0, none, 0, none, 0, none, 0⟩

end Go.Proofs.Ytacnmdlefonjmaa

/-
  slices.IndexFunc and ContainsFunc at entries; which entries are few; queue's Skip (layer 21).
-/
namespace Go.Proofs.Ytacnmdlefonjmaa
open Go.RowKit
set_option linter.unusedVariables false
set_option linter.unusedSimpArgs false

/-- How many stand ahead of the first one that P takes. -/
def ahead (P : EnV → Bool) (L : List EnV) : Nat := (L.takeWhile (fun x => !P x)).length

theorem ahead_le (P : EnV → Bool) : ∀ L, ahead P L ≤ L.length
  | [] => by simp [ahead]
  | x :: L => by
    have := ahead_le P L
    unfold ahead at *
    rw [List.takeWhile_cons]
    split <;> simp <;> omega
theorem ahead_go (P : EnV → Bool) : ∀ (L : List EnV) (k : Nat) (hk : k < L.length), k ≤ ahead P L → P L[k] = false → k + 1 ≤ ahead P L
  | [], k, hk, _, _ => by simp at hk
  | x :: L, 0, hk, _, h => by
    have h : P x = false := h
    unfold ahead
    rw [List.takeWhile_cons, h]
    simp
  | x :: L, k + 1, hk, hle, h => by
    unfold ahead at *
    rw [List.takeWhile_cons] at hle ⊢
    split at hle
    · rename_i hx
      rw [if_pos hx]
      have := ahead_go P L k (by simpa using hk) (by simpa [ahead] using hle) (by simpa using h)
      unfold ahead at this
      simpa using this
    · simp at hle
theorem ahead_at (P : EnV → Bool) : ∀ (L : List EnV) (k : Nat) (hk : k < L.length), k ≤ ahead P L → P L[k] = true → ahead P L = k
  | [], k, hk, _, _ => by simp at hk
  | x :: L, 0, hk, _, h => by
    have h : P x = true := h
    unfold ahead
    rw [List.takeWhile_cons, h]
    simp
  | x :: L, k + 1, hk, hle, h => by
    unfold ahead at *
    rw [List.takeWhile_cons] at hle ⊢
    split at hle
    · rename_i hx
      rw [if_pos hx]
      have := ahead_at P L k (by simpa using hk) (by simpa [ahead] using hle) (by simpa using h)
      unfold ahead at this
      simpa using this
    · simp at hle
theorem ahead_all (P : EnV → Bool) : ∀ L, ahead P L = L.length → ∀ x ∈ L, P x = false
  | [], _, x, hx => by simp at hx
  | y :: L, h, x, hx => by
    unfold ahead at h
    rw [List.takeWhile_cons] at h
    split at h
    · rename_i hy
      rcases List.mem_cons.1 hx with rfl | hx
      · simpa using hy
      · exact ahead_all P L (by simpa [ahead] using h) x hx
    · simp at h

/-- What IndexFunc answers. -/
def IdxR (P : EnV → Bool) (L : List EnV) (r : Int) : Prop := (r = (ahead P L : Nat) ∧ ahead P L < L.length) ∨ (r = -1 ∧ ahead P L = L.length)

def isSync (x : EnV) : Bool := x.kind == 8
def longE (x : EnV) : Bool := decide ((10 : Int) < (x.good.length : Int)) || (decide ((10 : Int) < (x.bad.length : Int)) || (decide ((10 : Int) < (x.cache.length : Int)) || (decide ((300 : Int) < (x.reply.length : Int)) || (decide ((300 : Int) < (x.frm.size : Int)) || decide ((300 : Int) < (x.dst.size : Int))))))

set_option maxRecDepth 100000 in
set_option maxHeartbeats 2000000 in
theorem longE_any (x : EnV) (a : EnP) (w : World) : Calls Try.prog 34 #[enArg x a] w fun e w' => e = .returned (.bool (longE x)) ∧ Below w.heap.size w w' := by
  have Hb := Lib.hid ((Below.refl w.heap.size w).alloc (Nat.le_refl _) (.cells (enArg x a).cells 52))
  have He : Hid (longE x = (decide ((10 : Int) < (x.good.length : Int)) || (decide ((10 : Int) < (x.bad.length : Int)) || (decide ((10 : Int) < (x.cache.length : Int)) || (decide ((300 : Int) < (x.reply.length : Int)) || (decide ((300 : Int) < (x.frm.size : Int)) || decide ((300 : Int) < (x.dst.size : Int)))))))) := Lib.hid rfl
  generalize longE x = r at *
  obtain ⟨xk, xh, xf, xd, xg, xb, xc, xr⟩ := x
  unfold enArg at *
  simp only [Value.cells] at Hb
  dsimp only at *
  go_enter Try.func34, Try.ntmps34
  go_wp2
  all_goals
    go_ret
    refine ⟨ret_bool ?_, Hb.out⟩
    rw [He.out]
    first | (simp only [Bool.or_assoc]; done) | (simp [*]; done) | (simp; omega)

set_option maxRecDepth 100000 in
set_option maxHeartbeats 4000000 in
/-- slices.IndexFunc at entries, with remuda/remudaplain.Entries$1. -/
theorem indexFunc_longE (S : Nat → Prop) (p : Option Addr) (n c : Nat) (L : List EnV) (w : World) (h : SliceS 8 EnS S w [.slice p n c] L) :
    Calls Try.prog 49 #[.slice p n c, .func (.func 34) #[] #[]] w fun e w' => ∃ r, e = .returned (.int .i64 r) ∧ IdxR longE L r ∧ Below w.heap.size w w' := by
  have H := Lib.hid h
  obtain ⟨rfl, hlc, hcm⟩ := h.len
  unfold maxLen at hcm
  clear h
  go_enter Try.func49, Try.ntmps49
  go_wp2_with fail
  go_loopw [5, 8] (fun _ i wr => ∃ k : Nat, k ≤ L.length ∧ i = .int .i64 k ∧ k ≤ ahead longE L ∧ Below w.heap.size w wr) (fun _ i _ => L.length - (intOf i).toNat)
  case atStart => exact ⟨0, Nat.zero_le _, rfl, Nat.zero_le _, Below.refl _ _⟩
  case round =>
    obtain ⟨k, hk, rfl, hka, hb⟩ := hrel
    have hsz := hb.size
    have Hb := Lib.hid hb
    have Hka := Lib.hid hka
    clear hka
    by_cases hlt : k < L.length
    · obtain ⟨b, o, a, rfl, hS, hbl, hL, c0, c1, c2, c3, c4, c5, c6, c7⟩ := en_at (H.out.below EnS.still hb) hlt
      have Hgo := Lib.hid (ahead_go longE L k hlt)
      have Hat := Lib.hid (ahead_at longE L k hlt)
      clear hL hb hS
      generalize L[k] = x at *
      have Hc := Lib.hid (fun w0 => longE_any x a w0)
      unfold enArg at Hc
      have hlti : (k : Int) < (L.length : Int) := by omega
      go_wp2_with fail
      refine (Hc.out _).mono ?_
      rintro e w1 ⟨rfl, hb1⟩
      have Hb1 := Lib.hid (Hb.out.trans (hb1.mono hsz))
      clear hb1
      cases hP : longE x with
      | false =>
        have Hn := Lib.hid (Hgo.out Hka.out hP)
        clear hP
        go_wp2_with fail
        go_roundw
        case rel => exact ⟨k + 1, by omega, by go_num, Hn.out, Hb1.out⟩
        case measure => simp [intOf]; omega
      | true =>
        have Hn := Lib.hid (Hat.out Hka.out hP)
        clear hP
        go_wp2_with fail
        go_ret
        exact ⟨_, rfl, .inl ⟨by rw [Hn.out], by rw [Hn.out]; exact hlt⟩, Hb1.out⟩
    · obtain rfl : k = L.length := by omega
      have Hn := Lib.hid (Nat.le_antisymm (ahead_le longE L) Hka.out)
      go_wp2
      go_ret
      exact ⟨_, rfl, .inr ⟨rfl, Hn.out⟩, Hb.out⟩

/-- Entries are few and short. -/
def EnFew (x : EnV) : Prop := x.good.length ≤ 10 ∧ x.bad.length ≤ 10 ∧ x.cache.length ≤ 10 ∧ x.reply.length ≤ 300 ∧ x.frm.size ≤ 300 ∧ x.dst.size ≤ 300
theorem EnFew.small {x : EnV} (h : EnFew x) : EnSmall x := by
  unfold EnFew at h
  unfold EnSmall
  omega
theorem few_of {x : EnV} (h : longE x = false) : EnFew x := by
  simp only [longE, Bool.or_eq_false_iff, decide_eq_false_iff_not] at h
  unfold EnFew
  omega

/-- What Entries answers. -/
def FewR (L : List EnV) (many : Nat) (b : Bool) : Prop := b = true → L.length ≤ many ∧ ∀ x ∈ L, EnFew x

set_option maxRecDepth 100000 in
theorem containsLong (S : Nat → Prop) (p : Option Addr) (n c : Nat) (L : List EnV) (w : World) (h : SliceS 8 EnS S w [.slice p n c] L) :
    Calls Try.prog 33 #[.slice p n c, .func (.func 34) #[] #[]] w fun e w' => ∃ b, e = .returned (.bool b) ∧ (b = false → ∀ x ∈ L, EnFew x) ∧ Below w.heap.size w w' := by
  have H := Lib.hid (indexFunc_longE S p n c L w h)
  clear h
  go_enter Try.func33, Try.ntmps33
  go_wp2_with fail
  refine H.out.mono ?_
  rintro e w1 ⟨r, rfl, hr, hb⟩
  have Hb := Lib.hid hb
  clear hb
  rcases hr with ⟨rfl, hlt⟩ | ⟨rfl, he⟩
  · clear hlt
    go_wp2
    go_ret
    exact ⟨_, rfl, fun e => by simp at e, Hb.out⟩
  · have He := Lib.hid (ahead_all longE L he)
    clear he
    go_wp2
    go_ret
    exact ⟨_, rfl, fun _ x hx => few_of (He.out x hx), Hb.out⟩

set_option maxRecDepth 100000 in
theorem entries_any (S : Nat → Prop) (p : Option Addr) (n c : Nat) (L : List EnV) (many : Nat) (w : World) (h : SliceS 8 EnS S w [.slice p n c] L) :
    Calls Try.prog 9 #[.slice p n c, .int .i64 (many : Int)] w fun e w' => ∃ b, e = .returned (.bool b) ∧ FewR L many b ∧ Below w.heap.size w w' := by
  obtain ⟨rfl, hlc, hcm⟩ := h.len
  have H := Lib.hid (containsLong S p _ c L w h)
  clear h
  by_cases hl : (many : Int) < (L.length : Int)
  · go_enter Try.func9, Try.ntmps9
    go_wp2_with fail
    go_ret
    exact ⟨false, rfl, (fun e => by simp at e), Below.refl _ _⟩
  · have Hl : Hid (L.length ≤ many) := Lib.hid (by omega)
    go_enter Try.func9, Try.ntmps9
    go_wp2_with fail
    refine H.out.mono ?_
    rintro e w1 ⟨b, rfl, hb, hw⟩
    have Hw := Lib.hid hw
    have Hf : Hid (FewR L many (!b)) := Lib.hid (fun e => ⟨Hl.out, hb (by simpa using e)⟩)
    clear hb hw
    go_wp2_with fail
    go_ret
    exact ⟨_, rfl, Hf.out, Hw.out⟩

end Go.Proofs.Ytacnmdlefonjmaa

/-
  When two lists are the same; ops and cache ops compared (layer 21).
-/
namespace Go.Proofs.Ytacnmdlefonjmaa
open Go.RowKit
set_option linter.unusedVariables false
set_option linter.unusedSimpArgs false

def opEq (a b : OpV) : Bool := (a.set == b.set) && ((a.name.toList == b.name.toList) && (a.id == b.id))
def caEq (a b : CaV) : Bool := (a.kind == b.kind) && (a.id == b.id)
def intEq (a b : Int) : Bool := a == b
theorem opEq_self (a : OpV) : opEq a a = true := by simp [opEq]
theorem caEq_self (a : CaV) : caEq a a = true := by simp [caEq]
theorem intEq_self (a : Int) : intEq a a = true := by simp [intEq]

theorem neq_op (x y : OpV) (w : World) : (binOp .neq 55 (.agg #[.bool x.set, .string x.name, .int .i64 x.id]) (.agg #[.bool y.set, .string y.name, .int .i64 y.id])).run Try.prog w = .ok (.bool (!opEq x y)) w := by
  have hS : Try.prog.underlying 55 = some (.struct (Try.prog.fieldsOf 55)) := by kernel_rfl
  have hp : Try.prog.stoodInHeld 55 = false := by kernel_rfl
  have u1 := Try.underlying4
  have u2 := Try.underlying9
  have u3 := Try.underlying3
  have a1 := Try.isAgg4
  have a2 := Try.isAgg9
  have a3 := Try.isAgg3
  have z1 := Try.sizeOf4
  have z2 := Try.sizeOf9
  have z3 := Try.sizeOf3
  rw [run_neq_struct, show (10000 : Nat) = 9999 + 1 from rfl, run_equalIn_agg w 9999 55 _ _ hS hp]
  simp only [Program.fieldsOf, Try.underlying55]
  unfold opEq
  obtain ⟨x1, x2, x3⟩ := x
  obtain ⟨y1, y2, y3⟩ := y
  go_simp
  by_cases h1 : x1 = y1 <;> by_cases h2 : x2.toList = y2.toList <;> by_cases h3 : x3 = y3 <;> simp [h1, h2, h3]
theorem neq_ca (x y : CaV) (w : World) : (binOp .neq 186 (.agg #[.int .i64 x.kind, .int .i64 x.id]) (.agg #[.int .i64 y.kind, .int .i64 y.id])).run Try.prog w = .ok (.bool (!caEq x y)) w := by
  have hS : Try.prog.underlying 186 = some (.struct (Try.prog.fieldsOf 186)) := by kernel_rfl
  have hp : Try.prog.stoodInHeld 186 = false := by kernel_rfl
  have u3 := Try.underlying3
  have a3 := Try.isAgg3
  have z3 := Try.sizeOf3
  rw [run_neq_struct, show (10000 : Nat) = 9999 + 1 from rfl, run_equalIn_agg w 9999 186 _ _ hS hp]
  simp only [Program.fieldsOf, Try.underlying186]
  unfold caEq
  obtain ⟨x1, x2⟩ := x
  obtain ⟨y1, y2⟩ := y
  go_simp
  by_cases h1 : x1 = y1 <;> by_cases h2 : x2 = y2 <;> simp [h1, h2]

end Go.Proofs.Ytacnmdlefonjmaa

/-
  The contract of slices.Equal at int (layer 21).
-/
namespace Go.Proofs.Ytacnmdlefonjmaa
open Go.RowKit
set_option linter.unusedVariables false
set_option linter.unusedSimpArgs false

set_option maxRecDepth 100000 in
set_option maxHeartbeats 4000000 in
/-- slices.Equal at int. -/
theorem equal_ints (S S' : Nat → Prop) (p q : Option Addr) (n m c d : Nat) (xs ys : List Int) (w : World) (hx : SliceS 1 IntU S w [.slice p n c] xs) (hy : SliceS 1 IntU S' w [.slice q m d] ys) :
    Calls Try.prog 15 #[.slice p n c, .slice q m d] w fun e w' => e = .returned (.bool (listEq intEq xs ys)) ∧ ∃ r, w' = w.drewN r := by
  have Hx := Lib.hid hx
  have Hy := Lib.hid hy
  obtain ⟨rfl, hlc, hcm⟩ := hx.len
  obtain ⟨rfl, hld, hdm⟩ := hy.len
  unfold maxLen at hcm hdm
  clear hx hy
  by_cases hnm : xs.length = ys.length
  · have Hnm := Lib.hid hnm
    rw [← hnm] at hld ⊢
    clear hnm
    go_enter Try.func15, Try.ntmps15
    go_wp2_with fail
    go_loopw [5, 13] (fun _ i wr => ∃ k r : Nat, k ≤ xs.length ∧ i = .int .i64 k ∧ wr = w.drewN r ∧ listEq intEq xs ys = listEq intEq (xs.drop k) (ys.drop k)) (fun _ i _ => xs.length - (intOf i).toNat)
    case atStart => exact ⟨0, 0, Nat.zero_le _, rfl, rfl, rfl⟩
    case round =>
      obtain ⟨k, r, hk, rfl, rfl, he⟩ := hrel
      have He := Lib.hid he
      clear he
      by_cases hlt : k < xs.length
      · have hlt' : k < ys.length := by rw [← Hnm.out]; exact hlt
        obtain ⟨b, o, cs, rfl, _, hbl, _, hc, hr⟩ := Hx.out.elem (by omega) k xs[k] (List.getElem?_eq_getElem hlt)
        obtain ⟨b', o', cs', rfl, _, hbl', _, hc', hr'⟩ := Hy.out.elem (by omega) k ys[k] (List.getElem?_eq_getElem hlt')
        unfold IntU at hr hr'
        subst hr hr'
        have c0 : (w.drewN r).cell? _ = _ := hc 0 _ rfl
        have e0 : (w.drewN r).cell? _ = _ := hc' 0 _ rfl
        rw [Nat.add_zero, Nat.mul_one] at c0 e0
        have Hst := Lib.hid (listEq_step (f := intEq) hlt hlt')
        clear hc hc' hbl hbl'
        generalize hX : xs[k] = x at *
        generalize hY : ys[k] = y at *
        clear hX hY hlt'
        obtain ⟨wq, hwq⟩ : ∃ wq, wq = w.drewN r := ⟨_, rfl⟩
        rw [← hwq] at c0 e0 ⊢
        have Hwq := Lib.hid hwq
        clear hwq
        have hlti : (k : Int) < (xs.length : Int) := by omega
        cases hxy : intEq x y with
        | true =>
          rw [hxy, Bool.true_and] at Hst
          obtain rfl : x = y := by simpa [intEq] using hxy
          clear hxy
          go_wp2_with fail
          go_region
          all_goals
            go_wp2_with fail
            go_roundw
            case rel => exact ⟨k + 1, r + 1, by omega, by go_num, by rw [Hwq.out]; rfl, He.out.trans Hst.out⟩
            case measure => simp [intOf]; omega
        | false =>
          rw [hxy, Bool.false_and] at Hst
          have hne : ¬ x = y := by simpa [intEq] using hxy
          clear hxy
          have Hfin := Lib.hid (He.out.trans Hst.out)
          go_wp2_with fail
          go_region
          all_goals
            go_wp2_with fail
            go_ret
            exact ⟨ret_bool Hfin.out.symm, r + 1, by rw [Hwq.out]; rfl⟩
      · obtain rfl : k = xs.length := by omega
        have Hfin := Lib.hid (He.out.trans (listEq_end Hnm.out))
        go_wp2
        go_ret
        exact ⟨ret_bool Hfin.out.symm, r, rfl⟩
  · have Hfin := Lib.hid (listEq_len (f := intEq) hnm)
    have hnmi : ¬ (xs.length : Int) = (ys.length : Int) := by omega
    go_enter Try.func15, Try.ntmps15
    go_wp2
    go_ret
    exact ⟨ret_bool Hfin.out.symm, 0, rfl⟩

end Go.Proofs.Ytacnmdlefonjmaa

/-
  Both tables side by side; whether a name is seen as it will be (layer 16).
-/
namespace Go.Proofs.Ytacnmdlefonjmaa
open Go.RowKit Go.Maps
set_option linter.unusedVariables false
set_option linter.unusedSimpArgs false

/-- The program's table and the document's, side by side. -/
def BoQ (B : Nat) (w : World) (tb mb xb most : Nat) (T : TbV) : Prop := ∃ v L, TbO B w tb mb most T ∧ XbO B w xb most v L T ∧ xb ≠ tb ∧ xb ≠ mb ∧ rowOf v ≠ some tb ∧ rowOf v ≠ some mb
theorem BoQ.still {B : Nat} {w w1 : World} {tb mb xb most : Nat} {T : TbV} (h : BoQ B w tb mb xb most T) (hb : Below w.heap.size w w1) : BoQ B w1 tb mb xb most T := by
  obtain ⟨v, L, h1, h2, h3⟩ := h
  exact ⟨v, L, h1.still hb, h2.still hb, h3⟩
/-- Between the two steps. -/
def BoH (B : Nat) (w : World) (tb mb xb most : Nat) (T T' : TbV) : Prop := ∃ v L, TbO B w tb mb most T' ∧ XbO B w xb most v L T ∧ xb ≠ tb ∧ xb ≠ mb ∧ rowOf v ≠ some tb ∧ rowOf v ≠ some mb
theorem bo_setT {B : Nat} {w : World} {tb mb xb most : Nat} {T : TbV} (s : ByteArray) (i : Int) (h : BoQ B w tb mb xb most T) (hB : B ≤ w.heap.size) (hs : s.size ≤ maxLen) (hi : (Lit.int .i64 i).wf = true) :
    Calls Try.prog 31 #[.pointer (some ⟨tb, 0, none⟩), .string s, .int .i64 i] w fun e w' => (∃ a b, e = .returned (.tuple #[a, b])) ∧ BoH B w' tb mb xb most T (T.set most (nmB s) i) ∧ Below B w w' ∧ Touch (fun k => k = mb) w w' := by
  obtain ⟨v, L, h1, h2, h3, h4, h5, h6⟩ := h
  refine (tSet_any B tb mb most T s i w h1 hs hi).mono ?_
  rintro e w1 ⟨rfl, ht, hT⟩
  exact ⟨⟨_, _, rfl⟩, ⟨v, L, ht, h2.touch hT h4 (fun k hk e => h6 (by rw [hk, e])), h3, h4, h5, h6⟩, hT.below hB (fun k e => by rw [e]; exact h1.mB), hT⟩
theorem bo_setX {B : Nat} {w : World} {tb mb xb most : Nat} {T T' : TbV} (s : ByteArray) (i : Int) (h : BoH B w tb mb xb most T T') (hT' : T' = T.set most (nmB s) i) (hB : B ≤ w.heap.size) (hn : T.n ≤ 50000) :
    Calls Try.prog 32 #[.pointer (some ⟨xb, 0, none⟩), .string s, .int .i64 i] w fun e w' => (∃ a b, e = .returned (.tuple #[a, b])) ∧ BoQ B w' tb mb xb most T' ∧ Below B w w' := by
  obtain ⟨v, L, h1, h2, h3, h4, h5, h6⟩ := h
  have hl := h1.lt
  refine (xSet_any B xb most v L T s i w h2 hB (by have := h2.rd.len; omega)).mono ?_
  rintro e w1 ⟨rfl, v', L', r1, r2, r3⟩
  rw [← hT'] at r1
  refine ⟨⟨_, _, rfl⟩, ⟨v', L', h1.touch r3 (fun e => ?_) (fun e => ?_), r1, h3, h4, fun e => ?_, fun e => ?_⟩, r3.below hB (fun k e => ?_)⟩
  · rcases e with e | e
    · exact h3 e.symm
    · exact h5 e
  · rcases e with e | e
    · exact h4 e.symm
    · exact h6 e
  · rcases r2 tb e with e | e
    · exact h5 e
    · omega
  · rcases r2 mb e with e | e
    · exact h6 e
    · omega
  · rcases e with e | e
    · rw [e]; exact h2.sB
    · exact (h2.own.row k e).1

set_option maxRecDepth 100000 in
set_option maxHeartbeats 8000000 in
theorem both_any (S : Nat → Prop) (m : Nat) (hm : m < 256) (p : Option Addr) (n c : Nat) (first : List OpV) (w : World) (hs : SliceS 3 OpS S w [.slice p n c] first) (hok : ∀ o ∈ first, OkOp o) :
    Calls Try.prog 8 #[.int .u8 (m : Int), .slice p n c] w fun e w' => ∃ tb mb xb T, e = .returned (.tuple #[.pointer (some ⟨tb, 0, none⟩), .pointer (some ⟨xb, 0, none⟩)]) ∧ BoQ w.heap.size w' tb mb xb (1 + m % 30) T ∧ T.n ≤ 30 ∧ Below w.heap.size w w' := by
  have HS := Lib.hid (hs.weak OpS.still (S' := fun k => k < w.heap.size) (fun k hk _ => hk))
  obtain ⟨rfl, hlc, hcm⟩ := hs.len
  unfold maxLen at hcm
  have Hok := Lib.hid hok
  have hce : ((1 + m % 30 : Nat) : Int) = 1 + (m : Int) % 30 := by omega
  have hmo : 1 + m % 30 ≤ 30 := by omega
  have hN := fun wq => tNew_ok (1 + m % 30) wq (by omega) (by omega)
  have hX := fun wq => xNew_ok (1 + m % 30) wq (by omega) (by omega)
  rw [hce] at hN hX
  generalize 1 + m % 30 = most at *
  have HN := Lib.hid hN
  have HX := Lib.hid hX
  have hw1 : IntKind.u8.wrap ((m : Int) % 30) = (m : Int) % 30 := by
    show _ % 256 = _
    omega
  clear hs hok hN hX hce
  go_enter Try.func8, Try.ntmps8
  go_wp2_with fail
  refine (HN.out _).mono ?_
  rintro e w1 ⟨rfl, ht1, hb1⟩
  have Ht1 := Lib.hid ht1
  have Hb1 := Lib.hid hb1
  clear ht1 hb1
  go_wp2_with fail
  refine (HX.out _).mono ?_
  rintro e w2 ⟨rfl, hx2, hb2⟩
  have hlt := Ht1.out.lt
  have HQ : Hid (BoQ w.heap.size w2 (w.heap.size + 1) w.heap.size w1.heap.size most tbNo) := Lib.hid ⟨_, _, Ht1.out.still hb2, hx2.base Hb1.out.size, by omega, by omega, by simp [rowOf], by simp [rowOf]⟩
  have Hb2 := Lib.hid (Hb1.out.trans (hb2.mono Hb1.out.size))
  clear hx2 hb2 hlt Ht1 HN HX
  generalize w1.heap.size = xb at *
  go_wp2_with fail
  go_loopw [30] (fun i wr => ∃ (k : Nat) (T : TbV), k ≤ first.length ∧ i = .int .i64 k ∧ BoQ w.heap.size wr (w.heap.size + 1) w.heap.size xb most T ∧ Below w.heap.size w wr) (fun i _ => first.length - (intOf i).toNat)
  case atStart => exact ⟨0, tbNo, Nat.zero_le _, rfl, HQ.out, Hb2.out⟩
  case round =>
    obtain ⟨k, T, hk, rfl, hq, hb⟩ := hrel
    have Hq := Lib.hid hq
    have Hb := Lib.hid hb
    clear hq hb HQ Hb2
    by_cases hlt : k < first.length
    · have hlti : (k : Int) < (first.length : Int) := by omega
      have hwk : IntKind.i64.wrap ((k : Int) + 1) = (k : Int) + 1 := by rw [IntKind.wrap_i64]; omega
      have Hql : Hid (w.heap.size < wr.heap.size) := Lib.hid (by obtain ⟨v, L, h1, _⟩ := Hq.out; exact h1.lt.2)
      obtain ⟨b, o, rfl, hSb, hbl, d0, d1, d2⟩ := opL_at (HS.out.below OpS.still Hb.out) hlt
      have hoo := Hok.out _ (List.getElem_mem hlt)
      generalize first[k] = y at *
      obtain ⟨ys, yn, yi⟩ := y
      dsimp only at *
      have hTn : Hid (T.n ≤ 30) := Lib.hid (by obtain ⟨v, L, h1, _⟩ := Hq.out; exact Nat.le_trans h1.len hmo)
      have hal := (Below.refl wr.heap.size wr).alloc (Nat.le_refl _) (.cells #[.bool ys, .string yn, .int .i64 yi] 55)
      have Hqa := Lib.hid (Hq.out.still hal)
      have Hba := Lib.hid (Hb.out.alloc Hb.out.size (.cells #[.bool ys, .string yn, .int .i64 yi] 55))
      have hopc := (Blk.new wr 55 #[.bool ys, .string yn, .int .i64 yi]).cell
      have HC := Lib.hid (bo_setT yn yi Hqa.out Hba.out.size hoo.1 hoo.2)
      have hopl := (Blk.new wr 55 #[.bool ys, .string yn, .int .i64 yi])
      have Hopl := Lib.hid hopl
      clear hal hopl
      by_cases h40 : (k : Int) < 40
      · have hd40 : decide ((k : Int) < 40) = true := by simpa using h40
        by_cases h300 : ((yn.size : Nat) : Int) ≤ 300
        · have hd300 : decide (((yn.size : Nat) : Int) ≤ 300) = true := by simpa using h300
          go_wp2_with fail
          refine HC.out.mono ?_
          rintro e w5 ⟨⟨x1, x2, rfl⟩, hh5, hb5, hbo⟩
          have hop5 := (hbo.blk Hopl.out (fun e => by have := Hb.out.size; have := Hql.out; omega)).cell
          have HC5 := Lib.hid (bo_setX yn yi hh5 rfl (Nat.le_trans Hba.out.size hb5.size) (by have := hTn.out; omega))
          have Hb5 := Lib.hid (Hba.out.trans hb5)
          clear hh5 hb5 hopc hbo
          go_wp2_with fail
          refine HC5.out.mono ?_
          rintro e w6 ⟨⟨x3, x4, rfl⟩, hq6, hb6⟩
          have Hq6 := Lib.hid hq6
          have Hb6 := Lib.hid (Hb5.out.trans hb6)
          clear hq6 hb6 HC5 hop5
          go_wp2_with fail
          go_roundw
          case rel => exact ⟨k + 1, _, by omega, by go_num, Hq6.out, Hb6.out⟩
          case measure => simp [intOf]; omega
        · have hd300 : decide (((yn.size : Nat) : Int) ≤ 300) = false := by simpa using h300
          clear HC
          go_wp2_with fail
          go_roundw
          case rel => exact ⟨k + 1, T, by omega, by go_num, Hqa.out, Hba.out⟩
          case measure => simp [intOf]; omega
      · have hd40 : decide ((k : Int) < 40) = false := by simpa using h40
        clear HC
        go_wp2_with fail
        go_roundw
        case rel => exact ⟨k + 1, T, by omega, by go_num, Hqa.out, Hba.out⟩
        case measure => simp [intOf]; omega
    · obtain rfl : k = first.length := by omega
      go_wp2_with fail
      go_ret2
      refine ⟨_, _, _, T, rfl, Hq.out, ?_, Hb.out⟩
      obtain ⟨v, L, h1, _⟩ := Hq.out
      exact Nat.le_trans h1.len hmo
end Go.Proofs.Ytacnmdlefonjmaa

/-
  Whether a name is seen as it will be (layer 16).
-/
namespace Go.Proofs.Ytacnmdlefonjmaa
open Go.RowKit Go.Maps
set_option linter.unusedVariables false
set_option linter.unusedSimpArgs false

def sA16 : ByteArray := ⟨#[97]⟩
def sB16 : ByteArray := ⟨#[98]⟩
def awE1 : EnV := ⟨0, false, ⟨#[]⟩, ⟨#[]⟩, [⟨true, sB16, 2⟩], [], [], []⟩
def awE2 : EnV := ⟨0, false, ⟨#[]⟩, ⟨#[]⟩, [⟨false, sA16, 0⟩], [], [], []⟩
def awT : TbV := tbNo.set 4 (nmB sA16) 1
theorem aw16a : (viewT awT [awE1, awE2]).getI (nmB sB16) = 2 := by decide +kernel
theorem aw16b : (viewT awT [awE1, awE2]).getB (nmB sB16) = true := by decide +kernel
theorem aw16c : (viewT awT [awE1, awE2]).getB (nmB sA16) = false := by decide +kernel
theorem aw16d : (viewT awT [awE1, awE2]).n = 1 := by decide +kernel
theorem aw16e : idsT [awE1, awE2] = [2] := by decide +kernel
theorem aw16f : awT.n ≤ 4 := by decide +kernel
/-- Two entries in a row. -/
theorem en_two {S : Nat → Prop} {w : World} {g g1 g2 : Nat} (hS : S g) (h : Blk w g 52 #[.int .i64 0, .bool false, .string ⟨#[]⟩, .string ⟨#[]⟩, .slice (some ⟨g1, 0, none⟩) 1 1, .slice none 0 0, .slice none 0 0, .slice none 0 0, .int .i64 0, .bool false, .string ⟨#[]⟩, .string ⟨#[]⟩, .slice (some ⟨g2, 0, none⟩) 1 1, .slice none 0 0, .slice none 0 0, .slice none 0 0])
    (h1 : SliceS 3 OpS S w [.slice (some ⟨g1, 0, none⟩) 1 1] [⟨true, sB16, 2⟩]) (h2 : SliceS 3 OpS S w [.slice (some ⟨g2, 0, none⟩) 1 1] [⟨false, sA16, 0⟩]) :
    SliceS 8 EnS S w [.slice (some ⟨g, 0, none⟩) 2 2] [awE1, awE2] := by
  have z3 : SliceS 3 OpS S w [.slice none 0 0] [] := SliceS.empty _ _ (by simp [maxLen])
  have z2 : SliceS 2 CaS S w [.slice none 0 0] [] := SliceS.empty _ _ (by simp [maxLen])
  have z1 : BytesS S w [.slice none 0 0] [] := ⟨none, 0, rfl, Nat.le_refl _, by simp [maxLen], BytesIn.nil _ _, fun h => absurd rfl h⟩
  refine ⟨_, 2, [[.int .i64 0, .bool false, .string ⟨#[]⟩, .string ⟨#[]⟩, .slice (some ⟨g1, 0, none⟩) 1 1, .slice none 0 0, .slice none 0 0, .slice none 0 0], [.int .i64 0, .bool false, .string ⟨#[]⟩, .string ⟨#[]⟩, .slice (some ⟨g2, 0, none⟩) 1 1, .slice none 0 0, .slice none 0 0, .slice none 0 0]], rfl, Nat.le_refl _, by simp [maxLen], ?_, ?_⟩
  · intro j u hu
    refine ⟨g, 0, rfl, hS, ?_⟩
    rw [Nat.zero_add, h.cell j]
    simpa using hu
  · exact ⟨⟨rfl, ⟨some ⟨g1, 0, none⟩, 1, none, 0, none, 0, none, 0⟩, rfl, h1, z3, z2, z1⟩, ⟨rfl, ⟨some ⟨g2, 0, none⟩, 1, none, 0, none, 0, none, 0⟩, rfl, h2, z3, z2, z1⟩, trivial⟩

theorem aw_small : ∀ x ∈ [awE1, awE2], EnSmall x := by
  intro x hx
  simp only [List.mem_cons, List.not_mem_nil, or_false] at hx
  rcases hx with rfl | rfl
  all_goals
    unfold EnSmall
    decide
theorem aw_size (c : UInt8) : (⟨#[c]⟩ : ByteArray).size ≤ maxLen := by
  have : (⟨#[c]⟩ : ByteArray).size = 1 := rfl
  rw [this]
  simp [maxLen]
theorem aw_ok : ∀ o ∈ opsE [awE1, awE2], OkOp o := by
  intro o ho
  have : opsE [awE1, awE2] = [⟨true, sB16, 2⟩, ⟨false, sA16, 0⟩] := rfl
  rw [this] at ho
  simp only [List.mem_cons, List.not_mem_nil, or_false] at ho
  rcases ho with rfl | rfl
  · exact ⟨aw_size _, by decide⟩
  · exact ⟨aw_size _, by decide⟩
theorem aw_len : (opsE [awE1, awE2]).length ≤ 30000 := by decide
theorem listEq_refl_ints : ∀ l : List Int, listEq intEq l l = true
  | [] => rfl
  | a :: l => by
    unfold listEq
    rw [listEq_refl_ints l]
    simp [intEq]

set_option maxRecDepth 100000 in
set_option maxHeartbeats 8000000 in
theorem ovAwake (w : World) : Calls Try.prog 10 #[] w fun e w' => e = .returned (.bool true) ∧ Below w.heap.size w w' := by
  have hN : Calls Try.prog 29 #[.int .i64 4] w _ := tNew_ok 4 w (by omega) (by omega)
  have HN := Lib.hid hN
  clear hN
  go_enter Try.func10, Try.ntmps10
  go_wp2_with fail
  refine HN.out.mono ?_
  rintro e w1 ⟨rfl, ht1, hb1⟩
  have HS := Lib.hid (tSet_any _ _ _ 4 tbNo ⟨#[97]⟩ 1 w1 ht1 (aw_size _) (by decide))
  have Hb1 := Lib.hid hb1
  clear ht1 hb1 HN
  go_wp2_with fail
  refine HS.out.mono ?_
  rintro e w2 ⟨rfl, ht2, hT2⟩
  have Ht2 : Hid (TbO w.heap.size w2 (w.heap.size + 1) w.heap.size 4 awT) := Lib.hid ht2
  have Hb2 := Lib.hid (Hb1.out.trans (hT2.below Hb1.out.size (fun k e => by omega)))
  clear ht2 hT2 HS
  go_wp2_with fail
  have b1 := SliceS.new1 (S := fun _ => True) (S' := fun _ => True) OpS.still w2 55 #[.bool true, .string sB16, .int .i64 2] ⟨true, sB16, 2⟩ rfl rfl (fun _ _ h => h) trivial
  have b2 := SliceS.new1 (S := fun _ => True) (S' := fun _ => True) OpS.still (w2.alloc (.cells #[.bool true, .string sB16, .int .i64 2] 55)) 55 #[.bool false, .string sA16, .int .i64 0] ⟨false, sA16, 0⟩ rfl rfl (fun _ _ h => h) trivial
  have hEnt : SliceS 8 EnS (fun _ => True) (((w2.alloc (.cells #[.bool true, .string ⟨#[98]⟩, .int .i64 2] 55)).alloc (.cells #[.bool false, .string ⟨#[97]⟩, .int .i64 0] 55)).alloc (.cells #[.int .i64 0, .bool false, .string ⟨#[]⟩, .string ⟨#[]⟩, .slice (some ⟨w2.heap.size, 0, none⟩) 1 1, .slice none 0 0, .slice none 0 0, .slice none 0 0, .int .i64 0, .bool false, .string ⟨#[]⟩, .string ⟨#[]⟩, .slice (some ⟨w2.heap.size + 1, 0, none⟩) 1 1, .slice none 0 0, .slice none 0 0, .slice none 0 0] 52)) [.slice (some ⟨w2.heap.size + 1 + 1, 0, none⟩) 2 2] [awE1, awE2] := by
    rw [World.size_alloc] at b2
    have b3 := Blk.new ((w2.alloc (.cells #[.bool true, .string ⟨#[98]⟩, .int .i64 2] 55)).alloc (.cells #[.bool false, .string ⟨#[97]⟩, .int .i64 0] 55)) 52 #[.int .i64 0, .bool false, .string ⟨#[]⟩, .string ⟨#[]⟩, .slice (some ⟨w2.heap.size, 0, none⟩) 1 1, .slice none 0 0, .slice none 0 0, .slice none 0 0, .int .i64 0, .bool false, .string ⟨#[]⟩, .string ⟨#[]⟩, .slice (some ⟨w2.heap.size + 1, 0, none⟩) 1 1, .slice none 0 0, .slice none 0 0, .slice none 0 0]
    rw [World.size_alloc, World.size_alloc] at b3
    have ha : ∀ (W : World) (o : Obj), Below W.heap.size W (W.alloc o) := fun W o => (Below.refl _ _).alloc (Nat.le_refl _) _
    exact en_two trivial b3 ((b1.below OpS.still (ha _ _)).below OpS.still (ha _ _)) (b2.below OpS.still (ha _ _))
  have hB5 : Below w2.heap.size w2 (((w2.alloc (.cells #[.bool true, .string ⟨#[98]⟩, .int .i64 2] 55)).alloc (.cells #[.bool false, .string ⟨#[97]⟩, .int .i64 0] 55)).alloc (.cells #[.int .i64 0, .bool false, .string ⟨#[]⟩, .string ⟨#[]⟩, .slice (some ⟨w2.heap.size, 0, none⟩) 1 1, .slice none 0 0, .slice none 0 0, .slice none 0 0, .int .i64 0, .bool false, .string ⟨#[]⟩, .string ⟨#[]⟩, .slice (some ⟨w2.heap.size + 1, 0, none⟩) 1 1, .slice none 0 0, .slice none 0 0, .slice none 0 0] 52)) := (((Below.refl _ w2).alloc (Nat.le_refl _) _).alloc (by simp) _).alloc (by simp; omega) _
  clear b1 b2
  generalize (((w2.alloc (.cells #[.bool true, .string ⟨#[98]⟩, .int .i64 2] 55)).alloc (.cells #[.bool false, .string ⟨#[97]⟩, .int .i64 0] 55)).alloc (.cells #[.int .i64 0, .bool false, .string ⟨#[]⟩, .string ⟨#[]⟩, .slice (some ⟨w2.heap.size, 0, none⟩) 1 1, .slice none 0 0, .slice none 0 0, .slice none 0 0, .int .i64 0, .bool false, .string ⟨#[]⟩, .string ⟨#[]⟩, .slice (some ⟨w2.heap.size + 1, 0, none⟩) 1 1, .slice none 0 0, .slice none 0 0, .slice none 0 0] 52)) = w5 at *
  have Ht5 : Hid (∀ W, Below w5.heap.size w5 W → TbP w.heap.size W (some ⟨w.heap.size + 1, 0, none⟩) awT) := Lib.hid (fun W hb => .inr ⟨_, _, 4, rfl, (Ht2.out.still hB5).still hb⟩)
  have He5 : Hid (∀ W, Below w5.heap.size w5 W → SliceS 8 EnS (fun _ => True) W [.slice (some ⟨w2.heap.size + 1 + 1, 0, none⟩) 2 2] [awE1, awE2]) := Lib.hid (fun W hb => hEnt.below EnS.still hb)
  have Hb5 := Lib.hid (Hb2.out.trans (hB5.mono Hb2.out.size))
  clear hEnt hB5 Ht2 Hb2
  generalize w2.heap.size = g2 at *
  have hLB : ∀ W, Below w5.heap.size w5 W → Calls Try.prog 11 #[.pointer (some ⟨w.heap.size + 1, 0, none⟩), .slice (some ⟨g2 + 1 + 1, 0, none⟩) 2 2, .string ⟨#[98]⟩] W fun e w' => e = .returned (.tuple #[.int .i64 2, .bool true]) ∧ Below W.heap.size W w' := fun W hb => by
    have := lookup_any _ _ _ _ _ _ _ [awE1, awE2] sB16 W (Ht5.out W hb) (He5.out W hb) aw_small (by decide) (aw_size _)
    rwa [aw16a, aw16b] at this
  have hLA : ∀ W, Below w5.heap.size w5 W → Calls Try.prog 11 #[.pointer (some ⟨w.heap.size + 1, 0, none⟩), .slice (some ⟨g2 + 1 + 1, 0, none⟩) 2 2, .string ⟨#[97]⟩] W fun e w' => (∃ i, e = .returned (.tuple #[.int .i64 i, .bool false])) ∧ Below W.heap.size W w' := fun W hb => by
    refine (lookup_any _ _ _ _ _ _ _ [awE1, awE2] sA16 W (Ht5.out W hb) (He5.out W hb) aw_small (by decide) (aw_size _)).mono ?_
    rintro e w' ⟨rfl, h⟩
    rw [aw16c]
    exact ⟨⟨_, rfl⟩, h⟩
  have hM : ∀ W, Below w5.heap.size w5 W → Calls Try.prog 13 #[.pointer (some ⟨w.heap.size + 1, 0, none⟩), .slice (some ⟨g2 + 1 + 1, 0, none⟩) 2 2] W fun e w' => e = .returned (.int .i64 1) ∧ Below W.heap.size W w' := fun W hb => by
    have := many_any _ _ _ _ _ _ _ [awE1, awE2] W (Ht5.out W hb) (Nat.le_trans aw16f (by omega)) (He5.out W hb) aw_small (by decide) aw_ok aw_len
    rwa [aw16d] at this
  have hI : ∀ W, Below w5.heap.size w5 W → Calls Try.prog 16 #[.slice (some ⟨g2 + 1 + 1, 0, none⟩) 2 2] W fun e w' => ∃ v, e = .returned v ∧ OwnI W.heap.size w' v [2] ∧ Below W.heap.size W w' := fun W hb => by
    have := pids_any _ _ _ _ [awE1, awE2] W (He5.out W hb) aw_small (by decide) aw_len
    rwa [aw16e] at this
  have HLB := Lib.hid hLB
  have HLA := Lib.hid hLA
  have HM := Lib.hid hM
  have HI := Lib.hid hI
  clear hLB hLA hM hI Ht5 He5
  refine (HLB.out _ (Below.refl _ _)).mono ?_
  rintro e w6 ⟨rfl, h6⟩
  have H6 := Lib.hid h6
  clear h6 HLB
  go_wp2_with fail
  refine (HLA.out _ H6.out).mono ?_
  rintro e w7 ⟨⟨i7, rfl⟩, h7⟩
  have H7 := Lib.hid (H6.out.trans (h7.mono H6.out.size))
  clear h7 HLA
  go_wp2_with fail
  refine (HM.out _ H7.out).mono ?_
  rintro e w8 ⟨rfl, h8⟩
  have H8 := Lib.hid (H7.out.trans (h8.mono H7.out.size))
  clear h8 HM
  go_wp2_with fail
  refine (HI.out _ H8.out).mono ?_
  rintro e w9 ⟨v9, rfl, ho9, h9⟩
  have H9 := Lib.hid (H8.out.trans (h9.mono H8.out.size))
  obtain ⟨p9, c9, rfl, hs9⟩ := ho9.slice IntU.still (S' := fun _ => True) (fun _ _ _ => trivial) (fun _ _ => trivial)
  have hal := (Below.refl w9.heap.size w9).alloc (Nat.le_refl _) (.cells #[.int .i64 2] 3)
  have hn9 : SliceS 1 IntU (fun _ => True) (w9.alloc (.cells #[.int .i64 2] 3)) [.slice (some ⟨w9.heap.size, 0, none⟩) 1 1] [2] := SliceS.new1 (S := fun _ => True) IntU.still w9 3 #[.int .i64 2] 2 rfl rfl (fun _ _ h => h) trivial
  have HE := Lib.hid (equal_ints _ _ _ _ _ _ _ _ _ _ _ (hs9.below IntU.still hal) hn9)
  rw [listEq_refl_ints] at HE
  have HA9 := Lib.hid (H9.out.alloc H9.out.size (.cells #[.int .i64 2] 3))
  clear ho9 hs9 hal hn9 h9 HI
  dsimp only [List.length_cons, List.length_nil, Nat.zero_add] at HE
  go_wp2_with fail
  refine HE.out.mono ?_
  rintro e wa ⟨rfl, r, rfl⟩
  go_wp2_with fail
  go_ret
  exact ⟨rfl, (Hb5.out.trans (HA9.out.mono Hb5.out.size)).trans ((bel_dN _ r).mono (Nat.le_trans Hb5.out.size HA9.out.size))⟩
end Go.Proofs.Ytacnmdlefonjmaa

