/-
  Ground: OvI, OvK, OvM.
-/
import Derived.Test.YtacnmdlefonjmaaPvOP3
import Derived.RangeFuncNested
import Derived.RangeFuncBound
import Derived.RangeFuncCalls
import Derived.RangeFuncLeaves
import Derived.RangeFuncBox
import Derived.Shelf.Abstract
import Derived.Shelf.RegionOpen
import Derived.WalkKit
import Derived.OwnWalkIn
import Derived.TacticsInMore
import Derived.LoopNIn
import Derived.LoopIn
import Derived.Maps.AppendAt
import Derived.Test.YtacnmdlefonjmaaPvOP4
import Derived.Maps.OwnIn
/-
  over.later: its value as an iterator over all ops of entries (layer 16).
-/
namespace Go.Proofs.Ytacnmdlefonjmaa
open Go.RowKit Go.Shelf Go.Maps
set_option linter.unusedVariables false
set_option linter.unusedSimpArgs false
attribute [local go_sem] Oper.semAt_some

/-- An op as a value. -/
def opV (o : OpV) : Value := .agg #[.bool o.set, .string o.name, .int .i64 o.id]
theorem fin_take {q k : Nat} (h : k < q) : (List.finRange q).take (k + 1) = (List.finRange q).take k ++ [⟨k, h⟩] := by
  rw [List.take_succ_eq_append_getElem (by simpa using h)]
  simp
/-- Where an op stands among all. -/
theorem opsE_at (l : List EnV) (k j : Nat) (hk : k < l.length) (hj : j < l[k].good.length) : ∃ h : (opsE (l.take k)).length + j < (opsE l).length, (opsE l)[(opsE (l.take k)).length + j] = l[k].good[j] := by
  have e : opsE l = opsE (l.take k) ++ (l[k].good ++ opsE (l.drop (k + 1))) := by
    conv => lhs; rw [split_at l k hk]
    unfold opsE
    rw [List.map_append, List.flatten_append, List.map_cons, List.flatten_cons]
  have hh : (opsE (l.take k)).length + j < (opsE l).length := by
    rw [e, List.length_append, List.length_append]
    omega
  refine ⟨hh, ?_⟩
  have h2 : (opsE l)[(opsE (l.take k)).length + j]? = some l[k].good[j] := by
    rw [e, List.getElem?_append_right (by omega), Nat.add_sub_cancel_left, List.getElem?_append_left hj, List.getElem?_eq_getElem hj]
  rw [List.getElem?_eq_getElem hh] at h2
  exact Option.some.inj h2

theorem later_any (p : Option Addr) (n c : Nat) (w : World) : Calls Try.prog 35 #[.slice p n c] w fun e w' =>
    e = .returned (.func (.func 50) #[] #[.pointer (some ⟨w.heap.size, 0, none⟩)]) ∧ w' = w.alloc (.cells #[.slice p n c] 23) := by
  have hmf : ∀ (fn : Fn) (first cap : Array Value) (w : World), (Instr.makeFunc fn first cap).run Try.prog w = .ok (.func fn first cap) w := fun _ _ _ _ => rfl
  go_enter Try.func35, Try.ntmps35
  go_wp2
  go_ret
  exact ⟨rfl, rfl⟩

set_option maxRecDepth 100000 in
set_option maxHeartbeats 8000000 in
theorem later1_in (F : Fence) (n : Nat) (h7 : F.fn 50) (hro : F.round = none) (hn : 1 ≤ n) (lb Bl n₀ : Nat) (p : Option Addr) (c : Nat) (l : List EnV) (hl : l.length ≤ 100) (hs : ∀ x ∈ l, EnSmall x) (J Jx : List (Fin (opsE l).length) → World → Prop)
    (hJ : ∀ s W W', J s W → W.grownBy W' none → J s W')
    (hY : ∀ pre (x : Fin (opsE l).length) W, J pre W → pre.length < (opsE l).length → YieldAt F (n - 1) Try.prog lb #[opV (opsE l)[x]] W fun e W' =>
      (e = .returned (.bool true) ∧ J (pre ++ [x]) W' ∧ Below n₀ W W') ∨ (e = .returned (.bool false) ∧ Jx (pre ++ [x]) W'))
    (W : World) (hn₀ : n₀ ≤ W.heap.size) (hBl : W.cell? ⟨Bl, 0, none⟩ = some (.slice p l.length c)) (hsl : SliceS 8 EnS (fun k => k < n₀) W [.slice p l.length c] l) (h0 : J [] W) :
    CallsIn F n Try.prog 50 #[.func (.yield lb) #[] #[], .pointer (some ⟨Bl, 0, none⟩)] W fun e W' => (∃ v, e = .returned v) ∧
      ((∃ ys, ys = List.finRange (opsE l).length ∧ J ys W') ∨ (∃ pre, (∃ k, pre = (List.finRange (opsE l).length).take k) ∧ Jx pre W')) := by
  have Hsl := Lib.hid hsl
  have Hs := Lib.hid hs
  obtain ⟨_, hlc, hcm⟩ := hsl.len
  unfold maxLen at hcm
  clear hsl hs
  refine callsIn_of_wp Try.func50 rfl h7 ?_ hro
  simp only [Try.ntmps50, List.size_toArray, List.length_cons, List.length_nil, Nat.reduceAdd, Nat.reduceSub, Array.replicate_succ, Array.replicate_zero, List.push_toArray, List.append_toArray, List.nil_append, List.cons_append]
  gi_wp2
  gi_loopw [9] (fun i wr => ∃ k : Nat, k ≤ l.length ∧ i = .int .i64 k ∧ J ((List.finRange (opsE l).length).take (opsE (l.take k)).length) wr ∧ Below n₀ W wr)
    (fun i _ => l.length - (intOf i).toNat)
  case atStart => exact ⟨0, Nat.zero_le _, rfl, by simpa [opsE] using h0, Below.refl _ _⟩
  case round =>
    obtain ⟨k, hk, rfl, hJs, hb⟩ := hrel
    have HJ := Lib.hid hJs
    have Hb := Lib.hid hb
    have hwk : IntKind.i64.wrap ((k : Int) + 1) = (k : Int) + 1 := by rw [IntKind.wrap_i64]; omega
    clear hJs hb
    by_cases hlt : k < l.length
    · have hslr : SliceS 8 EnS (fun k => k < n₀) wr [.slice p l.length c] l := (SliceS.still EnS.still) _ _ _ _ _ _ Hsl.out (fun k hk hs => ⟨hs, Hb.out.block k hs⟩)
      obtain ⟨b, o, a, rfl, hS, hbl, hL, c0, c1, c2, c3, c4, c5, c6, c7⟩ := en_at hslr hlt
      have Hg := Lib.hid hL.good
      have Hx := Lib.hid (Hs.out l[k] (List.getElem_mem hlt)).1
      have Hsn := Lib.hid (opsE_snoc l k hlt)
      have Hat := Lib.hid (opsE_at l k · hlt)
      clear hL hslr
      generalize l[k] = x at *
      have hgl := Hx.out
      have hlti : (k : Int) < (l.length : Int) := by omega
      obtain ⟨pg, cg, pb, cb, pc, cc, pr, cr⟩ := a
      obtain ⟨xk, xh, xf, xd, xg, xb, xc, xr⟩ := x
      dsimp only at *
      obtain ⟨_, hgc, hgm⟩ := Hg.out.len
      unfold maxLen at hgm
      have HgW : Hid (∀ wi, Below n₀ W wi → SliceS 3 OpS (fun k => k < n₀) wi [.slice pg xg.length cg] xg) := Lib.hid (fun wi hbi => (SliceS.still OpS.still) _ _ _ _ _ _ Hg.out (fun k hk hs => ⟨hs, (hbi.block k hs).trans (Hb.out.block k hs).symm⟩))
      gi_wp2
      gi_loopw [16] (fun i wi => ∃ j : Nat, j ≤ xg.length ∧ i = .int .i64 j ∧ J ((List.finRange (opsE l).length).take ((opsE (l.take k)).length + j)) wi ∧ Below n₀ W wi) (fun i _ => xg.length - (intOf i).toNat)
      case atStart => exact ⟨0, Nat.zero_le _, rfl, hJ _ _ _ HJ.out (World.grownBy_alloc wr _ none), Hb.out.alloc (Nat.le_trans hn₀ Hb.out.size) _⟩
      case round =>
        obtain ⟨j, hj, rfl, hJs, hb⟩ := hrel
        have HJ2 := Lib.hid hJs
        have Hb2 := Lib.hid hb
        have hwj : IntKind.i64.wrap ((j : Int) + 1) = (j : Int) + 1 := by rw [IntKind.wrap_i64]; omega
        clear hJs hb c0 c1 c2 c3 c4 c5 c6 c7
        by_cases hltj : j < xg.length
        · obtain ⟨gb, go, rfl, hgS, hgbl, d0, d1, d2⟩ := opL_at (HgW.out _ Hb2.out) hltj
          obtain ⟨hpos, hval⟩ := Hat.out j hltj
          have HJ3 := Lib.hid (hJ _ _ _ HJ2.out (World.grownBy_alloc wr (.cells #[.bool xg[j].set, .string xg[j].name, .int .i64 xg[j].id] 55) none))
          have Hb3 := Lib.hid (Hb2.out.alloc (Nat.le_trans hn₀ Hb2.out.size) (.cells #[.bool xg[j].set, .string xg[j].name, .int .i64 xg[j].id] 55))
          have hopc := (Blk.new wr 55 #[.bool xg[j].set, .string xg[j].name, .int .i64 xg[j].id]).cell
          obtain ⟨fn, tmps, assign, body, hy, hR⟩ := hY _ ⟨(opsE (l.take k)).length + j, hpos⟩ _ HJ3.out (by rw [List.length_take, List.length_finRange]; omega)
          have Hft := Lib.hid (fin_take hpos)
          have hv2 : (opsE l)[(⟨(opsE (l.take k)).length + j, hpos⟩ : Fin (opsE l).length)] = xg[j] := hval
          rw [hv2] at hy
          unfold opV at hy
          clear hv2 hval HJ2 Hat
          generalize xg[j] = y at *
          obtain ⟨ys, yn, yi⟩ := y
          dsimp only at *
          have hltji : (j : Int) < (xg.length : Int) := by omega
          gi_wp2
          refine hR.mono ?_
          rintro e W3 (⟨rfl, hJ4, hk4⟩ | ⟨rfl, hJx4⟩)
          · have HJ4 : Hid (J ((List.finRange (opsE l).length).take ((opsE (l.take k)).length + (j + 1))) W3) := Lib.hid (by rw [← Nat.add_assoc, Hft.out]; exact hJ4)
            have Hb4 := Lib.hid (Hb3.out.trans hk4)
            clear hJ4 hk4
            gi_wp2
            go_roundw
            case rel => exact ⟨j + 1, by omega, by go_num, HJ4.out, Hb4.out⟩
            case measure => simp [intOf]; omega
          · have Hx4 : Hid (Jx ((List.finRange (opsE l).length).take ((opsE (l.take k)).length + j + 1)) W3) := Lib.hid (by rw [Hft.out]; exact hJx4)
            clear hJx4
            gi_wp2
            refine bodyPost_ret (results_none rfl _ _ _) rfl ?_
            exact ⟨⟨_, rfl⟩, .inr ⟨_, ⟨_, rfl⟩, Hx4.out⟩⟩
        · obtain rfl : j = xg.length := by omega
          have HJe : Hid (J ((List.finRange (opsE l).length).take (opsE (l.take (k + 1))).length) wr) := Lib.hid (by rw [Hsn.out, List.length_append]; exact HJ2.out)
          gi_wp2
          go_roundw
          case rel => exact ⟨k + 1, by omega, by go_num, HJe.out, Hb2.out⟩
          case measure => simp [intOf]; omega
    · obtain rfl : k = l.length := by omega
      rw [List.take_length] at HJ
      have HJe : Hid (J (List.finRange (opsE l).length) wr) := Lib.hid (by have := HJ.out; rwa [List.take_of_length_le (by simp)] at this)
      gi_wp2
      go_end0
      exact ⟨⟨_, rfl⟩, .inl ⟨_, rfl, HJe.out⟩⟩

/-- later's value as an iterator. -/
theorem later_stops (F : Fence) (n : Nat) (h7 : F.fn 50) (hro : F.round = none) (hn : 1 ≤ n) (Bl n₀ : Nat) (p : Option Addr) (c : Nat) (l : List EnV) (hl : l.length ≤ 100) (hs : ∀ x ∈ l, EnSmall x) (w : World)
    (hBs : Bl < w.heap.size) (hn₀ : n₀ ≤ w.heap.size) (hBl : w.cell? ⟨Bl, 0, none⟩ = some (.slice p l.length c)) (hsl : SliceS 8 EnS (fun k => k < n₀) w [.slice p l.length c] l) :
    SeqStopsK F n Try.prog 50 #[.pointer (some ⟨Bl, 0, none⟩)] (fun x : Fin (opsE l).length => #[opV (opsE l)[x]]) (Below n₀) (fun ys => ys = List.finRange (opsE l).length) (fun pre => ∃ k, pre = (List.finRange (opsE l).length).take k) (opsE l).length w :=
  fun lb J Jx W hW hJ _ hY h0 => later1_in F n h7 hro hn lb Bl n₀ p c l hl hs J Jx (fun s A B h hg => hJ s A B none h hg (fun r e => by cases e)) hY W (Nat.le_trans hn₀ hW.size) ((hW.cell (p := ⟨Bl, 0, none⟩) hBs).trans hBl) (hsl.below EnS.still hW) h0

theorem fin_ops {α : Type} (L : List α) : (List.finRange L.length).map (fun x => L[x]) = L := by
  apply List.ext_getElem
  · simp
  · intro i h1 h2
    simp
end Go.Proofs.Ytacnmdlefonjmaa

/-
  over.Lookup (layer 16).
-/
namespace Go.Proofs.Ytacnmdlefonjmaa
open Go.RowKit Go.Shelf Go.Maps
set_option linter.unusedVariables false
set_option linter.unusedSimpArgs false
attribute [local go_sem] Oper.semAt_some

/-- What a table is to the program: none, or one in memory. -/
def TbP (B : Nat) (w : World) (p : Option Addr) (t : TbV) : Prop := (p = none ∧ t = tbNo) ∨ ∃ tb mb most, p = some ⟨tb, 0, none⟩ ∧ TbO B w tb mb most t
theorem TbP.still {B : Nat} {w w' : World} {p : Option Addr} {t : TbV} (h : TbP B w p t) (hb : Below w.heap.size w w') : TbP B w' p t := by
  rcases h with ⟨h1, h2⟩ | ⟨tb, mb, most, h1, h2⟩
  · exact .inl ⟨h1, h2⟩
  · exact .inr ⟨tb, mb, most, h1, h2.still hb⟩
theorem TbP.getC {B : Nat} {w : World} {p : Option Addr} {t : TbV} (h : TbP B w p t) (s : ByteArray) (hs : s.size ≤ maxLen) :
    Calls Try.prog 20 #[.pointer p, .string s] w fun e w' => e = .returned (.tuple #[.int .i64 (t.getI (nmB s)), .bool (t.getB (nmB s))]) ∧ w = w' := by
  rcases h with ⟨rfl, rfl⟩ | ⟨tb, mb, most, rfl, h⟩
  · exact tGet_nil s w
  · exact tGet_any B tb mb most t s w h hs
theorem TbP.lenC {B : Nat} {w : World} {p : Option Addr} {t : TbV} (h : TbP B w p t) :
    Calls Try.prog 22 #[.pointer p] w fun e w' => e = .returned (.int .i64 (t.n : Nat)) ∧ w = w' := by
  rcases h with ⟨rfl, rfl⟩ | ⟨tb, mb, most, rfl, h⟩
  · exact tLen_nil w
  · exact tLen_any B tb mb most t w h
theorem TbP.rd {B : Nat} {w : World} {p : Option Addr} {t : TbV} (h : TbP B w p t) : ∃ D : DataW Unit, TbD D t := by
  rcases h with ⟨rfl, rfl⟩ | ⟨tb, mb, most, rfl, h⟩
  · exact ⟨_, TbD.no⟩
  · obtain ⟨D, _, hD⟩ := h.own
    exact ⟨D, hD⟩

/-- Between two rounds of Lookup. -/
structure LkQ (w0 : World) (s : ByteArray) (r : Int × Bool) (W : World) : Prop where
  nm : Boxed W w0.heap.size 9 (.string s)
  id : Boxed W (w0.heap.size + 1) 3 (.int .i64 r.1)
  kn : Boxed W (w0.heap.size + 1 + 1) 4 (.bool r.2)
  bel : Below w0.heap.size w0 W
theorem LkQ.own {α : Type} (w0 : World) (B : Nat) (s : ByteArray) (f : List α → Int × Bool) (hB : w0.heap.size ≤ B) : OwnFrom B (fun pre W => LkQ w0 s (f pre) W) := by
  intro pre W W' row h hg hr
  have hne : ∀ {b : Nat} {t : TypeId} {v : Value}, Boxed W b t v → some b ≠ row := by
    intro b t v hb e
    obtain ⟨-, o, ho, hc⟩ := hr b e.symm
    rw [show W.heap[b]? = _ from hb] at ho
    cases ho
    cases hc
  exact ⟨h.nm.kept hg (hne h.nm), h.id.kept hg (hne h.id), h.kn.kept hg (hne h.kn), h.bel.grown hg h.bel.size (fun k e => Nat.le_trans hB (hr k e).1)⟩
theorem LkQ.alloc {w0 W : World} {s : ByteArray} {r : Int × Bool} (h : LkQ w0 s r W) (o : Obj) : LkQ w0 s r (W.alloc o) :=
  ⟨h.nm.alloc _, h.id.alloc _, h.kn.alloc _, h.bel.alloc h.bel.size _⟩
theorem LkQ.setI {w0 W : World} {s : ByteArray} {r : Int × Bool} (h : LkQ w0 s r W) (i : Int) : LkQ w0 s (i, r.2) (W.setCell ⟨w0.heap.size + 1, 0, none⟩ (.int .i64 i)) :=
  ⟨h.nm.other (by omega) _, h.id.set _, h.kn.other (by omega) _, h.bel.setCell (p := ⟨w0.heap.size + 1, 0, none⟩) (show w0.heap.size ≤ w0.heap.size + 1 by omega) _⟩
theorem LkQ.setK {w0 W : World} {s : ByteArray} {r : Int × Bool} (h : LkQ w0 s r W) (b : Bool) : LkQ w0 s (r.1, b) (W.setCell ⟨w0.heap.size + 1 + 1, 0, none⟩ (.bool b)) :=
  ⟨h.nm.other (by omega) _, h.id.other (by omega) _, h.kn.set _, h.bel.setCell (p := ⟨w0.heap.size + 1 + 1, 0, none⟩) (show w0.heap.size ≤ w0.heap.size + 1 + 1 by omega) _⟩
theorem LkQ.drew {w0 W : World} {s : ByteArray} {r : Int × Bool} (h : LkQ w0 s r W) : LkQ w0 s r W.drew := ⟨h.nm, h.id, h.kn, h.bel.trans ((belD W).mono h.bel.size)⟩
/-- The loop's variable in its block. -/
theorem opBox_own {β : Type} (Bx : Nat) (o : β → OpV) : Own (fun s W => Blk W Bx 55 #[.bool (o s).set, .string (o s).name, .int .i64 (o s).id]) := fun s X Y row hs hg hrow =>
  Blk.grown hs hg (fun e' => by obtain ⟨o, ho, hc⟩ := hrow Bx e'.symm; rw [show X.heap[Bx]? = _ from hs] at ho; cases ho; cases hc)

set_option maxRecDepth 100000 in
set_option maxHeartbeats 8000000 in
theorem lookup_any (B : Nat) (S : Nat → Prop) (pt : Option Addr) (t : TbV) (p : Option Addr) (n c : Nat) (l : List EnV) (s : ByteArray) (w : World) (ht : TbP B w pt t) (h : SliceS 8 EnS S w [.slice p n c] l) (hs : ∀ x ∈ l, EnSmall x) (hl : l.length ≤ 30) (hsz : s.size ≤ maxLen) :
    Calls Try.prog 11 #[.pointer pt, .slice p n c, .string s] w fun e w' => e = .returned (.tuple #[.int .i64 ((viewT t l).getI (nmB s)), .bool ((viewT t l).getB (nmB s))]) ∧ Below w.heap.size w w' := by
  have H := Lib.hid (h.weak EnS.still (S' := fun k => k < w.heap.size) (fun k hk _ => hk))
  have Hs := Lib.hid hs
  obtain ⟨rfl, hlc, hcm⟩ := h.len
  unfold maxLen at hcm
  have HG := Lib.hid ((ht.still ((Below.refl _ w).alloc (Nat.le_refl _) (.cells #[.string s] 9))).getC s hsz)
  have hf := lk_fold s t (opsE l)
  rw [show (opsT t (opsE l)) = viewT t l from rfl] at hf
  generalize viewT t l = tv at *
  have Hf := Lib.hid hf
  clear h hs hf ht
  refine (callsIn_wide (n := 8)).1 ?_
  refine callsIn_of_wp_marks Try.func11 rfl trivial ?_ rfl
  simp only [Try.ntmps11, List.size_toArray, List.length_cons, List.length_nil, Nat.reduceAdd, Nat.reduceSub, Array.replicate_succ, Array.replicate_zero, List.push_toArray, List.append_toArray, List.nil_append, List.cons_append]
  generalize t.getI (nmB s) = ri at *
  generalize t.getB (nmB s) = rb at *
  gi_wp2
  refine ⟨trivial, (callsIn_wide.2 HG.out).mono ?_⟩
  rintro e w3 ⟨rfl, rfl⟩
  gi_wp2
  refine ⟨trivial, (callsIn_wide.2 (later_any _ _ _ _)).mono ?_⟩
  rintro e w4 ⟨rfl, rfl⟩
  gi_wp2
  have bN := (((Boxed.new w 9 (.string s)).alloc (.cells #[.int .i64 ri] 3)).alloc (.cells #[.bool rb] 4)).alloc (.cells #[.slice p l.length c] 23)
  have bI := ((Boxed.new (w.alloc (.cells #[.string s] 9)) 3 (.int .i64 ri)).alloc (.cells #[.bool rb] 4)).alloc (.cells #[.slice p l.length c] 23)
  have bK := (Boxed.new ((w.alloc (.cells #[.string s] 9)).alloc (.cells #[.int .i64 ri] 3)) 4 (.bool rb)).alloc (.cells #[.slice p l.length c] 23)
  have bL := Boxed.new (((w.alloc (.cells #[.string s] 9)).alloc (.cells #[.int .i64 ri] 3)).alloc (.cells #[.bool rb] 4)) 23 (.slice p l.length c)
  have hB0 : Below w.heap.size w ((((w.alloc (.cells #[.string s] 9)).alloc (.cells #[.int .i64 ri] 3)).alloc (.cells #[.bool rb] 4)).alloc (.cells #[.slice p l.length c] 23)) := ((((Below.refl _ w).alloc (Nat.le_refl _) _).alloc (by simp) _).alloc (by simp; omega) _).alloc (by simp; omega) _
  have hsz0 : ((((w.alloc (.cells #[.string s] 9)).alloc (.cells #[.int .i64 ri] 3)).alloc (.cells #[.bool rb] 4)).alloc (.cells #[.slice p l.length c] 23)).heap.size = w.heap.size + 4 := by simp
  simp only [World.size_alloc] at bI bK bL
  generalize ((((w.alloc (.cells #[.string s] 9)).alloc (.cells #[.int .i64 ri] 3)).alloc (.cells #[.bool rb] 4)).alloc (.cells #[.slice p l.length c] 23)) = W0 at *
  have Hsz := Lib.hid hsz0
  have HB0 := Lib.hid hB0
  have HI0 : Hid (LkQ w s (ri, rb) W0) := Lib.hid ⟨bN, bI, bK, hB0⟩
  have HL := Lib.hid bL
  clear bN bI bK bL hB0 hsz0 HG
  refine wpIn_rangeFunc_ownH (F := Fence.wide) rfl (by omega) (gf := 50) (lb := #[.pointer (some ⟨w.heap.size + 1 + 1 + 1, 0, none⟩)]) rfl trivial (enters_of Try.func50 (by kernel_rfl) rfl)
    (later_stops Fence.wide 7 trivial rfl (by omega) (w.heap.size + 1 + 1 + 1) w.heap.size p c l (by omega) Hs.out W0 (by have := Hsz.out; omega) (by have := Hsz.out; omega) HL.out.cell (H.out.below EnS.still HB0.out))
    belowK_t (belowK_b (by have := Hsz.out; omega)) (Below.refl _ _) (fun _ => rfl)
    (fun pre W => LkQ w s ((pre.map (fun x : Fin (opsE l).length => (opsE l)[x])).foldl (lkS s) (ri, rb)) W)
    (fun _ _ _ => False)
    (LkQ.own w W0.heap.size s (fun pre : List (Fin (opsE l).length) => (pre.map (fun x => (opsE l)[x])).foldl (lkS s) (ri, rb)) (by have := Hsz.out; omega))
    (fun _ _ _ _ _ hs _ _ => hs) HI0.out
    (fun x a' W => ∃ Bx, w.heap.size + 1 + 1 < Bx ∧ Blk W Bx 55 #[.bool (opsE l)[x].set, .string (opsE l)[x].name, .int .i64 (opsE l)[x].id] ∧ a' = { tmps := #[.pointer pt, .slice p l.length c, .string s, undef, undef, .pointer (some ⟨w.heap.size, 0, none⟩), .int .i64 0, .bool false, .pointer (some ⟨w.heap.size + 1, 0, none⟩), .pointer (some ⟨w.heap.size + 1 + 1, 0, none⟩), .pointer (some ⟨Bx, 0, none⟩), .tuple #[.int .i64 ri, .bool rb], .pointer pt, .string s, .tuple #[.int .i64 ri, .bool rb], .int .i64 ri, .bool rb, .slice p l.length c, .func (.func 50) #[] #[.pointer (some ⟨w.heap.size + 1 + 1 + 1, 0, none⟩)], opV (opsE l)[x], undef, undef, undef, undef, undef, undef, undef, undef, undef, undef, undef, undef], defers := [] })
    (fun x a' _ X Y row hs hg hr => by obtain ⟨Bx, h1, h2, h3⟩ := hs; exact ⟨Bx, h1, opBox_own Bx (fun (_ : Unit) => (opsE l)[x]) () X Y row h2 hg (fun r e => (hr r e).2), h3⟩)
    ?assign ?body ?done ?stop
  case assign =>
    intro lb pre x W K hQ hK
    unfold opV
    have HQ := Lib.hid hQ
    clear hQ
    generalize (opsE l)[x] = o at *
    gi_wp2
    exact hK _ _ ((KeepsOthers.alloc _ _).from _) ((Below.refl _ W).alloc HQ.out.bel.size _) (HQ.out.alloc _) ⟨W.heap.size, HQ.out.kn.lt, Blk.new W _ _, rfl⟩
  case body =>
    rintro lb pre x a' W hlb hloop hQ ⟨Bx, hBx, hblk, rfl⟩ hlt
    have hst : ((pre ++ [x]).map (fun x : Fin (opsE l).length => (opsE l)[x])).foldl (lkS s) (ri, rb) = lkS s ((pre.map (fun x : Fin (opsE l).length => (opsE l)[x])).foldl (lkS s) (ri, rb)) (opsE l)[x] := by rw [List.map_append, List.foldl_append]; rfl
    have Hst := Lib.hid hst
    clear hst hlt hloop hlb
    unfold opV
    generalize hr : ((pre.map (fun x : Fin (opsE l).length => (opsE l)[x])).foldl (lkS s) (ri, rb)) = r at *
    clear hr
    generalize (opsE l)[x] = o at *
    obtain ⟨os, on, oi⟩ := o
    dsimp only at *
    have HE : Hid (∀ W', LkQ w s (lkS s r ⟨os, on, oi⟩) W' → LkQ w s (((pre ++ [x]).map (fun x : Fin (opsE l).length => (opsE l)[x])).foldl (lkS s) (ri, rb)) W') := Lib.hid (fun W' h => by rw [Hst.out]; exact h)
    clear Hst
    have hc := hblk.cell
    have cN := hQ.nm.cell
    have HQ := Lib.hid hQ
    by_cases hn : on = s
    · have hd := nm_is hn
      have cI := hQ.id.cell
      have fI := hQ.id.frozen
      have cK := hQ.kn.cell
      have fK := hQ.kn.frozen
      have Hlk : Hid (lkS s r ⟨os, on, oi⟩ = (if os = true then oi else 0, os)) := Lib.hid (by unfold lkS; rw [if_pos hn])
      subst hn
      clear hQ
      have hneI : ¬ Bx = w.heap.size + 1 := by omega
      have hneK : ¬ Bx = w.heap.size + 1 + 1 := by omega
      cases os with
      | true =>
        gi_wp2
        gi_region
        all_goals
          have hQ1 := ((HQ.out.setI 0).setK true).drew
          have hb1 : Below w.heap.size W (((W.setCell ⟨w.heap.size + 1, 0, none⟩ (.int .i64 0)).setCell ⟨w.heap.size + 1 + 1, 0, none⟩ (.bool true))).drew := ((((Below.refl w.heap.size W).setCell (p := ⟨w.heap.size + 1, 0, none⟩) (show w.heap.size ≤ w.heap.size + 1 by omega) (.int .i64 0)).setCell (p := ⟨w.heap.size + 1 + 1, 0, none⟩) (show w.heap.size ≤ w.heap.size + 1 + 1 by omega) (.bool true))).drew
          have hk1 : KeepsFrom W0.heap.size W (((W.setCell ⟨w.heap.size + 1, 0, none⟩ (.int .i64 0)).setCell ⟨w.heap.size + 1 + 1, 0, none⟩ (.bool true))).drew := (((KeepsOthers.setCell W ⟨w.heap.size + 1, 0, none⟩ _).trans (KeepsOthers.setCell _ ⟨w.heap.size + 1 + 1, 0, none⟩ _)).trans (KeepsOthers.drew _)).from _
          have hc1 : ∀ i, ((((W.setCell ⟨w.heap.size + 1, 0, none⟩ (.int .i64 0)).setCell ⟨w.heap.size + 1 + 1, 0, none⟩ (.bool true))).drew).cell? ⟨Bx, i, none⟩ = (#[.bool true, .string on, .int .i64 oi] : Array Value)[i]? := ((((hblk.far (p := ⟨w.heap.size + 1, 0, none⟩) hneI _).far (p := ⟨w.heap.size + 1 + 1, 0, none⟩) hneK _)).drew).cell
          have HQ1 := Lib.hid hQ1
          have Hb1 := Lib.hid hb1
          have Hk1 := Lib.hid hk1
          clear hQ1 hb1 hk1 hc cI fI cK fK hblk HQ cN
          generalize (((W.setCell ⟨w.heap.size + 1, 0, none⟩ (.int .i64 0)).setCell ⟨w.heap.size + 1 + 1, 0, none⟩ (.bool true))).drew = W1 at *
          have cI := HQ1.out.id.cell
          have fI := HQ1.out.id.frozen
          gi_wp2
          exact ⟨Hk1.out.trans ((KeepsOthers.setCell _ _ _).from _), Hb1.out.setCell (p := ⟨w.heap.size + 1, 0, none⟩) (show w.heap.size ≤ w.heap.size + 1 by omega) _, HE.out _ (by rw [Hlk.out]; exact HQ1.out.setI oi)⟩
      | false =>
        gi_wp2
        gi_region
        all_goals
          have hQ1 := ((HQ.out.setI 0).setK false).drew
          have hb1 : Below w.heap.size W (((W.setCell ⟨w.heap.size + 1, 0, none⟩ (.int .i64 0)).setCell ⟨w.heap.size + 1 + 1, 0, none⟩ (.bool false))).drew := ((((Below.refl w.heap.size W).setCell (p := ⟨w.heap.size + 1, 0, none⟩) (show w.heap.size ≤ w.heap.size + 1 by omega) (.int .i64 0)).setCell (p := ⟨w.heap.size + 1 + 1, 0, none⟩) (show w.heap.size ≤ w.heap.size + 1 + 1 by omega) (.bool false))).drew
          have hk1 : KeepsFrom W0.heap.size W (((W.setCell ⟨w.heap.size + 1, 0, none⟩ (.int .i64 0)).setCell ⟨w.heap.size + 1 + 1, 0, none⟩ (.bool false))).drew := (((KeepsOthers.setCell W ⟨w.heap.size + 1, 0, none⟩ _).trans (KeepsOthers.setCell _ ⟨w.heap.size + 1 + 1, 0, none⟩ _)).trans (KeepsOthers.drew _)).from _
          have hc1 : ∀ i, ((((W.setCell ⟨w.heap.size + 1, 0, none⟩ (.int .i64 0)).setCell ⟨w.heap.size + 1 + 1, 0, none⟩ (.bool false))).drew).cell? ⟨Bx, i, none⟩ = (#[.bool false, .string on, .int .i64 oi] : Array Value)[i]? := ((((hblk.far (p := ⟨w.heap.size + 1, 0, none⟩) hneI _).far (p := ⟨w.heap.size + 1 + 1, 0, none⟩) hneK _)).drew).cell
          have HQ1 := Lib.hid hQ1
          have Hb1 := Lib.hid hb1
          have Hk1 := Lib.hid hk1
          clear hQ1 hb1 hk1 hc cI fI cK fK hblk HQ cN
          generalize (((W.setCell ⟨w.heap.size + 1, 0, none⟩ (.int .i64 0)).setCell ⟨w.heap.size + 1 + 1, 0, none⟩ (.bool false))).drew = W1 at *
          have cI := HQ1.out.id.cell
          have fI := HQ1.out.id.frozen
          gi_wp2
          exact ⟨Hk1.out, Hb1.out, HE.out _ (by rw [Hlk.out]; exact HQ1.out)⟩
    · have hd := nm_ne hn
      have Hlk : Hid (lkS s r ⟨os, on, oi⟩ = r) := Lib.hid (by unfold lkS; rw [if_neg hn])
      clear hQ
      gi_wp2
      exact ⟨KeepsFrom.refl _ _, Below.refl _ _, HE.out _ (by rw [Hlk.out]; exact HQ.out)⟩
  case done =>
    rintro D ys W hD rfl hQ hK
    rw [fin_ops, Hf.out] at hQ
    have cI := hQ.id.cell
    have cK := hQ.kn.cell
    have HQ := Lib.hid hQ
    have HK := Lib.hid hK
    clear hQ hK
    dsimp only at cI cK
    gi_wp2
    gi_region
    all_goals
      gi_wp2
      have hKd : W.drew.heap[D]? = some (.deferred (some [])) := HK.out
      refine ⟨by simp, .inl ⟨_, _, rfl, run_takeDeferred hKd, ?_⟩⟩
      refine ⟨_, results_tmp2 (t := 6) (u := 7) (by kernel_rfl) _ _ _, rfl, ?_⟩
      exact (HQ.out.drew.bel).trans (belowK_b (w := w) (Nat.le_refl _) W.drew D _ _ (by have := Hsz.out; omega) hKd rfl rfl)
  case stop =>
    rintro D cc pre W _ _ h _
    exact h.elim
end Go.Proofs.Ytacnmdlefonjmaa

/-
  over.Many (layer 16).
-/
namespace Go.Proofs.Ytacnmdlefonjmaa
open Go.RowKit Go.Shelf Go.Maps
set_option linter.unusedVariables false
set_option linter.unusedSimpArgs false
attribute [local go_sem] Oper.semAt_some

theorem plainElem_bool_inv {P : Program} {e : TypeId} (he : P.underlying e = some .bool) {v : Value} {z : DataW Unit × List MemPlace} (h : plainElem P e v = some z) : ∃ a, v = .bool a ∧ z = (.lit (.bool a), []) := by
  unfold plainElem at h
  rw [he] at h
  cases v <;> simp at h
  exact ⟨_, rfl, h.symm⟩
theorem wpListIn_lookup_bool {F : Fence} {nF : Nat} {P : Program} (w : World) {ops : Array Oper} {rest : List Oper} {o : Oper} {a : Act} {Q : Exit → Act → World → Prop} (hg : o.guard = none) (m x : Operand) (t : TypeId) (hop : o.op = Op.lookup t m x true)
    (k e : TypeId) (K : Keyed P k) (ht : P.underlying t = some (.map k e)) (he : P.underlying e = some .bool) (hz : (zeroValue e).run P w = .ok (.bool false) w) (b n : Nat) (D : DataW Unit)
    (hm : a.eval m = .map (some b)) (hown : w.ownsMap P k (plainElem P e) b n D) (key : Value) (kl : Lit) (hx : a.eval x = key) (hkey : keyOf P k key = some kl)
    (hK : ∀ c : Bool, D.atKey kl (.lit (.bool false)) = .lit (.bool c) → wpListIn F nF P ops Q rest (a.put o.dst (.tuple #[.bool c, .bool (Maps.has D kl)])) w) :
    wpListIn F nF P ops Q (o :: rest) a w :=
  wpListIn_lookup_own_ok w hg m x t hop k e K ht (plainElem P e) hz (.lit (.bool false)) [] (plainElem_bool he false) b n D hm hown key kl hx hkey (fun v ps hv => by
    obtain ⟨c, rfl, hc⟩ := plainElem_bool_inv he hv
    exact hK c (congrArg Prod.fst hc))
theorem mb_zero (w : World) : (zeroValue 4).run Try.prog w = .ok (.bool false) w := by kernel_rfl

abbrev MapB (w : World) (mb n : Nat) (D : DataW Unit) : Prop := w.ownsMap Try.prog 9 (plainElem Try.prog 4) mb n D
theorem seen_at {D : DataW Unit} {t : TbV} {l : List OpV} (h : SeenD D t l) {s : List UInt8} (hs : Maps.has D (.string s) = false) : ∃ cb : Bool, D.atKey (.string s) (.lit (.bool false)) = .lit (.bool cb) := ⟨false, atKey_of_not_has hs _⟩
theorem MapB.far {w : World} {mb n : Nat} {D : DataW Unit} (h : MapB w mb n D) {a : Addr} (ha : mb ≠ a.block) (u : Value) : MapB (w.setCell a u) mb n D := World.ownsMap.setCell h ha u
/-- Between two rounds of Many. -/
structure MnQ (w0 : World) (pt : Option Addr) (t : TbV) (pre : List OpV) (W : World) : Prop where
  tp : Boxed W w0.heap.size 24 (.pointer pt)
  n : Boxed W (w0.heap.size + 1) 3 (.int .i64 ((opsT t pre).n : Nat))
  mp : Boxed W (w0.heap.size + 1 + 1 + 1) 84 (.map (some (w0.heap.size + 1 + 1)))
  sn : ∃ D, MapB W (w0.heap.size + 1 + 1) pre.length D ∧ SeenD D t pre
  bel : Below w0.heap.size w0 W
theorem MnQ.own {α : Type} (w0 : World) (B : Nat) (pt : Option Addr) (t : TbV) (f : List α → List OpV) (hB : w0.heap.size + 1 + 1 + 1 < B) : OwnFrom B (fun pre W => MnQ w0 pt t (f pre) W) := by
  intro pre W W' row h hg hr
  have hne : ∀ {b : Nat} {t : TypeId} {v : Value}, Boxed W b t v → some b ≠ row := by
    intro b t v hb e
    obtain ⟨-, o, ho, hc⟩ := hr b e.symm
    rw [show W.heap[b]? = _ from hb] at ho
    cases ho
    cases hc
  obtain ⟨D, hm, hs⟩ := h.sn
  exact ⟨h.tp.kept hg (hne h.tp), h.n.kept hg (hne h.n), h.mp.kept hg (hne h.mp), ⟨D, hm.kept hg (fun e => by have := (hr _ e.symm).1; omega), hs⟩, h.bel.grown hg h.bel.size (fun k e => by have := (hr k e).1; omega)⟩
theorem MnQ.alloc {w0 W : World} {pt : Option Addr} {t : TbV} {pre : List OpV} (h : MnQ w0 pt t pre W) (o : Obj) : MnQ w0 pt t pre (W.alloc o) := by
  obtain ⟨D, hm, hs⟩ := h.sn
  exact ⟨h.tp.alloc _, h.n.alloc _, h.mp.alloc _, ⟨D, hm.alloc _, hs⟩, h.bel.alloc h.bel.size _⟩
/-- A round: the count is set (or not), the map is turned. -/
theorem MnQ.fin {w0 W W1 W2 : World} {pt : Option Addr} {t : TbV} {pre : List OpV} {o : OpV} {D : DataW Unit} (h : MnQ w0 pt t pre W) (hs : SeenD D t pre) (hn : Boxed W1 (w0.heap.size + 1) 3 (.int .i64 ((opsT t (pre ++ [o])).n : Nat)))
    (h1 : Touch (fun k => k = w0.heap.size + 1) W W1) (hm : MapB W2 (w0.heap.size + 1 + 1) (pre.length + 1) (D.put (.string (nmB o.name)) (.lit (.bool o.set)))) (hg : W1.grownBy W2 (some (w0.heap.size + 1 + 1))) :
    MnQ w0 pt t (pre ++ [o]) W2 ∧ Below w0.heap.size W W2 ∧ (∀ B, w0.heap.size + 1 + 1 < B → KeepsFrom B W W2) := by
  have hT := Touch.of_row hg
  have hb1 : Below w0.heap.size W W1 := h1.below h.bel.size (fun k e => by omega)
  have hb2 : Below w0.heap.size W1 W2 := hT.below (Nat.le_trans h.bel.size hb1.size) (fun k e => by cases e; omega)
  have box : ∀ {b : Nat} {t : TypeId} {v : Value}, Boxed W b t v → b ≠ w0.heap.size + 1 → b ≠ w0.heap.size + 1 + 1 → Boxed W2 b t v := fun hb e1 e2 => ((hT.block _ (Nat.lt_of_lt_of_le hb.lt h1.size) (fun e => e2 (by cases e; rfl))).trans (h1.block _ hb.lt e1)).trans hb
  refine ⟨⟨box h.tp (by omega) (by omega), ?_, box h.mp (by omega) (by omega), ⟨_, by rw [List.length_append]; exact hm, hs.put o⟩, (h.bel.trans hb1).trans hb2⟩, hb1.trans hb2, fun B hB => ⟨Nat.le_trans h1.size hT.size, fun k ob hk ho hc => ?_⟩⟩
  · exact (hT.block _ hn.lt (fun e => by injection e with e; omega)).trans hn
  · have hlt := (Array.getElem?_eq_some_iff.1 ho).1
    exact ((hT.block k (Nat.lt_of_lt_of_le hlt h1.size) (fun e => by injection e with e; omega)).trans (h1.block k hlt (by omega))).trans ho

set_option maxRecDepth 100000 in
set_option maxHeartbeats 16000000 in
theorem many_any (B : Nat) (S : Nat → Prop) (pt : Option Addr) (t : TbV) (p : Option Addr) (n c : Nat) (l : List EnV) (w : World) (ht : TbP B w pt t) (hn : t.n ≤ 50000) (h : SliceS 8 EnS S w [.slice p n c] l) (hs : ∀ x ∈ l, EnSmall x) (hl : l.length ≤ 30) (hok : ∀ o ∈ opsE l, OkOp o) (hol : (opsE l).length ≤ 30000) :
    Calls Try.prog 13 #[.pointer pt, .slice p n c] w fun e w' => e = .returned (.int .i64 ((viewT t l).n : Nat)) ∧ Below w.heap.size w w' := by
  have H := Lib.hid (h.weak EnS.still (S' := fun k => k < w.heap.size) (fun k hk _ => hk))
  have Hs := Lib.hid hs
  have Hok := Lib.hid hok
  obtain ⟨rfl, hlc, hcm⟩ := h.len
  unfold maxLen at hcm
  have HG : Hid (∀ W, Below w.heap.size w W → TbP B W pt t) := Lib.hid (fun W hb => ht.still hb)
  have HLn := Lib.hid ((ht.still ((Below.refl _ w).alloc (Nat.le_refl _) (.cells #[.pointer pt] 24))).lenC)
  obtain ⟨DT, hDT⟩ := ht.rd
  have HDT : Hid (∀ pre, ∃ D', TbD D' (opsT t pre)) := Lib.hid (fun pre => hDT.ops pre)
  have hmm := @run_makeMap Try.prog
  clear h hs ht hok hDT
  refine (callsIn_wide (n := 8)).1 ?_
  refine callsIn_of_wp_marks Try.func13 rfl trivial ?_ rfl
  simp only [Try.ntmps13, List.size_toArray, List.length_cons, List.length_nil, Nat.reduceAdd, Nat.reduceSub, Array.replicate_succ, Array.replicate_zero, List.push_toArray, List.append_toArray, List.nil_append, List.cons_append]
  gi_wp2
  refine ⟨trivial, (callsIn_wide.2 HLn.out).mono ?_⟩
  rintro e w3 ⟨rfl, rfl⟩
  gi_wp2
  refine ⟨trivial, (callsIn_wide.2 (later_any _ _ _ _)).mono ?_⟩
  rintro e w4 ⟨rfl, rfl⟩
  gi_wp2
  clear hmm HLn
  have A0 : World := w
  have bT := ((((Boxed.new w 24 (.pointer pt)).alloc (.cells #[.int .i64 (t.n : Nat)] 3)).alloc (.map #[] 0)).alloc (.cells #[.map (some (w.heap.size + 1 + 1))] 84)).alloc (.cells #[.slice p l.length c] 23)
  have bI := (((Boxed.new (w.alloc (.cells #[.pointer pt] 24)) 3 (.int .i64 (t.n : Nat))).alloc (.map #[] 0)).alloc (.cells #[.map (some (w.heap.size + 1 + 1))] 84)).alloc (.cells #[.slice p l.length c] 23)
  have bM : MapB _ _ 0 (.map []) := ((World.ownsMap_made ((w.alloc (.cells #[.pointer pt] 24)).alloc (.cells #[.int .i64 (t.n : Nat)] 3)) Try.prog 9 (plainElem Try.prog 4)).alloc (.cells #[.map (some (w.heap.size + 1 + 1))] 84)).alloc (.cells #[.slice p l.length c] 23)
  have bP := (Boxed.new (((w.alloc (.cells #[.pointer pt] 24)).alloc (.cells #[.int .i64 (t.n : Nat)] 3)).alloc (.map #[] 0)) 84 (.map (some (w.heap.size + 1 + 1)))).alloc (.cells #[.slice p l.length c] 23)
  have bL := Boxed.new ((((w.alloc (.cells #[.pointer pt] 24)).alloc (.cells #[.int .i64 (t.n : Nat)] 3)).alloc (.map #[] 0)).alloc (.cells #[.map (some (w.heap.size + 1 + 1))] 84)) 23 (.slice p l.length c)
  have hB0 : Below w.heap.size w (((((w.alloc (.cells #[.pointer pt] 24)).alloc (.cells #[.int .i64 (t.n : Nat)] 3)).alloc (.map #[] 0)).alloc (.cells #[.map (some (w.heap.size + 1 + 1))] 84)).alloc (.cells #[.slice p l.length c] 23)) := (((((Below.refl _ w).alloc (Nat.le_refl _) _).alloc (by simp) _).alloc (by simp; omega) _).alloc (by simp; omega) _).alloc (by simp; omega) _
  have hsz0 : (((((w.alloc (.cells #[.pointer pt] 24)).alloc (.cells #[.int .i64 (t.n : Nat)] 3)).alloc (.map #[] 0)).alloc (.cells #[.map (some (w.heap.size + 1 + 1))] 84)).alloc (.cells #[.slice p l.length c] 23)).heap.size = w.heap.size + 5 := by simp
  simp only [World.size_alloc] at bI bM bP bL
  generalize (((((w.alloc (.cells #[.pointer pt] 24)).alloc (.cells #[.int .i64 (t.n : Nat)] 3)).alloc (.map #[] 0)).alloc (.cells #[.map (some (w.heap.size + 1 + 1))] 84)).alloc (.cells #[.slice p l.length c] 23)) = W0 at *
  have Hsz := Lib.hid hsz0
  have HB0 := Lib.hid hB0
  have HI0 : Hid (MnQ w pt t [] W0) := Lib.hid ⟨bT, bI, bP, ⟨_, bM, SeenD.no t⟩, hB0⟩
  have HL := Lib.hid bL
  clear bT bI bM bP bL hB0 hsz0
  refine wpIn_rangeFunc_ownH (F := Fence.wide) rfl (by omega) (gf := 50) (lb := #[.pointer (some ⟨w.heap.size + 1 + 1 + 1 + 1, 0, none⟩)]) rfl trivial (enters_of Try.func50 (by kernel_rfl) rfl)
    (later_stops Fence.wide 7 trivial rfl (by omega) (w.heap.size + 1 + 1 + 1 + 1) w.heap.size p c l (by omega) Hs.out W0 (by have := Hsz.out; omega) (by have := Hsz.out; omega) HL.out.cell (H.out.below EnS.still HB0.out))
    belowK_t (belowK_b (by have := Hsz.out; omega)) (Below.refl _ _) (fun _ => rfl)
    (fun pre W => MnQ w pt t (pre.map (fun x : Fin (opsE l).length => (opsE l)[x])) W)
    (fun _ _ _ => False)
    (MnQ.own w W0.heap.size pt t (fun pre : List (Fin (opsE l).length) => pre.map (fun x => (opsE l)[x])) (by have := Hsz.out; omega))
    (fun _ _ _ _ _ hs _ _ => hs) HI0.out
    (fun x a' W => ∃ Bx, w.heap.size + 1 + 1 + 1 < Bx ∧ Blk W Bx 55 #[.bool (opsE l)[x].set, .string (opsE l)[x].name, .int .i64 (opsE l)[x].id] ∧ a' = { tmps := #[.pointer pt, .slice p l.length c, .pointer (some ⟨w.heap.size, 0, none⟩), undef, .int .i64 0, .pointer (some ⟨w.heap.size + 1, 0, none⟩), .pointer (some ⟨w.heap.size + 1 + 1 + 1, 0, none⟩), .pointer (some ⟨Bx, 0, none⟩), undef, undef, .pointer pt, .int .i64 (t.n : Nat), .map (some (w.heap.size + 1 + 1)), .slice p l.length c, .func (.func 50) #[] #[.pointer (some ⟨w.heap.size + 1 + 1 + 1 + 1, 0, none⟩)], opV (opsE l)[x], undef, undef, undef, undef, undef, undef, undef, undef, undef, undef, undef, undef, undef, undef, undef, undef, undef, undef, undef, undef, undef, undef, undef, undef, undef, undef, undef, undef, undef, undef, undef, undef, undef, undef, undef, undef, undef, undef, undef, undef], defers := [] })
    (fun x a' _ X Y row hs hg hr => by obtain ⟨Bx, h1, h2, h3⟩ := hs; exact ⟨Bx, h1, opBox_own Bx (fun (_ : Unit) => (opsE l)[x]) () X Y row h2 hg (fun r e => (hr r e).2), h3⟩)
    ?assign ?body ?done ?stop
  case assign =>
    intro lb pre x W K hQ hK
    unfold opV
    have HQ := Lib.hid hQ
    clear hQ
    generalize (opsE l)[x] = o at *
    gi_wp2
    exact hK _ _ ((KeepsOthers.alloc _ _).from _) ((Below.refl _ W).alloc HQ.out.bel.size _) (HQ.out.alloc _) ⟨W.heap.size, HQ.out.mp.lt, Blk.new W _ _, rfl⟩
  case body =>
    rintro lb pre x a' W hlb hloop hQ ⟨Bx, hBx, hblk, rfl⟩ hlt
    have hst : (pre ++ [x]).map (fun x : Fin (opsE l).length => (opsE l)[x]) = pre.map (fun x : Fin (opsE l).length => (opsE l)[x]) ++ [(opsE l)[x]] := by rw [List.map_append]; rfl
    have hpl : (pre.map (fun x : Fin (opsE l).length => (opsE l)[x])).length ≤ 30000 := by rw [List.length_map]; omega
    have hoo := Hok.out (opsE l)[x] (List.getElem_mem _)
    have Hst := Lib.hid hst
    clear hst hlt hloop hlb
    unfold opV
    generalize pre.map (fun x : Fin (opsE l).length => (opsE l)[x]) = P at *
    generalize (opsE l)[x] = o at *
    obtain ⟨os, on, oi⟩ := o
    dsimp only at *
    have HE : Hid (∀ W', MnQ w pt t (P ++ [⟨os, on, oi⟩]) W' → MnQ w pt t ((pre ++ [x]).map (fun x : Fin (opsE l).length => (opsE l)[x])) W') := Lib.hid (fun W' h => by rw [Hst.out]; exact h)
    have hc := hblk.cell
    have cT := hQ.tp.cell
    have cN := hQ.n.cell
    have fN := hQ.n.frozen
    have cM := hQ.mp.cell
    have HQ := Lib.hid hQ
    have hkey := tb_key hoo.1
    obtain ⟨D, hown, hsn⟩ := hQ.sn
    have Hsn := Lib.hid hsn
    have Hnb : Hid ((opsT t P).n ≤ 90000) := Lib.hid (by have := opsT_le t P; omega)
    have Hmy : Hid (manyS ((opsT t P).getB (nmB on)) ((opsT t P).n : Nat) ⟨os, on, oi⟩ = ((opsT t (P ++ [⟨os, on, oi⟩])).n : Nat)) := Lib.hid (by
      obtain ⟨D', hD'⟩ := HDT.out P
      rw [opsT_snoc]
      exact manyS_op hD' ⟨os, on, oi⟩)
    have Hpos : Hid ((opsT t P).getB (nmB on) = true → 0 < (opsT t P).n) := Lib.hid (fun e => by
      obtain ⟨D', hD'⟩ := HDT.out P
      exact hD'.fine e)
    have Hwas := Lib.hid (fun cb hcb => hsn.was (nmB on) cb hcb)
    have HGt := Lib.hid ((HG.out W hQ.bel).getC on hoo.1)
    have hPm : P.length < maxLen := by unfold maxLen; omega
    have hneN : ¬ Bx = w.heap.size + 1 := by omega
    generalize hwb : (opsT t P).getB (nmB on) = wb at *
    generalize hnn : (opsT t P).n = nn at *
    generalize hn2 : (opsT t (P ++ [⟨os, on, oi⟩])).n = n2 at *
    have Hn2 := Lib.hid hn2
    have Hnn := Lib.hid hnn
    generalize t.getI (nmB on) = gi at *
    generalize hgb : t.getB (nmB on) = gb at *
    have hnb := Hnb.out
    clear hwb hnn hn2 hgb hQ hsn Hst Hnb
    cases htold : Maps.has D (.string (nmB on)) with
    | true =>
      rw [htold] at Hwas
      have Hh := Lib.hid htold
      clear htold HGt
      cases os
      all_goals cases wb
      · obtain rfl : n2 = nn := by have := Hmy.out; simp [manyS] at this; omega
        clear Hmy Hpos
        gi_wp2_with (first | (gi_at_lookup; refine wpListIn_lookup_bool _ rfl _ _ 84 rfl 9 4 (string_keyed Try.underlying9) Try.underlying84 Try.underlying4 (mb_zero _) (w.heap.size + 1 + 1) P.length D rfl hown _ _ rfl hkey ?_; intro cb hat; obtain rfl : cb = false := (by have := Hwas.out cb hat; simpa using this); clear hat; rw [Hh.out]) | (gi_at_mapUpdate; go_loud (refine wpListIn_mapUpdate_own _ rfl _ _ _ 84 rfl 9 4 (string_keyed Try.underlying9) Try.underlying84 _ (w.heap.size + 1 + 1) P.length D rfl hown hPm _ _ _ rfl rfl hkey _ [] (plainElem_bool Try.underlying4 false) ?_; intro w7 hown7 hgr7; have HF := Lib.hid (HQ.out.fin (o := ⟨false, on, oi⟩) Hsn.out (by have hq := (Hnn.out ▸ HQ.out.n); rw [Hn2.out]; exact hq) (Touch.refl _ _) hown7 hgr7); clear hown7 hgr7)))
        exact ⟨HF.out.2.2 _ (by have := Hsz.out; omega), HF.out.2.1, HE.out _ HF.out.1⟩
      · have Hnv : Hid ((n2 : Int) = ((nn : Int) - 1)) := Lib.hid (by have := Hmy.out; simp [manyS] at this; omega)
        have hp0 : 0 < nn := Hpos.out rfl
        have hwr : IntKind.i64.wrap ((nn : Int) - 1) = ((nn : Int) - 1) := by rw [IntKind.wrap_i64]; omega
        clear Hmy Hpos
        gi_wp2_with (first | (gi_at_lookup; refine wpListIn_lookup_bool _ rfl _ _ 84 rfl 9 4 (string_keyed Try.underlying9) Try.underlying84 Try.underlying4 (mb_zero _) (w.heap.size + 1 + 1) P.length D rfl hown _ _ rfl hkey ?_; intro cb hat; obtain rfl : cb = true := (by have := Hwas.out cb hat; simpa using this); clear hat; rw [Hh.out]) | (gi_at_mapUpdate; go_loud (refine wpListIn_mapUpdate_own _ rfl _ _ _ 84 rfl 9 4 (string_keyed Try.underlying9) Try.underlying84 _ (w.heap.size + 1 + 1) P.length D rfl (MapB.far hown (a := ⟨w.heap.size + 1, 0, none⟩) (show w.heap.size + 1 + 1 ≠ w.heap.size + 1 by omega) _) hPm _ _ _ rfl rfl hkey _ [] (plainElem_bool Try.underlying4 false) ?_; intro w7 hown7 hgr7; have HF := Lib.hid (HQ.out.fin (o := ⟨false, on, oi⟩) Hsn.out (by have hq := HQ.out.n.set (.int .i64 ((nn : Int) - 1)); rw [Hn2.out]; rw [Hnv.out]; exact hq) ((Touch.refl (fun k => k = w.heap.size + 1) W).setCell (x := ⟨w.heap.size + 1, 0, none⟩) (fun _ => rfl) _) hown7 hgr7); clear hown7 hgr7)))
        exact ⟨HF.out.2.2 _ (by have := Hsz.out; omega), HF.out.2.1, HE.out _ HF.out.1⟩
      · have Hnv : Hid ((n2 : Int) = ((nn : Int) + 1)) := Lib.hid (by have := Hmy.out; simp [manyS] at this; omega)
        have hwr : IntKind.i64.wrap ((nn : Int) + 1) = ((nn : Int) + 1) := by rw [IntKind.wrap_i64]; omega
        clear Hmy Hpos
        gi_wp2_with (first | (gi_at_lookup; refine wpListIn_lookup_bool _ rfl _ _ 84 rfl 9 4 (string_keyed Try.underlying9) Try.underlying84 Try.underlying4 (mb_zero _) (w.heap.size + 1 + 1) P.length D rfl hown _ _ rfl hkey ?_; intro cb hat; obtain rfl : cb = false := (by have := Hwas.out cb hat; simpa using this); clear hat; rw [Hh.out]) | (gi_at_mapUpdate; go_loud (refine wpListIn_mapUpdate_own _ rfl _ _ _ 84 rfl 9 4 (string_keyed Try.underlying9) Try.underlying84 _ (w.heap.size + 1 + 1) P.length D rfl (MapB.far hown (a := ⟨w.heap.size + 1, 0, none⟩) (show w.heap.size + 1 + 1 ≠ w.heap.size + 1 by omega) _) hPm _ _ _ rfl rfl hkey _ [] (plainElem_bool Try.underlying4 true) ?_; intro w7 hown7 hgr7; have HF := Lib.hid (HQ.out.fin (o := ⟨true, on, oi⟩) Hsn.out (by have hq := HQ.out.n.set (.int .i64 ((nn : Int) + 1)); rw [Hn2.out]; rw [Hnv.out]; exact hq) ((Touch.refl (fun k => k = w.heap.size + 1) W).setCell (x := ⟨w.heap.size + 1, 0, none⟩) (fun _ => rfl) _) hown7 hgr7); clear hown7 hgr7)))
        exact ⟨HF.out.2.2 _ (by have := Hsz.out; omega), HF.out.2.1, HE.out _ HF.out.1⟩
      · obtain rfl : n2 = nn := by have := Hmy.out; simp [manyS] at this; omega
        clear Hmy Hpos
        gi_wp2_with (first | (gi_at_lookup; refine wpListIn_lookup_bool _ rfl _ _ 84 rfl 9 4 (string_keyed Try.underlying9) Try.underlying84 Try.underlying4 (mb_zero _) (w.heap.size + 1 + 1) P.length D rfl hown _ _ rfl hkey ?_; intro cb hat; obtain rfl : cb = true := (by have := Hwas.out cb hat; simpa using this); clear hat; rw [Hh.out]) | (gi_at_mapUpdate; go_loud (refine wpListIn_mapUpdate_own _ rfl _ _ _ 84 rfl 9 4 (string_keyed Try.underlying9) Try.underlying84 _ (w.heap.size + 1 + 1) P.length D rfl hown hPm _ _ _ rfl rfl hkey _ [] (plainElem_bool Try.underlying4 true) ?_; intro w7 hown7 hgr7; have HF := Lib.hid (HQ.out.fin (o := ⟨true, on, oi⟩) Hsn.out (by have hq := (Hnn.out ▸ HQ.out.n); rw [Hn2.out]; exact hq) (Touch.refl _ _) hown7 hgr7); clear hown7 hgr7)))
        exact ⟨HF.out.2.2 _ (by have := Hsz.out; omega), HF.out.2.1, HE.out _ HF.out.1⟩
    | false =>
      rw [htold] at Hwas
      have Hh := Lib.hid htold
      clear htold
      cases os
      all_goals cases wb
      · obtain rfl : gb = false := (by obtain ⟨cb, hcb⟩ := seen_at Hsn.out Hh.out; have := Hwas.out cb hcb; simpa using this)
        obtain rfl : n2 = nn := by have := Hmy.out; simp [manyS] at this; omega
        clear Hmy Hpos
        gi_wp2_with (first | (gi_at_lookup; refine wpListIn_lookup_bool _ rfl _ _ 84 rfl 9 4 (string_keyed Try.underlying9) Try.underlying84 Try.underlying4 (mb_zero _) (w.heap.size + 1 + 1) P.length D rfl hown _ _ rfl hkey ?_; intro cb hat; skip; clear hat; rw [Hh.out]) | (gi_at_mapUpdate; go_loud (refine wpListIn_mapUpdate_own _ rfl _ _ _ 84 rfl 9 4 (string_keyed Try.underlying9) Try.underlying84 _ (w.heap.size + 1 + 1) P.length D rfl hown hPm _ _ _ rfl rfl hkey _ [] (plainElem_bool Try.underlying4 false) ?_; intro w7 hown7 hgr7; have HF := Lib.hid (HQ.out.fin (o := ⟨false, on, oi⟩) Hsn.out (by have hq := (Hnn.out ▸ HQ.out.n); rw [Hn2.out]; exact hq) (Touch.refl _ _) hown7 hgr7); clear hown7 hgr7)) | (refine ⟨trivial, ?_⟩; gi_at_call 20; refine (CallsIn.inRound lb (callsIn_wide.2 HGt.out)).mono ?_; rintro e w5 ⟨rfl, rfl⟩))
        exact ⟨HF.out.2.2 _ (by have := Hsz.out; omega), HF.out.2.1, HE.out _ HF.out.1⟩
      · obtain rfl : gb = true := (by obtain ⟨cb, hcb⟩ := seen_at Hsn.out Hh.out; have := Hwas.out cb hcb; simpa using this)
        have Hnv : Hid ((n2 : Int) = ((nn : Int) - 1)) := Lib.hid (by have := Hmy.out; simp [manyS] at this; omega)
        have hp0 : 0 < nn := Hpos.out rfl
        have hwr : IntKind.i64.wrap ((nn : Int) - 1) = ((nn : Int) - 1) := by rw [IntKind.wrap_i64]; omega
        clear Hmy Hpos
        gi_wp2_with (first | (gi_at_lookup; refine wpListIn_lookup_bool _ rfl _ _ 84 rfl 9 4 (string_keyed Try.underlying9) Try.underlying84 Try.underlying4 (mb_zero _) (w.heap.size + 1 + 1) P.length D rfl hown _ _ rfl hkey ?_; intro cb hat; skip; clear hat; rw [Hh.out]) | (gi_at_mapUpdate; go_loud (refine wpListIn_mapUpdate_own _ rfl _ _ _ 84 rfl 9 4 (string_keyed Try.underlying9) Try.underlying84 _ (w.heap.size + 1 + 1) P.length D rfl (MapB.far hown (a := ⟨w.heap.size + 1, 0, none⟩) (show w.heap.size + 1 + 1 ≠ w.heap.size + 1 by omega) _) hPm _ _ _ rfl rfl hkey _ [] (plainElem_bool Try.underlying4 false) ?_; intro w7 hown7 hgr7; have HF := Lib.hid (HQ.out.fin (o := ⟨false, on, oi⟩) Hsn.out (by have hq := HQ.out.n.set (.int .i64 ((nn : Int) - 1)); rw [Hn2.out]; rw [Hnv.out]; exact hq) ((Touch.refl (fun k => k = w.heap.size + 1) W).setCell (x := ⟨w.heap.size + 1, 0, none⟩) (fun _ => rfl) _) hown7 hgr7); clear hown7 hgr7)) | (refine ⟨trivial, ?_⟩; gi_at_call 20; refine (CallsIn.inRound lb (callsIn_wide.2 HGt.out)).mono ?_; rintro e w5 ⟨rfl, rfl⟩))
        exact ⟨HF.out.2.2 _ (by have := Hsz.out; omega), HF.out.2.1, HE.out _ HF.out.1⟩
      · obtain rfl : gb = false := (by obtain ⟨cb, hcb⟩ := seen_at Hsn.out Hh.out; have := Hwas.out cb hcb; simpa using this)
        have Hnv : Hid ((n2 : Int) = ((nn : Int) + 1)) := Lib.hid (by have := Hmy.out; simp [manyS] at this; omega)
        have hwr : IntKind.i64.wrap ((nn : Int) + 1) = ((nn : Int) + 1) := by rw [IntKind.wrap_i64]; omega
        clear Hmy Hpos
        gi_wp2_with (first | (gi_at_lookup; refine wpListIn_lookup_bool _ rfl _ _ 84 rfl 9 4 (string_keyed Try.underlying9) Try.underlying84 Try.underlying4 (mb_zero _) (w.heap.size + 1 + 1) P.length D rfl hown _ _ rfl hkey ?_; intro cb hat; skip; clear hat; rw [Hh.out]) | (gi_at_mapUpdate; go_loud (refine wpListIn_mapUpdate_own _ rfl _ _ _ 84 rfl 9 4 (string_keyed Try.underlying9) Try.underlying84 _ (w.heap.size + 1 + 1) P.length D rfl (MapB.far hown (a := ⟨w.heap.size + 1, 0, none⟩) (show w.heap.size + 1 + 1 ≠ w.heap.size + 1 by omega) _) hPm _ _ _ rfl rfl hkey _ [] (plainElem_bool Try.underlying4 true) ?_; intro w7 hown7 hgr7; have HF := Lib.hid (HQ.out.fin (o := ⟨true, on, oi⟩) Hsn.out (by have hq := HQ.out.n.set (.int .i64 ((nn : Int) + 1)); rw [Hn2.out]; rw [Hnv.out]; exact hq) ((Touch.refl (fun k => k = w.heap.size + 1) W).setCell (x := ⟨w.heap.size + 1, 0, none⟩) (fun _ => rfl) _) hown7 hgr7); clear hown7 hgr7)) | (refine ⟨trivial, ?_⟩; gi_at_call 20; refine (CallsIn.inRound lb (callsIn_wide.2 HGt.out)).mono ?_; rintro e w5 ⟨rfl, rfl⟩))
        exact ⟨HF.out.2.2 _ (by have := Hsz.out; omega), HF.out.2.1, HE.out _ HF.out.1⟩
      · obtain rfl : gb = true := (by obtain ⟨cb, hcb⟩ := seen_at Hsn.out Hh.out; have := Hwas.out cb hcb; simpa using this)
        obtain rfl : n2 = nn := by have := Hmy.out; simp [manyS] at this; omega
        clear Hmy Hpos
        gi_wp2_with (first | (gi_at_lookup; refine wpListIn_lookup_bool _ rfl _ _ 84 rfl 9 4 (string_keyed Try.underlying9) Try.underlying84 Try.underlying4 (mb_zero _) (w.heap.size + 1 + 1) P.length D rfl hown _ _ rfl hkey ?_; intro cb hat; skip; clear hat; rw [Hh.out]) | (gi_at_mapUpdate; go_loud (refine wpListIn_mapUpdate_own _ rfl _ _ _ 84 rfl 9 4 (string_keyed Try.underlying9) Try.underlying84 _ (w.heap.size + 1 + 1) P.length D rfl hown hPm _ _ _ rfl rfl hkey _ [] (plainElem_bool Try.underlying4 true) ?_; intro w7 hown7 hgr7; have HF := Lib.hid (HQ.out.fin (o := ⟨true, on, oi⟩) Hsn.out (by have hq := (Hnn.out ▸ HQ.out.n); rw [Hn2.out]; exact hq) (Touch.refl _ _) hown7 hgr7); clear hown7 hgr7)) | (refine ⟨trivial, ?_⟩; gi_at_call 20; refine (CallsIn.inRound lb (callsIn_wide.2 HGt.out)).mono ?_; rintro e w5 ⟨rfl, rfl⟩))
        exact ⟨HF.out.2.2 _ (by have := Hsz.out; omega), HF.out.2.1, HE.out _ HF.out.1⟩
  case done =>
    rintro D ys W hD rfl hQ hK
    rw [fin_ops] at hQ
    have cN := hQ.n.cell
    rw [show opsT t (opsE l) = viewT t l from rfl] at cN
    have HQ := Lib.hid hQ
    have HK := Lib.hid hK
    clear hQ hK
    gi_wp2
    refine ⟨by simp, .inl ⟨_, _, rfl, run_takeDeferred HK.out, ?_⟩⟩
    refine ⟨_, results_tmp (t := 4) (by kernel_rfl) _ _ _, rfl, ?_⟩
    exact (HQ.out.bel).trans (belowK_b (w := w) (Nat.le_refl _) W D _ _ (by have := Hsz.out; omega) HK.out rfl rfl)
  case stop =>
    rintro D cc pre W _ _ h _
    exact h.elim
end Go.Proofs.Ytacnmdlefonjmaa

