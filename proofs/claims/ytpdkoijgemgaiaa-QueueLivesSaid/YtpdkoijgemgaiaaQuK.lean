/-
  Which statements entries set (remudaref16.IDs); an entry of a row is turned in place (layer 21).
-/
import Derived.Test.YtpdkoijgemgaiaaQuH
namespace Go.Proofs.Ytpdkoijgemgaiaa
open Go.RowKit
set_option linter.unusedVariables false
set_option linter.unusedSimpArgs false

def idsO (g : List OpV) : List Int := (g.filter (fun x => x.set)).map (fun x => x.id)
def idsL : List EnV → List Int
  | [] => []
  | x :: L => idsO x.good ++ idsL L
theorem idsO_snoc (g : List OpV) (j : Nat) (hj : j < g.length) : idsO (g.take (j + 1)) = idsO (g.take j) ++ (if g[j].set = true then [g[j].id] else []) := by
  rw [List.take_succ_eq_append_getElem hj]
  unfold idsO
  rw [List.filter_append, List.map_append]
  congr 1
  by_cases h : g[j].set = true <;> simp [List.filter_cons, h]
theorem idsL_append : ∀ (L M : List EnV), idsL (L ++ M) = idsL L ++ idsL M
  | [], _ => rfl
  | x :: L, M => by simp [idsL, idsL_append L M]
theorem idsL_snoc (L : List EnV) (k : Nat) (hk : k < L.length) : idsL (L.take (k + 1)) = idsL (L.take k) ++ idsO L[k].good := by
  rw [List.take_succ_eq_append_getElem hk, idsL_append]
  simp [idsL]

theorem Try.info3 : (Try.prog.info? 3).map (fun i => (i.zero, i.size, i.bytes)) = some (some (.int .i64 0), 1, 8) := by kernel_rfl
theorem info_int : ∃ i z, Try.prog.info? 3 = some i ∧ i.zero = some z ∧ i.size = 1 ∧ i.bytes = 8 ∧ z.cells.size = 1 := by
  obtain ⟨i0, hi, hz0, hz1, hz2⟩ := info_parts Try.info3
  exact ⟨i0, _, hi, hz0, hz1, hz2, rfl⟩

abbrev OwnI (B : Nat) (w : World) (v : Value) (xs : List Int) : Prop := OwnS B 3 1 IntU (fun _ => True) w v xs

theorem step_appendI {ops : Array Oper} {rest : List Oper} {o : Oper} {a : Act} {Q : Exit → Act → World → Prop} (w : World) (hgd : o.guard = none) (s y : Operand)
    (ho : o.op = .call { callee := .builtin .append, args := #[s, y], argTypes := #[36, 36] })
    (B : Nat) (v : Value) (xs : List Int) (hsv : a.eval s = v) (hown : OwnI B w v xs) (p : Option Addr) (x : Int) (hx : a.eval y = .slice p 1 1) (hs : SliceS 1 IntU (fun k => True ∧ rowOf v ≠ some k) w [.slice p 1 1] [x])
    (hroom : xs.length ≤ 100000000) (hbase : B ≤ w.heap.size)
    (h : ∀ v' w', OwnI B w' v' (xs ++ [x]) → w.grownBy w' (rowOf v) → (∀ k, rowOf v' = some k → rowOf v = some k ∨ w.heap.size ≤ k) → wpList Try.prog ops Q rest (a.put o.dst v') w') : wpList Try.prog ops Q (o :: rest) a w :=
  wpList_append_S w hgd s y 36 36 ho B 3 3 1 8 Try.underlying36 Try.underlying36 info_int IntU IntU.still IntU.one (fun _ => True) v xs hsv hown p 1 1 [x] hx hs
    (by simp; omega) (by simp [maxLen]; omega) hbase h

theorem new1I {B : Nat} {w : World} {v : Value} {xs : List Int} (x : Int) (ho : OwnI B w v xs) : SliceS 1 IntU (fun k => True ∧ rowOf v ≠ some k) (w.alloc (.cells #[.int .i64 x] 3)) [.slice (some ⟨w.heap.size, 0, none⟩) 1 1] [x] :=
  SliceS.new1 (S := fun k => True ∧ rowOf v ≠ some k) IntU.still w 3 #[.int .i64 x] x rfl rfl (fun k _ h => h) ⟨trivial, fun e => by have := (ho.row _ e).2; omega⟩

/-- The j-th op of an entry's good. -/
theorem op_at {S : Nat → Prop} {w : World} {p : Option Addr} {n c j : Nat} {g : List OpV} (h : SliceS 3 OpS S w [.slice p n c] g) (hj : j < g.length) :
    ∃ b o, p = some ⟨b, o, none⟩ ∧ S b ∧ b < w.heap.size ∧ w.cell? ⟨b, o + j * 3, none⟩ = some (.bool g[j].set) ∧ w.cell? ⟨b, o + j * 3 + 1, none⟩ = some (.string g[j].name) ∧ w.cell? ⟨b, o + j * 3 + 2, none⟩ = some (.int .i64 g[j].id) := by
  obtain ⟨b, o, cs, rfl, hS, hb, _, hc, hr⟩ := h.elem (by omega) j g[j] (List.getElem?_eq_getElem hj)
  unfold OpS at hr
  subst hr
  have c0 := hc 0 _ rfl
  rw [Nat.add_zero] at c0
  exact ⟨b, o, rfl, hS, hb, c0, hc 1 _ rfl, hc 2 _ rfl⟩

set_option maxRecDepth 100000 in
set_option maxHeartbeats 10000000 in
theorem ids_any (S : Nat → Prop) (p : Option Addr) (n c : Nat) (L : List EnV) (w : World) (h : SliceS 8 EnS S w [.slice p n c] L) (hs : ∀ x ∈ L, EnSmall x) (hl : L.length ≤ 5000) :
    Calls Try.prog 34 #[.slice p n c] w fun e w' => ∃ v, e = .returned v ∧ OwnI w.heap.size w' v (idsL L) ∧ Below w.heap.size w w' := by
  have H := Lib.hid (h.weak EnS.still (S' := fun k => k < w.heap.size) (fun k hk _ => hk))
  have Hs := Lib.hid hs
  obtain ⟨rfl, hlc, hcm⟩ := h.len
  unfold maxLen at hcm
  clear h hs
  go_enter Try.func34, Try.ntmps34
  go_wp2_with fail
  go_loopw [3, 4] (fun v i wr => ∃ k : Nat, k ≤ L.length ∧ i = .int .i64 k ∧ OwnI w.heap.size wr v (idsL (L.take k)) ∧ (idsL (L.take k)).length ≤ k * 1000 ∧ Below w.heap.size w wr) (fun _ i _ => L.length - (intOf i).toNat)
  case atStart => exact ⟨0, Nat.zero_le _, rfl, OwnS.empty _, by simp [idsL], Below.refl _ _⟩
  case round =>
    obtain ⟨k, hk, rfl, ho, hkl, hb⟩ := hrel
    have Ho := Lib.hid ho
    have Hb := Lib.hid hb
    have Hkl := Lib.hid hkl
    clear ho hb hkl
    have hwk : IntKind.i64.wrap ((k : Int) + 1) = (k : Int) + 1 := by rw [IntKind.wrap_i64]; omega
    by_cases hlt : k < L.length
    · obtain ⟨b, o, a, rfl, hS, hbl, hL, c0, c1, c2, c3, c4, c5, c6, c7⟩ := en_at H.out hlt
      have Hg := Lib.hid hL.good
      have Hx := Lib.hid (Hs.out L[k] (List.getElem_mem hlt)).1
      have Hsn := Lib.hid (idsL_snoc L k hlt)
      clear hL c0 c1 c2 c3 c5 c6 c7
      have Hc4 := Lib.hid c4
      generalize L[k] = x at *
      have hgl := Hx.out
      have hlti : (k : Int) < (L.length : Int) := by omega
      clear c4
      obtain ⟨pg, cg, pb, cb, pc, cc, pr, cr⟩ := a
      dsimp only at *
      have Hgl := Hg.out.len
      obtain ⟨_, hgc, hgm⟩ := Hgl
      unfold maxLen at hgm
      go_wp2_with fail
      go_loopw [3, 5] (fun v i wi => ∃ j : Nat, j ≤ x.good.length ∧ i = .int .i64 j ∧ OwnI w.heap.size wi v (idsL (L.take k) ++ idsO (x.good.take j)) ∧ (idsL (L.take k) ++ idsO (x.good.take j)).length ≤ k * 1000 + j ∧ Below w.heap.size w wi) (fun _ i _ => x.good.length - (intOf i).toNat)
      case atStart => exact ⟨0, Nat.zero_le _, rfl, by simpa [idsO] using Ho.out, by simpa [idsO] using Hkl.out, Hb.out⟩
      case round =>
        obtain ⟨j, hj, rfl, ho2, hjl, hb2⟩ := hrel
        have Ho2 := Lib.hid ho2
        have Hb2 := Lib.hid hb2
        have Hjl := Lib.hid hjl
        have hsz2 := hb2.size
        have hwj : IntKind.i64.wrap ((j : Int) + 1) = (j : Int) + 1 := by rw [IntKind.wrap_i64]; omega
        have c4 := (hb2.cell (p := ⟨b, o + k * 8 + 4, none⟩) hbl).trans Hc4.out
        clear ho2 hb2 hjl
        by_cases hltj : j < x.good.length
        · obtain ⟨gb, go, rfl, hgS, hgbl, d0, d1, d2⟩ := op_at Hg.out hltj
          have d0' := (Hb2.out.cell (p := ⟨gb, go + j * 3, none⟩) hgbl).trans d0
          have d2' := (Hb2.out.cell (p := ⟨gb, go + j * 3 + 2, none⟩) hgbl).trans d2
          have Hsnj := Lib.hid (idsO_snoc x.good j hltj)
          clear d0 d1 d2
          generalize x.good[j] = y at *
          obtain ⟨ys, yn, yi⟩ := y
          dsimp only at *
          have hltji : (j : Int) < (x.good.length : Int) := by omega
          cases ys with
          | false =>
            have Hj1 : Hid (idsL (L.take k) ++ idsO (x.good.take (j + 1)) = idsL (L.take k) ++ idsO (x.good.take j)) := Lib.hid (by rw [Hsnj.out]; simp)
            clear Hsnj
            go_wp2_with fail
            go_roundw
            case rel => exact ⟨j + 1, by omega, by go_num, by rw [Hj1.out]; exact Ho2.out, by rw [Hj1.out]; have := Hjl.out; omega, Hb2.out⟩
            case measure => simp [intOf]; omega
          | true =>
            have Hj1 : Hid (idsL (L.take k) ++ idsO (x.good.take (j + 1)) = (idsL (L.take k) ++ idsO (x.good.take j)) ++ [yi]) := Lib.hid (by rw [Hsnj.out]; simp)
            have Hn := Lib.hid (new1I yi Ho2.out)
            have hal := (Below.refl wr.heap.size wr).alloc (Nat.le_refl _) (.cells #[.int .i64 yi] 3)
            have Ho3 := Lib.hid (Ho2.out.below' IntU.still hal)
            have Hb3 := Lib.hid (Hb2.out.trans (hal.mono hsz2))
            have hroom : (idsL (L.take k) ++ idsO (x.good.take j)).length ≤ 100000000 := by have := Hjl.out; omega
            clear Hsnj hal
            generalize hids : idsL (L.take k) ++ idsO (x.good.take j) = ids at *
            go_wp2_with (at_builtin; refine step_appendI _ rfl (.tmp 31) (.tmp 41) rfl w.heap.size u3 ids rfl Ho3.out (some ⟨wr.heap.size, 0, none⟩) yi rfl Hn.out hroom Hb3.out.size ?_; intro v4 w4 ho4 hg4 hn4; have Ho4 := Lib.hid ho4; have Hb4 := Lib.hid (Hb3.out.trans (Below.of_row hg4 Hb3.out.size (fun k hk => (Ho3.out.row k hk).1))); clear ho4 hg4 hn4)
            go_roundw
            case rel => exact ⟨j + 1, by omega, by go_num, by rw [Hj1.out]; exact Ho4.out, by rw [Hj1.out]; have := Hjl.out; simp; omega, Hb4.out⟩
            case measure => simp [intOf]; omega
        · obtain rfl : j = x.good.length := by omega
          rw [List.take_length] at Ho2 Hjl
          rw [← Hsn.out] at Ho2 Hjl
          go_wp2_with fail
          go_roundw
          case rel => exact ⟨k + 1, by omega, by go_num, Ho2.out, by have := Hjl.out; omega, Hb2.out⟩
          case measure => simp [intOf]; omega
    · obtain rfl : k = L.length := by omega
      rw [List.take_length] at Ho
      obtain ⟨pv, cv, rfl, _⟩ := Ho.out.slice IntU.still (S' := fun _ => True) (fun _ _ _ => trivial) (fun _ _ => trivial)
      go_wp2
      go_ret
      exact ⟨_, rfl, Ho.out, Hb.out⟩

end Go.Proofs.Ytpdkoijgemgaiaa
