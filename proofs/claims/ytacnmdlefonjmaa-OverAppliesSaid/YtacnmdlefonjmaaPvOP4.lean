/-
  Ground: OvD, OvJ, OvG, OvF.
-/
import Derived.Test.YtacnmdlefonjmaaPvOP2
import Derived.StringKeys
import Derived.Deep.DeepCutAuto
import Derived.WideLaws
import Derived.BigQuiet
import Derived.WalkSpells
import Derived.Test.YtacnmdlefonjmaaPvOP3
import Derived.Deep.RegionLaw
/-
  The program's table of names (layer 15): in memory; New, Set, Get, Delete, Len.
-/
namespace Go.Proofs.Ytacnmdlefonjmaa
open Go.RowKit Go.Maps
set_option linter.unusedVariables false
set_option linter.unusedSimpArgs false

abbrev MapI (w : World) (mb n : Nat) (D : DataW Unit) : Prop := w.ownsMap Try.prog 9 (plainElem Try.prog 3) mb n D
theorem MapI.touch {p : Nat → Prop} {w w' : World} {mb n : Nat} {D : DataW Unit} (h : MapI w mb n D) (ht : Touch p w w') (hp : ¬ p mb) : MapI w' mb n D := by
  have hlt := h.lt
  obtain ⟨es, clock, hb, F, hs, rfl⟩ := h
  exact ⟨es, clock, (ht.block mb hlt hp).trans hb, F, hs, rfl⟩
/-- The table: its struct in block tb, its map in block mb. -/
structure TbO (B : Nat) (w : World) (tb mb most : Nat) (t : TbV) : Prop where
  blk : Blk w tb 89 #[.map (some mb), .int .i64 (most : Int)]
  own : ∃ D : DataW Unit, MapI w mb t.n D ∧ TbD D t
  tB : B ≤ tb
  mB : B ≤ mb
  ne : tb ≠ mb
  len : t.n ≤ most
  lim : most ≤ 4096
section
variable {B : Nat} {w w' : World} {tb mb most : Nat} {t t' : TbV}
theorem TbO.touch {p : Nat → Prop} (h : TbO B w tb mb most t) (ht : Touch p w w') (h1 : ¬ p tb) (h2 : ¬ p mb) : TbO B w' tb mb most t := by
  obtain ⟨D, hD, hr⟩ := h.own
  exact ⟨ht.blk h.blk h1, ⟨D, hD.touch ht h2, hr⟩, h.tB, h.mB, h.ne, h.len, h.lim⟩
theorem TbO.still (h : TbO B w tb mb most t) (hb : Below w.heap.size w w') : TbO B w' tb mb most t :=
  h.touch (Touch.of_below (p := fun _ => False) hb) (fun e => e) (fun e => e)
theorem TbO.base {B' : Nat} (h : TbO B w tb mb most t) (hb : B' ≤ B) : TbO B' w tb mb most t := ⟨h.blk, h.own, Nat.le_trans hb h.tB, Nat.le_trans hb h.mB, h.ne, h.len, h.lim⟩
theorem TbO.lt (h : TbO B w tb mb most t) : tb < w.heap.size ∧ mb < w.heap.size := by
  obtain ⟨D, hD, hr⟩ := h.own
  exact ⟨h.blk.lt, hD.lt⟩
end
theorem tb_key {s : ByteArray} (hs : s.size ≤ maxLen) : keyOf Try.prog 9 (.string s) = some (.string (nmB s)) := WideMaps.keyOf_string_mk Try.underlying9 hs
theorem tb_zero (w : World) : (zeroValue 3).run Try.prog w = .ok (.int .i64 0) w := by kernel_rfl

theorem tReady_nil (w : World) : Calls Try.prog 39 #[.pointer none] w fun e w' => e = .returned (.bool false) ∧ w = w' := by
  go_enter Try.func39, Try.ntmps39
  go_wp2
  go_ret
  exact ⟨rfl, rfl⟩
set_option maxRecDepth 100000 in
theorem tReady_any (tb mb : Nat) (u : Value) (w : World) (h : ∀ i, w.cell? ⟨tb, i, none⟩ = (#[.map (some mb), u] : Array Value)[i]?) :
    Calls Try.prog 39 #[.pointer (some ⟨tb, 0, none⟩)] w fun e w' => e = .returned (.bool true) ∧ w = w' := by
  have hq : ∀ w, (binOp .neq 87 (.map (some mb)) (.map none)).run Try.prog w = .ok (.bool true) w := fun w => run_neq_map_nil w _ _ _ (some mb) Try.underlying87
  go_enter Try.func39, Try.ntmps39
  go_wp2
  go_ret
  exact ⟨rfl, rfl⟩

theorem tNew_ok (most : Nat) (w : World) (h1 : 1 ≤ most) (h2 : most ≤ 4096) :
    Calls Try.prog 29 #[.int .i64 (most : Int)] w fun e w' =>
      e = .returned (.tuple #[.pointer (some ⟨w.heap.size + 1, 0, none⟩), .int .i64 0]) ∧ TbO w.heap.size w' (w.heap.size + 1) w.heap.size most tbNo ∧ Below w.heap.size w w' := by
  have hmm := @run_makeMap Try.prog
  have Hend : Hid (TbO w.heap.size ((w.alloc (.map #[] 0)).alloc (.cells #[.map (some w.heap.size), .int .i64 (most : Int)] 89)) (w.heap.size + 1) w.heap.size most tbNo ∧ Below w.heap.size w ((w.alloc (.map #[] 0)).alloc (.cells #[.map (some w.heap.size), .int .i64 (most : Int)] 89))) := by
    refine Lib.hid ⟨⟨?_, ⟨_, (World.ownsMap_made w _ _ _).alloc _, TbD.no⟩, by omega, by omega, by omega, Nat.zero_le _, h2⟩, ((Below.refl _ _).alloc (Nat.le_refl _) _).alloc (by simp) _⟩
    have := Blk.new (w.alloc (.map #[] 0)) 89 #[.map (some w.heap.size), .int .i64 (most : Int)]
    rwa [World.size_alloc] at this
  have hd1 : decide ((most : Int) < 1) = false := by simp; omega
  have hd2 : decide ((4096 : Int) < (most : Int)) = false := by simp; omega
  go_enter Try.func29, Try.ntmps29
  go_wp2_with fail
  go_ret2
  exact ⟨rfl, Hend.out⟩
theorem tGet_nil (s : ByteArray) (w : World) : Calls Try.prog 20 #[.pointer none, .string s] w fun e w' => e = .returned (.tuple #[.int .i64 0, .bool false]) ∧ w = w' := by
  go_enter Try.func20, Try.ntmps20
  go_wp2_with fail
  refine (tReady_nil _).mono ?_
  rintro e w1 ⟨rfl, rfl⟩
  go_wp2_with fail
  go_ret2
  exact ⟨rfl, rfl⟩
theorem tSet_nil (s : ByteArray) (i : Int) (w : World) : Calls Try.prog 31 #[.pointer none, .string s, .int .i64 i] w fun e w' => e = .returned (.tuple #[.int .i64 0, .int .i64 2]) ∧ w = w' := by
  go_enter Try.func31, Try.ntmps31
  go_wp2_with fail
  refine (tReady_nil _).mono ?_
  rintro e w1 ⟨rfl, rfl⟩
  go_wp2_with fail
  go_ret2
  exact ⟨rfl, rfl⟩
theorem tLen_nil (w : World) : Calls Try.prog 22 #[.pointer none] w fun e w' => e = .returned (.int .i64 0) ∧ w = w' := by
  go_enter Try.func22, Try.ntmps22
  go_wp2_with fail
  refine (tReady_nil _).mono ?_
  rintro e w1 ⟨rfl, rfl⟩
  go_wp2_with fail
  go_ret
  exact ⟨rfl, rfl⟩
theorem tDelete_nil (s : ByteArray) (w : World) : Calls Try.prog 51 #[.pointer none, .string s] w fun e w' => e = .returned (.tuple #[.int .i64 0, .bool false]) ∧ w = w' := by
  go_enter Try.func51, Try.ntmps51
  go_wp2_with fail
  refine (tGet_nil _ _).mono ?_
  rintro e w1 ⟨rfl, rfl⟩
  go_wp2_with fail
  go_ret2
  exact ⟨rfl, rfl⟩

set_option maxRecDepth 100000 in
set_option maxHeartbeats 4000000 in
theorem tLen_any (B tb mb most : Nat) (t : TbV) (w : World) (h : TbO B w tb mb most t) :
    Calls Try.prog 22 #[.pointer (some ⟨tb, 0, none⟩)] w fun e w' => e = .returned (.int .i64 (t.n : Nat)) ∧ w = w' := by
  have hc := h.blk.cell
  have HR := Lib.hid (tReady_any tb mb _ w hc)
  obtain ⟨D, hown, hr⟩ := h.own
  have Hn := Lib.hid hr.size
  clear h hr
  go_enter Try.func22, Try.ntmps22
  go_wp2_with fail
  refine HR.out.mono ?_
  rintro e w1 ⟨rfl, rfl⟩
  go_wp2_with (at_len; refine wpList_len_own _ rfl _ 87 rfl 9 3 Try.underlying87 _ mb t.n D rfl hown ?_)
  go_ret
  exact ⟨ret_int (by rw [Hn.out]), rfl⟩

set_option maxRecDepth 100000 in
set_option maxHeartbeats 4000000 in
theorem tGet_any (B tb mb most : Nat) (t : TbV) (s : ByteArray) (w : World) (h : TbO B w tb mb most t) (hs : s.size ≤ maxLen) :
    Calls Try.prog 20 #[.pointer (some ⟨tb, 0, none⟩), .string s] w fun e w' => e = .returned (.tuple #[.int .i64 (t.getI (nmB s)), .bool (t.getB (nmB s))]) ∧ w = w' := by
  have hc := h.blk.cell
  have HR := Lib.hid (tReady_any tb mb _ w hc)
  obtain ⟨D, hown, hr⟩ := h.own
  have Hr := Lib.hid hr
  have hkey := tb_key hs
  clear h hr hs
  go_enter Try.func20, Try.ntmps20
  go_wp2_with fail
  refine HR.out.mono ?_
  rintro e w1 ⟨rfl, rfl⟩
  go_wp2_with (at_lookup; refine wpList_lookup_own_ok_int _ rfl _ _ 87 rfl 9 3 .i64 (string_keyed Try.underlying9) Try.underlying87 Try.underlying3 (tb_zero _) mb t.n D rfl hown _ _ rfl hkey ?_; intro c hat hwc; have Hat := Lib.hid hat; clear hat hwc hown)
  go_ret2
  have e1 : c = t.getI (nmB s) := by
    have := (Hr.out.getI (nmB s)).symm.trans Hat.out
    injection this with this
    injection this with _ this
    exact this.symm
  have e2 : Maps.has D (.string (nmB s)) = t.getB (nmB s) := Hr.out.has _
  exact ⟨by rw [e1, e2] <;> rfl, rfl⟩

theorem MapI.tight {w : World} {mb n : Nat} {D : DataW Unit} (h : MapI w mb n D) : MapI w mb (Maps.size D) D := ownsMap_tight h
theorem tb_has {D : DataW Unit} {t : TbV} (h : TbD D t) (s : List UInt8) : Maps.has D (.string s) = t.getB s := h.has s
theorem tb_at {D : DataW Unit} {t : TbV} {s : List UInt8} {c : Int} (h : TbD D t) (hat : D.atKey (.string s) (.lit (.int .i64 0)) = .lit (.int .i64 c)) : c = t.getI s := by
  have := (h.getI s).symm.trans hat
  injection this with this
  injection this with _ this
  exact this.symm
/-- The map is turned: what the table is then. -/
theorem TbO.turn {B : Nat} {w w1 : World} {tb mb most n : Nat} {t t' : TbV} {D : DataW Unit} (h : TbO B w tb mb most t) (hm : MapI w1 mb n D) (hD : TbD D t') (hT : Touch (fun k => k = mb) w w1) (hl : t'.n ≤ most) : TbO B w1 tb mb most t' := by
  have := hm.tight
  rw [hD.size] at this
  exact ⟨hT.blk h.blk h.ne, ⟨D, this, hD⟩, h.tB, h.mB, h.ne, hl, h.lim⟩
theorem grown_touch {w w1 : World} {mb : Nat} (h : w.grownBy w1 (some mb)) : Touch (fun k => k = mb) w w1 := (Touch.of_row h).mono (fun k _ hk => by cases hk; rfl)

set_option maxRecDepth 100000 in
set_option maxHeartbeats 4000000 in
theorem tSet_any (B tb mb most : Nat) (t : TbV) (s : ByteArray) (i : Int) (w : World) (h : TbO B w tb mb most t) (hs : s.size ≤ maxLen) (hi : (Lit.int .i64 i).wf = true) :
    Calls Try.prog 31 #[.pointer (some ⟨tb, 0, none⟩), .string s, .int .i64 i] w fun e w' =>
      e = .returned (.tuple #[.int .i64 (t.getI (nmB s)), .int .i64 (t.setE most (nmB s))]) ∧ TbO B w' tb mb most (t.set most (nmB s) i) ∧ Touch (fun k => k = mb) w w' := by
  have hc := h.blk.cell
  have HR := Lib.hid (tReady_any tb mb _ w hc)
  obtain ⟨D, hown, hr⟩ := h.own
  have Hr := Lib.hid hr
  have H := Lib.hid h
  have hkey := tb_key hs
  have hel := plainElem_int (H := Unit) Try.underlying3 hi
  have hnm : t.n < maxLen := by have := h.len; have := h.lim; unfold maxLen; omega
  have Hsz : Hid (Maps.size D = t.n) := Lib.hid hr.size
  have Hend : Hid (∀ wa, Touch (fun _ => False) w wa → ∀ w1, MapI w1 mb (t.n + 1) (D.put (.string (nmB s)) (.lit (.int .i64 i))) → wa.grownBy w1 (some mb) → t.full most (nmB s) = false → TbO B w1 tb mb most (t.set most (nmB s) i) ∧ Touch (fun k => k = mb) w w1) := Lib.hid (fun wa ha w1 h1 h2 h3 => by
    have hT := (ha.mono (fun k _ e => e.elim)).trans (grown_touch h2)
    have hl := set_len (t := t) (most := most) (s := nmB s) (i := i) h.len
    have hset : t.set most (nmB s) i = t.put (nmB s) i := by unfold TbV.set; rw [h3]; simp
    rw [hset] at hl ⊢
    exact ⟨h.turn h1 (hr.put _ _) hT hl, hT⟩)
  have hfl := h.len
  have hlen : ∀ n ty, (Builtin.len_ #[87] ty #[.map (some mb)]).run Try.prog (w.drewN n) = .ok (.int .i64 ((t.n : Nat) : Int)) (w.drewN n) := fun n ty => by
    have := (hown.touch ((Touch.refl (fun _ => False) w).drewN n) (fun e => e)).len Try.underlying87 ty
    rwa [Hsz.out] at this
  cases hb : t.getB (nmB s) with
  | true =>
    have Hh : Hid (Maps.has D (.string (nmB s)) = true) := Lib.hid ((tb_has hr _).trans hb)
    have Hf := Lib.hid (full_no (most := most) hb)
    have He : Hid (t.setE most (nmB s) = 0) := Lib.hid (by unfold TbV.setE; rw [Hf.out]; rfl)
    clear h hr hs hi hb hfl
    go_enter Try.func31, Try.ntmps31
    go_wp2_with fail
    refine HR.out.mono ?_
    rintro e w1 ⟨rfl, rfl⟩
    go_wp2_with (at_lookup; refine wpList_lookup_own_ok_int _ rfl _ _ 87 rfl 9 3 .i64 (string_keyed Try.underlying9) Try.underlying87 Try.underlying3 (tb_zero _) mb t.n D rfl hown _ _ rfl hkey ?_; intro c hat hwc; have Hat := Lib.hid (tb_at Hr.out hat); clear hat hwc; rw [Hh.out])
    go_quiet (fail)
    have hdq : Touch (fun _ => False) w (w.drewN nq) := (Touch.refl (fun _ => False) w).drewN nq
    have hown1 := hown.touch hdq (fun e => e)
    have hc1 := (hdq.blk H.out.blk (fun e => e)).cell
    have Hdq := Lib.hid hdq
    clear hc hlen hdq hown
    generalize w.drewN nq = w5 at *
    go_wp2_with (at_mapUpdate; refine wpList_mapUpdate_own _ rfl _ _ _ 87 rfl 9 3 (string_keyed Try.underlying9) Try.underlying87 _ mb t.n D rfl hown1 hnm _ _ _ rfl rfl hkey _ [] hel ?_; intro w2 hown2 hgr2; have HE := Lib.hid (Hend.out _ Hdq.out _ hown2 hgr2 Hf.out); clear hown2 hgr2)
    go_ret2
    exact ⟨by rw [Hat.out, He.out] <;> rfl, HE.out⟩
  | false =>
    have Hh : Hid (Maps.has D (.string (nmB s)) = false) := Lib.hid ((tb_has hr _).trans hb)
    have Hz := Lib.hid (getI_none hb)
    by_cases hfull : most ≤ t.n
    · have hfu : t.full most (nmB s) = true := by unfold TbV.full; rw [hb]; simp [hfull]
      have He : Hid (t.setE most (nmB s) = 6) := Lib.hid (by unfold TbV.setE; rw [hfu]; rfl)
      have Hs : Hid (t.set most (nmB s) i = t) := Lib.hid (by unfold TbV.set; rw [hfu]; rfl)
      have hdec : decide ((most : Int) ≤ ((t.n : Nat) : Int)) = true := by simp; omega
      clear h hr hs hi hb hfl hfu
      go_enter Try.func31, Try.ntmps31
      go_wp2_with fail
      refine HR.out.mono ?_
      rintro e w1 ⟨rfl, rfl⟩
      go_wp2_with (at_lookup; refine wpList_lookup_own_ok_int _ rfl _ _ 87 rfl 9 3 .i64 (string_keyed Try.underlying9) Try.underlying87 Try.underlying3 (tb_zero _) mb t.n D rfl hown _ _ rfl hkey ?_; intro c hat hwc; have Hat := Lib.hid (tb_at Hr.out hat); clear hat hwc; rw [Hh.out])
      go_quiet (fail)
      go_wp2_with fail
      go_ret2
      rw [Hs.out, He.out, Hz.out]
      have hdq : Touch (fun _ => False) w (w.drewN nq) := (Touch.refl (fun _ => False) w).drewN nq
      exact ⟨rfl, H.out.touch hdq (fun e => e) (fun e => e), hdq.mono (fun k _ e => e.elim)⟩
    · have Hf : Hid (t.full most (nmB s) = false) := Lib.hid (by unfold TbV.full; rw [hb]; simp; omega)
      have He : Hid (t.setE most (nmB s) = 0) := Lib.hid (by unfold TbV.setE; rw [Hf.out]; rfl)
      have hdec : decide ((most : Int) ≤ ((t.n : Nat) : Int)) = false := by simp; omega
      clear h hr hs hi hb hfl
      go_enter Try.func31, Try.ntmps31
      go_wp2_with fail
      refine HR.out.mono ?_
      rintro e w1 ⟨rfl, rfl⟩
      go_wp2_with (at_lookup; refine wpList_lookup_own_ok_int _ rfl _ _ 87 rfl 9 3 .i64 (string_keyed Try.underlying9) Try.underlying87 Try.underlying3 (tb_zero _) mb t.n D rfl hown _ _ rfl hkey ?_; intro c hat hwc; have Hat := Lib.hid (tb_at Hr.out hat); clear hat hwc; rw [Hh.out])
      go_quiet (fail)
      have hdq : Touch (fun _ => False) w (w.drewN nq) := (Touch.refl (fun _ => False) w).drewN nq
      have hown1 := hown.touch hdq (fun e => e)
      have hc1 := (hdq.blk H.out.blk (fun e => e)).cell
      have Hdq := Lib.hid hdq
      clear hc hlen hdq hown
      generalize w.drewN nq = w5 at *
      go_wp2_with (at_mapUpdate; refine wpList_mapUpdate_own _ rfl _ _ _ 87 rfl 9 3 (string_keyed Try.underlying9) Try.underlying87 _ mb t.n D rfl hown1 hnm _ _ _ rfl rfl hkey _ [] hel ?_; intro w2 hown2 hgr2; have HE := Lib.hid (Hend.out _ Hdq.out _ hown2 hgr2 Hf.out); clear hown2 hgr2)
      go_ret2
      exact ⟨by rw [Hat.out, He.out] <;> rfl, HE.out⟩

set_option maxRecDepth 100000 in
set_option maxHeartbeats 4000000 in
theorem tDelete_any (B tb mb most : Nat) (t : TbV) (s : ByteArray) (w : World) (h : TbO B w tb mb most t) (hs : s.size ≤ maxLen) :
    Calls Try.prog 51 #[.pointer (some ⟨tb, 0, none⟩), .string s] w fun e w' =>
      e = .returned (.tuple #[.int .i64 (t.getI (nmB s)), .bool (t.getB (nmB s))]) ∧ TbO B w' tb mb most (t.del (nmB s)) ∧ Touch (fun k => k = mb) w w' := by
  have hc := h.blk.cell
  have HG := Lib.hid (tGet_any B tb mb most t s w h hs)
  obtain ⟨D, hown, hr⟩ := h.own
  have H := Lib.hid h
  have hkey := tb_key hs
  have Hend : Hid (∀ w1, MapI w1 mb t.n (D.del (.string (nmB s))) → w.mapTurned w1 mb → TbO B w1 tb mb most (t.del (nmB s)) ∧ Touch (fun k => k = mb) w w1) := Lib.hid (fun w1 h1 h2 => by
    have hT := grown_touch h2.grown
    exact ⟨h.turn h1 (hr.del _) hT (Nat.le_trans del_len h.len), hT⟩)
  generalize hi : t.getI (nmB s) = r at *
  clear hi
  cases hb : t.getB (nmB s) with
  | true =>
    rw [hb] at HG
    clear h hr hs hb
    go_enter Try.func51, Try.ntmps51
    go_wp2_with fail
    refine HG.out.mono ?_
    rintro e w1 ⟨rfl, rfl⟩
    go_wp2_with (at_delete; refine wpList_delete_own _ rfl _ _ 87 9 rfl 3 (string_keyed Try.underlying9) Try.underlying87 _ mb t.n D rfl hown _ _ rfl hkey ?_; intro w2 hown2 hturn2; have HE := Lib.hid (Hend.out _ hown2 hturn2); clear hown2 hturn2)
    go_ret2
    exact ⟨rfl, HE.out⟩
  | false =>
    rw [hb] at HG
    have Hd := Lib.hid (del_none hb)
    clear h hr hs hb
    go_enter Try.func51, Try.ntmps51
    go_wp2_with fail
    refine HG.out.mono ?_
    rintro e w1 ⟨rfl, rfl⟩
    go_wp2_with fail
    go_ret2
    rw [Hd.out]
    exact ⟨rfl, H.out, Touch.refl _ _⟩
end Go.Proofs.Ytacnmdlefonjmaa

/-
  Which statements entries set (remudaref16.IDs); rows of ints (layer 16).
-/
namespace Go.Proofs.Ytacnmdlefonjmaa
open Go.RowKit
set_option linter.unusedVariables false
set_option linter.unusedSimpArgs false

def idsO (g : List OpV) : List Int := (g.filter (fun x => x.set)).map (fun x => x.id)
def idsL : List EnV → List Int
  | [] => []
  | x :: L => idsO x.good ++ idsL L
theorem idsO_snoc (g : List OpV) (j : Nat) (hj : j < g.length) : idsO (g.take (j + 1)) = idsO (g.take j) ++ (if g[j].set = true then [g[j].id] else []) := by
  rw [List.take_succ_eq_append_getElem hj]
  unfold idsO
  rw [List.filter_append, List.map_append]
  congr 1
  by_cases h : g[j].set = true <;> simp [List.filter_cons, h]
theorem idsL_append : ∀ (L M : List EnV), idsL (L ++ M) = idsL L ++ idsL M
  | [], _ => rfl
  | x :: L, M => by simp [idsL, idsL_append L M]
theorem idsL_snoc (L : List EnV) (k : Nat) (hk : k < L.length) : idsL (L.take (k + 1)) = idsL (L.take k) ++ idsO L[k].good := by
  rw [List.take_succ_eq_append_getElem hk, idsL_append]
  simp [idsL]

theorem Try.info3 : (Try.prog.info? 3).map (fun i => (i.zero, i.size, i.bytes)) = some (some (.int .i64 0), 1, 8) := by kernel_rfl
theorem info_int : ∃ i z, Try.prog.info? 3 = some i ∧ i.zero = some z ∧ i.size = 1 ∧ i.bytes = 8 ∧ z.cells.size = 1 := by
  obtain ⟨i0, hi, hz0, hz1, hz2⟩ := info_parts Try.info3
  exact ⟨i0, _, hi, hz0, hz1, hz2, rfl⟩

abbrev OwnI (B : Nat) (w : World) (v : Value) (xs : List Int) : Prop := OwnS B 3 1 IntU (fun _ => True) w v xs

theorem step_appendI {ops : Array Oper} {rest : List Oper} {o : Oper} {a : Act} {Q : Exit → Act → World → Prop} (w : World) (hgd : o.guard = none) (s y : Operand)
    (ho : o.op = .call { callee := .builtin .append, args := #[s, y], argTypes := #[36, 36] })
    (B : Nat) (v : Value) (xs : List Int) (hsv : a.eval s = v) (hown : OwnI B w v xs) (p : Option Addr) (x : Int) (hx : a.eval y = .slice p 1 1) (hs : SliceS 1 IntU (fun k => True ∧ rowOf v ≠ some k) w [.slice p 1 1] [x])
    (hroom : xs.length ≤ 100000000) (hbase : B ≤ w.heap.size)
    (h : ∀ v' w', OwnI B w' v' (xs ++ [x]) → w.grownBy w' (rowOf v) → (∀ k, rowOf v' = some k → rowOf v = some k ∨ w.heap.size ≤ k) → wpList Try.prog ops Q rest (a.put o.dst v') w') : wpList Try.prog ops Q (o :: rest) a w :=
  wpList_append_S w hgd s y 36 36 ho B 3 3 1 8 Try.underlying36 Try.underlying36 info_int IntU IntU.still IntU.one (fun _ => True) v xs hsv hown p 1 1 [x] hx hs
    (by simp; omega) (by simp [maxLen]; omega) hbase h

theorem new1I {B : Nat} {w : World} {v : Value} {xs : List Int} (x : Int) (ho : OwnI B w v xs) : SliceS 1 IntU (fun k => True ∧ rowOf v ≠ some k) (w.alloc (.cells #[.int .i64 x] 3)) [.slice (some ⟨w.heap.size, 0, none⟩) 1 1] [x] :=
  SliceS.new1 (S := fun k => True ∧ rowOf v ≠ some k) IntU.still w 3 #[.int .i64 x] x rfl rfl (fun k _ h => h) ⟨trivial, fun e => by have := (ho.row _ e).2; omega⟩

/-- The j-th op of an entry's good. -/
theorem op_at {S : Nat → Prop} {w : World} {p : Option Addr} {n c j : Nat} {g : List OpV} (h : SliceS 3 OpS S w [.slice p n c] g) (hj : j < g.length) :
    ∃ b o, p = some ⟨b, o, none⟩ ∧ S b ∧ b < w.heap.size ∧ w.cell? ⟨b, o + j * 3, none⟩ = some (.bool g[j].set) ∧ w.cell? ⟨b, o + j * 3 + 1, none⟩ = some (.string g[j].name) ∧ w.cell? ⟨b, o + j * 3 + 2, none⟩ = some (.int .i64 g[j].id) := by
  obtain ⟨b, o, cs, rfl, hS, hb, _, hc, hr⟩ := h.elem (by omega) j g[j] (List.getElem?_eq_getElem hj)
  unfold OpS at hr
  subst hr
  have c0 := hc 0 _ rfl
  rw [Nat.add_zero] at c0
  exact ⟨b, o, rfl, hS, hb, c0, hc 1 _ rfl, hc 2 _ rfl⟩

set_option maxRecDepth 100000 in
set_option maxHeartbeats 10000000 in
theorem ids_any (S : Nat → Prop) (p : Option Addr) (n c : Nat) (L : List EnV) (w : World) (h : SliceS 8 EnS S w [.slice p n c] L) (hs : ∀ x ∈ L, EnSmall x) (hl : L.length ≤ 5000) :
    Calls Try.prog 17 #[.slice p n c] w fun e w' => ∃ v, e = .returned v ∧ OwnI w.heap.size w' v (idsL L) ∧ Below w.heap.size w w' := by
  have H := Lib.hid (h.weak EnS.still (S' := fun k => k < w.heap.size) (fun k hk _ => hk))
  have Hs := Lib.hid hs
  obtain ⟨rfl, hlc, hcm⟩ := h.len
  unfold maxLen at hcm
  clear h hs
  go_enter Try.func17, Try.ntmps17
  go_wp2_with fail
  go_loopw [3, 4] (fun v i wr => ∃ k : Nat, k ≤ L.length ∧ i = .int .i64 k ∧ OwnI w.heap.size wr v (idsL (L.take k)) ∧ (idsL (L.take k)).length ≤ k * 1000 ∧ Below w.heap.size w wr) (fun _ i _ => L.length - (intOf i).toNat)
  case atStart => exact ⟨0, Nat.zero_le _, rfl, OwnS.empty _, by simp [idsL], Below.refl _ _⟩
  case round =>
    obtain ⟨k, hk, rfl, ho, hkl, hb⟩ := hrel
    have Ho := Lib.hid ho
    have Hb := Lib.hid hb
    have Hkl := Lib.hid hkl
    clear ho hb hkl
    have hwk : IntKind.i64.wrap ((k : Int) + 1) = (k : Int) + 1 := by rw [IntKind.wrap_i64]; omega
    by_cases hlt : k < L.length
    · obtain ⟨b, o, a, rfl, hS, hbl, hL, c0, c1, c2, c3, c4, c5, c6, c7⟩ := en_at H.out hlt
      have Hg := Lib.hid hL.good
      have Hx := Lib.hid (Hs.out L[k] (List.getElem_mem hlt)).1
      have Hsn := Lib.hid (idsL_snoc L k hlt)
      clear hL c0 c1 c2 c3 c5 c6 c7
      have Hc4 := Lib.hid c4
      generalize L[k] = x at *
      have hgl := Hx.out
      have hlti : (k : Int) < (L.length : Int) := by omega
      clear c4
      obtain ⟨pg, cg, pb, cb, pc, cc, pr, cr⟩ := a
      dsimp only at *
      have Hgl := Hg.out.len
      obtain ⟨_, hgc, hgm⟩ := Hgl
      unfold maxLen at hgm
      go_wp2_with fail
      go_loopw [3, 5] (fun v i wi => ∃ j : Nat, j ≤ x.good.length ∧ i = .int .i64 j ∧ OwnI w.heap.size wi v (idsL (L.take k) ++ idsO (x.good.take j)) ∧ (idsL (L.take k) ++ idsO (x.good.take j)).length ≤ k * 1000 + j ∧ Below w.heap.size w wi) (fun _ i _ => x.good.length - (intOf i).toNat)
      case atStart => exact ⟨0, Nat.zero_le _, rfl, by simpa [idsO] using Ho.out, by simpa [idsO] using Hkl.out, Hb.out⟩
      case round =>
        obtain ⟨j, hj, rfl, ho2, hjl, hb2⟩ := hrel
        have Ho2 := Lib.hid ho2
        have Hb2 := Lib.hid hb2
        have Hjl := Lib.hid hjl
        have hsz2 := hb2.size
        have hwj : IntKind.i64.wrap ((j : Int) + 1) = (j : Int) + 1 := by rw [IntKind.wrap_i64]; omega
        have c4 := (hb2.cell (p := ⟨b, o + k * 8 + 4, none⟩) hbl).trans Hc4.out
        clear ho2 hb2 hjl
        by_cases hltj : j < x.good.length
        · obtain ⟨gb, go, rfl, hgS, hgbl, d0, d1, d2⟩ := op_at Hg.out hltj
          have d0' := (Hb2.out.cell (p := ⟨gb, go + j * 3, none⟩) hgbl).trans d0
          have d2' := (Hb2.out.cell (p := ⟨gb, go + j * 3 + 2, none⟩) hgbl).trans d2
          have Hsnj := Lib.hid (idsO_snoc x.good j hltj)
          clear d0 d1 d2
          generalize x.good[j] = y at *
          obtain ⟨ys, yn, yi⟩ := y
          dsimp only at *
          have hltji : (j : Int) < (x.good.length : Int) := by omega
          cases ys with
          | false =>
            have Hj1 : Hid (idsL (L.take k) ++ idsO (x.good.take (j + 1)) = idsL (L.take k) ++ idsO (x.good.take j)) := Lib.hid (by rw [Hsnj.out]; simp)
            clear Hsnj
            go_wp2_with fail
            go_roundw
            case rel => exact ⟨j + 1, by omega, by go_num, by rw [Hj1.out]; exact Ho2.out, by rw [Hj1.out]; have := Hjl.out; omega, Hb2.out⟩
            case measure => simp [intOf]; omega
          | true =>
            have Hj1 : Hid (idsL (L.take k) ++ idsO (x.good.take (j + 1)) = (idsL (L.take k) ++ idsO (x.good.take j)) ++ [yi]) := Lib.hid (by rw [Hsnj.out]; simp)
            have Hn := Lib.hid (new1I yi Ho2.out)
            have hal := (Below.refl wr.heap.size wr).alloc (Nat.le_refl _) (.cells #[.int .i64 yi] 3)
            have Ho3 := Lib.hid (Ho2.out.below' IntU.still hal)
            have Hb3 := Lib.hid (Hb2.out.trans (hal.mono hsz2))
            have hroom : (idsL (L.take k) ++ idsO (x.good.take j)).length ≤ 100000000 := by have := Hjl.out; omega
            clear Hsnj hal
            generalize hids : idsL (L.take k) ++ idsO (x.good.take j) = ids at *
            go_wp2_with (at_builtin; refine step_appendI _ rfl (.tmp 31) (.tmp 41) rfl w.heap.size u3 ids rfl Ho3.out (some ⟨wr.heap.size, 0, none⟩) yi rfl Hn.out hroom Hb3.out.size ?_; intro v4 w4 ho4 hg4 hn4; have Ho4 := Lib.hid ho4; have Hb4 := Lib.hid (Hb3.out.trans (Below.of_row hg4 Hb3.out.size (fun k hk => (Ho3.out.row k hk).1))); clear ho4 hg4 hn4)
            go_roundw
            case rel => exact ⟨j + 1, by omega, by go_num, by rw [Hj1.out]; exact Ho4.out, by rw [Hj1.out]; have := Hjl.out; simp; omega, Hb4.out⟩
            case measure => simp [intOf]; omega
        · obtain rfl : j = x.good.length := by omega
          rw [List.take_length] at Ho2 Hjl
          rw [← Hsn.out] at Ho2 Hjl
          go_wp2_with fail
          go_roundw
          case rel => exact ⟨k + 1, by omega, by go_num, Ho2.out, by have := Hjl.out; omega, Hb2.out⟩
          case measure => simp [intOf]; omega
    · obtain rfl : k = L.length := by omega
      rw [List.take_length] at Ho
      obtain ⟨pv, cv, rfl, _⟩ := Ho.out.slice IntU.still (S' := fun _ => True) (fun _ _ _ => trivial) (fun _ _ => trivial)
      go_wp2
      go_ret
      exact ⟨_, rfl, Ho.out, Hb.out⟩

end Go.Proofs.Ytacnmdlefonjmaa

/-
  Ops are done on a table: over.apply, over.Apply (layer 16).
-/
namespace Go.Proofs.Ytacnmdlefonjmaa
open Go.RowKit Go.Maps
set_option linter.unusedVariables false
set_option linter.unusedSimpArgs false

def opE (most : Nat) (t : TbV) (o : OpV) : Int := if o.set = true then t.setE most (nmB o.name) else 0
def opR (most : Nat) (t : TbV) (o : OpV) : TbV := if o.set = true then t.set most (nmB o.name) o.id else t.del (nmB o.name)
theorem setE_cases (most : Nat) (t : TbV) (s : List UInt8) : (t.full most s = true ∧ t.setE most s = 6) ∨ (t.full most s = false ∧ t.setE most s = 0) := by
  unfold TbV.setE
  cases h : t.full most s with
  | true => exact .inl ⟨rfl, rfl⟩
  | false => exact .inr ⟨rfl, rfl⟩
theorem opE_cases (most : Nat) (t : TbV) (o : OpV) : opE most t o = 6 ∨ opE most t o = 0 := by
  unfold opE
  split
  · rcases setE_cases most t (nmB o.name) with ⟨_, h⟩ | ⟨_, h⟩
    · exact .inl h
    · exact .inr h
  · exact .inr rfl
/-- A step of Apply. -/
def outS (t : TbV) (o : OpV) (out : List Int) : List Int := if 0 < t.getI (nmB o.name) then out ++ [t.getI (nmB o.name)] else out
theorem appT_bad (most : Nat) (t : TbV) (o : OpV) (l : List OpV) (out : List Int) (h : opE most t o = 6) : appT most t (o :: l) out = (opR most t o, out, 6) := by
  unfold opE at h
  by_cases hs : o.set = true
  · rw [if_pos hs] at h
    rcases setE_cases most t (nmB o.name) with ⟨h1, h2⟩ | ⟨h1, h2⟩
    · have h3 : opR most t o = t := by
        unfold opR TbV.set
        rw [if_pos hs, h1]
        rfl
      rw [h3]
      unfold appT
      rw [if_pos hs, if_pos h1]
    · rw [h2] at h; cases h
  · rw [if_neg hs] at h; cases h
theorem appT_step (most : Nat) (t : TbV) (o : OpV) (l : List OpV) (out : List Int) (h : opE most t o = 0) : appT most t (o :: l) out = appT most (opR most t o) l (outS t o out) := by
  unfold opE at h
  unfold opR outS
  by_cases hs : o.set = true
  · rw [if_pos hs] at h ⊢
    rcases setE_cases most t (nmB o.name) with ⟨h1, h2⟩ | ⟨h1, h2⟩
    · rw [h2] at h; cases h
    · have h3 : t.set most (nmB o.name) o.id = t.put (nmB o.name) o.id := by unfold TbV.set; rw [h1]; rfl
      rw [h3]
      conv => lhs; unfold appT
      rw [if_pos hs, if_neg (by rw [h1]; simp)]
  · rw [if_neg hs]
    conv => lhs; unfold appT
    rw [if_neg hs]
theorem drop_cons {α : Type} (l : List α) (k : Nat) (hk : k < l.length) : l.drop k = l[k] :: l.drop (k + 1) := (List.getElem_cons_drop hk).symm

set_option maxRecDepth 100000 in
set_option maxHeartbeats 4000000 in
theorem apply_any (B tb mb most : Nat) (t : TbV) (o : OpV) (w : World) (h : TbO B w tb mb most t) (ho : OkOp o) :
    Calls Try.prog 37 #[.pointer (some ⟨tb, 0, none⟩), .agg #[.bool o.set, .string o.name, .int .i64 o.id]] w fun e w' => e = .returned (.tuple #[.int .i64 (t.getI (nmB o.name)), .int .i64 (opE most t o)]) ∧ TbO B w' tb mb most (opR most t o) ∧ Touch (fun k => k = mb) w w' := by
  obtain ⟨os, on, oi⟩ := o
  have hbal := (Below.refl w.heap.size w).alloc (Nat.le_refl _) (.cells #[.bool os, .string on, .int .i64 oi] 55)
  have h1 := h.still hbal
  have hopc := (Blk.new w 55 #[.bool os, .string on, .int .i64 oi]).cell
  have Hal := Lib.hid hbal
  unfold opE opR
  dsimp only at *
  cases os with
  | true =>
    have HC := Lib.hid (tSet_any B tb mb most t on oi _ h1 ho.1 ho.2)
    clear h h1 hbal
    rw [if_pos rfl, if_pos rfl]
    go_enter Try.func37, Try.ntmps37
    go_wp2_with fail
    refine HC.out.mono ?_
    rintro e w1 ⟨rfl, h2, hT⟩
    have HT := Lib.hid ((Touch.of_below (p := fun k => k = mb) Hal.out).trans hT)
    have H2 := Lib.hid h2
    clear h2 hT hopc HC Hal
    go_wp2_with fail
    go_ret2
    exact ⟨rfl, H2.out, HT.out⟩
  | false =>
    have HC := Lib.hid (tDelete_any B tb mb most t on _ h1 ho.1)
    clear h h1 hbal
    rw [if_neg (by simp), if_neg (by simp)]
    go_enter Try.func37, Try.ntmps37
    go_wp2_with fail
    refine HC.out.mono ?_
    rintro e w1 ⟨rfl, h2, hT⟩
    have HT := Lib.hid ((Touch.of_below (p := fun k => k = mb) Hal.out).trans hT)
    have H2 := Lib.hid h2
    clear h2 hT hopc HC Hal
    go_wp2_with fail
    go_ret2
    exact ⟨rfl, H2.out, HT.out⟩

set_option maxRecDepth 100000 in
theorem apply_nil (o : OpV) (w : World) :
    Calls Try.prog 37 #[.pointer none, .agg #[.bool o.set, .string o.name, .int .i64 o.id]] w fun e w' => e = .returned (.tuple #[.int .i64 0, .int .i64 (if o.set = true then 2 else 0)]) ∧ Below w.heap.size w w' := by
  obtain ⟨os, on, oi⟩ := o
  have Hal := Lib.hid ((Below.refl w.heap.size w).alloc (Nat.le_refl _) (.cells #[.bool os, .string on, .int .i64 oi] 55))
  have hopc := (Blk.new w 55 #[.bool os, .string on, .int .i64 oi]).cell
  dsimp only at *
  cases os with
  | true =>
    rw [if_pos rfl]
    go_enter Try.func37, Try.ntmps37
    go_wp2_with fail
    refine (tSet_nil _ _ _).mono ?_
    rintro e w1 ⟨rfl, rfl⟩
    go_wp2_with fail
    go_ret2
    exact ⟨rfl, Hal.out⟩
  | false =>
    rw [if_neg (by simp)]
    go_enter Try.func37, Try.ntmps37
    go_wp2_with fail
    refine (tDelete_nil _ _).mono ?_
    rintro e w1 ⟨rfl, rfl⟩
    go_wp2_with fail
    go_ret2
    exact ⟨rfl, Hal.out⟩

/-- What Apply has done so far. -/
structure ApI (B : Nat) (w0 : World) (tb mb most : Nat) (t0 : TbV) (ops : List OpV) (k : Nat) (v : Value) (w : World) : Prop where
  go : ∃ tk out, OwnI w0.heap.size w v out ∧ TbO B w tb mb most tk ∧ appT most t0 ops [] = appT most tk (ops.drop k) out ∧ out.length ≤ k
  bel : Touch (fun i => i = mb) w0 w
theorem appT_end (most : Nat) (t : TbV) (out : List Int) : appT most t [] out = (t, out, 0) := rfl
theorem OwnI.touch' {B : Nat} {w w' : World} {v : Value} {xs : List Int} {p : Nat → Prop} (h : OwnI B w v xs) (ht : Touch p w w') (h1 : ∀ k, rowOf v = some k → ¬ p k) : OwnI B w' v xs := by
  obtain ⟨css, h3, h4⟩ := h
  exact ⟨css, h3.touch ht h1, h4.imp (fun _ _ h => h)⟩
/-- What is left of a call of Apply. -/
def ApR (P : World → TbV → Prop) (T : Nat → Prop) (w0 : World) (r : TbV × List Int × Int) (e : Ending) (w : World) : Prop := ∃ v, e = .returned (.tuple #[v, .int .i64 r.2.2]) ∧ OwnI w0.heap.size w v r.2.1 ∧ P w r.1 ∧ Touch T w0 w

set_option maxRecDepth 100000 in
set_option maxHeartbeats 8000000 in
theorem papply_any (B tb mb most : Nat) (t : TbV) (S : Nat → Prop) (p : Option Addr) (n c : Nat) (ops : List OpV) (w : World) (h : TbO B w tb mb most t) (hs : SliceS 3 OpS S w [.slice p n c] ops) (hS : ∀ k, S k → k ≠ mb) (hok : ∀ o ∈ ops, OkOp o) (hl : ops.length ≤ 1000) :
    Calls Try.prog 18 #[.pointer (some ⟨tb, 0, none⟩), .slice p n c] w fun e w' => ApR (fun w' t' => TbO B w' tb mb most t') (fun k => k = mb) w (appT most t ops []) e w' := by
  have HS : Hid (∀ w', Touch (fun k => k = mb) w w' → SliceS 3 OpS S w' [.slice p n c] ops) := Lib.hid (fun w' hT => (SliceS.still OpS.still) _ _ _ _ _ _ hs (Kept.touch hT (fun k _ hk => ⟨hk, hS k hk⟩)))
  obtain ⟨rfl, hlc, hcm⟩ := hs.len
  unfold maxLen at hcm
  have Hok := Lib.hid hok
  have hmb := h.lt.2
  have H := Lib.hid h
  clear h hs hS hok
  go_enter Try.func18, Try.ntmps18
  go_wp2_with fail
  go_loopw [6, 13] (fun v i wr => ∃ (k : Nat) (tk : TbV) (out : List Int), k ≤ ops.length ∧ i = .int .i64 k ∧ OwnI w.heap.size wr v out ∧ TbO B wr tb mb most tk ∧ appT most t ops [] = appT most tk (ops.drop k) out ∧ out.length ≤ k ∧ Touch (fun j => j = mb) w wr) (fun _ i _ => ops.length - (intOf i).toNat)
  case atStart => exact ⟨0, t, [], Nat.zero_le _, rfl, OwnS.empty _, H.out, rfl, Nat.le_refl _, Touch.refl _ _⟩
  case round =>
    obtain ⟨k, tk, out, hk, rfl, ho, htb, hap, hol, hT⟩ := hrel
    have Ho := Lib.hid ho
    have Htb := Lib.hid htb
    have HT := Lib.hid hT
    have hwk : IntKind.i64.wrap ((k : Int) + 1) = (k : Int) + 1 := by rw [IntKind.wrap_i64]; omega
    clear ho htb hT
    by_cases hlt : k < ops.length
    · have hlti : (k : Int) < (ops.length : Int) := by omega
      obtain ⟨b, o, rfl, hSb, hbl, d0, d1, d2⟩ := opL_at (HS.out _ HT.out) hlt
      have hoo := Hok.out _ (List.getElem_mem hlt)
      rw [drop_cons ops k hlt] at hap
      have Hap := Lib.hid hap
      clear hap
      generalize ops[k] = y at *
      have hal := (Below.refl wr.heap.size wr).alloc (Nat.le_refl _) (.cells #[.bool y.set, .string y.name, .int .i64 y.id] 55)
      have HC := Lib.hid (apply_any B tb mb most tk y _ (Htb.out.still hal) hoo)
      have HTa : Hid (Touch (fun j => j = mb) w (wr.alloc (.cells #[.bool y.set, .string y.name, .int .i64 y.id] 55))) := Lib.hid (HT.out.alloc _)
      have Hoa := Lib.hid (Ho.out.below' IntU.still hal)
      have hopc := (Blk.new wr 55 #[.bool y.set, .string y.name, .int .i64 y.id]).cell
      have Hec := Lib.hid (opE_cases most tk y)
      have Hbad : Hid (opE most tk y = 6 → appT most t ops [] = (opR most tk y, out, 6)) := Lib.hid (fun he => by rw [Hap.out]; exact appT_bad most tk y _ out he)
      have Hgood : Hid (opE most tk y = 0 → appT most t ops [] = appT most (opR most tk y) (ops.drop (k + 1)) (outS tk y out)) := Lib.hid (fun he => by rw [Hap.out]; exact appT_step most tk y _ out he)
      have Hou : Hid (outS tk y out = if 0 < tk.getI (nmB y.name) then out ++ [tk.getI (nmB y.name)] else out) := Lib.hid rfl
      clear hal Hap Htb HT Ho
      obtain ⟨ys, yn, yi⟩ := y
      dsimp only at *
      generalize outS tk ⟨ys, yn, yi⟩ out = ou at *
      generalize opE most tk ⟨ys, yn, yi⟩ = er at *
      generalize opR most tk ⟨ys, yn, yi⟩ = tk2 at *
      generalize tk.getI (nmB yn) = gi at *
      go_wp2_with fail
      refine HC.out.mono ?_
      rintro e w5 ⟨rfl, htb5, hT5⟩
      have Htb5 := Lib.hid htb5
      have HT5 := Lib.hid (HTa.out.trans hT5)
      have Ho5 : Hid (OwnI w.heap.size w5 u6 out) := Lib.hid (OwnI.touch' Hoa.out hT5 (fun j hj e => by have := (OwnS.row Hoa.out j hj).1; omega))
      clear htb5 hT5 HTa Hoa HC hopc
      rcases Hec.out with rfl | rfl
      · have Hb := Lib.hid (Hbad.out rfl)
        obtain ⟨pv, cv, rfl, _⟩ := Ho5.out.slice IntU.still (S' := fun _ => True) (fun _ _ _ => trivial) (fun _ _ => trivial)
        clear Hbad Hgood Hec Hou
        go_wp2_with fail
        go_ret2
        rw [Hb.out]
        exact ⟨_, rfl, Ho5.out, Htb5.out, HT5.out⟩
      · have Hg := Lib.hid (Hgood.out rfl)
        clear Hbad Hgood Hec
        by_cases hgi : 0 < gi
        · have Ho2 : Hid (ou = out ++ [gi]) := Lib.hid (by rw [Hou.out, if_pos hgi])
          have Hn := Lib.hid (new1I gi Ho5.out)
          have hal := (Below.refl w5.heap.size w5).alloc (Nat.le_refl _) (.cells #[.int .i64 gi] 3)
          have Ho6 := Lib.hid (Ho5.out.below' IntU.still hal)
          have Htb6 := Lib.hid (Htb5.out.still hal)
          have HT6 : Hid (Touch (fun j => j = mb) w (w5.alloc (.cells #[.int .i64 gi] 3))) := Lib.hid (HT5.out.alloc _)
          have hroom : out.length ≤ 100000000 := by omega
          clear hal Hou Ho5 Htb5 HT5
          go_wp2_with (at_builtin; refine step_appendI _ rfl (.tmp 29) (.tmp 31) rfl w.heap.size u6 out rfl Ho6.out (some ⟨w5.heap.size, 0, none⟩) gi rfl Hn.out hroom HT6.out.size ?_; intro v7 w7 ho7 hg7 hn7; have Ho7 := Lib.hid ho7; have hT7 := Touch.of_row hg7; have Htb7 := Lib.hid (Htb6.out.touch hT7 (fun e => by have := (Ho6.out.row _ e.symm).1; have := H.out.lt.1; omega) (fun e => by have := (Ho6.out.row _ e.symm).1; omega)); have HT7 := Lib.hid (HT6.out.then hT7 (fun j hj e => by have := (Ho6.out.row _ e.symm).1; omega)); clear ho7 hg7 hn7 hT7)
          go_roundw
          case rel => exact ⟨k + 1, tk2, ou, by omega, by go_num, by rw [Ho2.out]; exact Ho7.out, Htb7.out, Hg.out, by rw [Ho2.out, List.length_append]; simp; omega, HT7.out⟩
          case measure => simp [intOf]; omega
        · have Ho2 : Hid (ou = out) := Lib.hid (by rw [Hou.out, if_neg hgi])
          clear Hou
          go_wp2_with fail
          go_roundw
          case rel => exact ⟨k + 1, tk2, ou, by omega, by go_num, by rw [Ho2.out]; exact Ho5.out, Htb5.out, Hg.out, by rw [Ho2.out]; omega, HT5.out⟩
          case measure => simp [intOf]; omega
    · obtain rfl : k = ops.length := by omega
      rw [List.drop_length, appT_end] at hap
      have Hap := Lib.hid hap
      clear hap
      obtain ⟨pv, cv, rfl, _⟩ := Ho.out.slice IntU.still (S' := fun _ => True) (fun _ _ _ => trivial) (fun _ _ => trivial)
      go_wp2_with fail
      go_ret2
      rw [Hap.out]
      exact ⟨_, rfl, Ho.out, Htb.out, HT.out⟩
end Go.Proofs.Ytacnmdlefonjmaa

/-
  The document's Apply; Apply of no table (layer 16).
-/
namespace Go.Proofs.Ytacnmdlefonjmaa
open Go.RowKit Go.Maps
set_option linter.unusedVariables false
set_option linter.unusedSimpArgs false

theorem rgn_callX {ops : Array Oper} {o : Oper} {a : Act} {w : World} {K : Act → World → Prop} {Q : Exit → Act → World → Prop} {F : Prop} (hgd : o.guard = none) (f : FuncId) (vs : Array Value) (R : Ending → World → Prop) (hC : Calls Try.prog f vs w R)
    (hr : (execOp a.eval o).run Try.prog w = .ok (.enter f vs) w) (h : ∀ e w', R e w' → ∃ v, e = .returned v ∧ K (a.put o.dst v) w') :
    if Region.wanted o (yielded ops a.tmps) = true then Oper.wp Try.prog o a w K Q else F := by
  have hw : Region.wanted o (yielded ops a.tmps) = true := by simp [Region.wanted, hgd]
  rw [if_pos hw]
  unfold Oper.wp
  rw [hr, Oper.upon_enter]
  refine hC.mono ?_
  intro e w' hR
  obtain ⟨v, rfl, hK⟩ := h e w' hR
  exact hK
theorem opR_le (most : Nat) (t : TbV) (o : OpV) : (opR most t o).n ≤ t.n + 1 := by
  unfold opR TbV.set TbV.put TbV.del
  split
  · split
    · omega
    · simp only
      split <;> omega
  · simp only
    split <;> omega
/-- The document's table, among other rows. -/
structure XbS (B : Nat) (w0 : World) (v0 : Value) (xb most : Nat) (w : World) (vo : Value) (t : TbV) (N : Nat) : Prop where
  go : ∃ v L, XbO B w xb most v L t ∧ (∀ k, rowOf v = some k → rowOf v0 = some k ∨ w0.heap.size ≤ k) ∧ (∀ k, rowOf v = some k → rowOf vo ≠ some k)
  n : t.n ≤ N
  T : Touch (fun i => i = xb ∨ rowOf v0 = some i) w0 w
section
variable {B : Nat} {w0 : World} {v0 : Value} {xb most : Nat} {w w1 : World} {vo vo' : Value} {t t' : TbV} {N : Nat}
theorem XbS.still (h : XbS B w0 v0 xb most w vo t N) (hb : Below w.heap.size w w1) : XbS B w0 v0 xb most w1 vo t N := by
  obtain ⟨v, L, h1, h2, h3⟩ := h.go
  exact ⟨⟨v, L, h1.still hb, h2, h3⟩, h.n, h.T.then (Touch.of_below (p := fun _ => False) hb) (fun _ _ e => e.elim)⟩
/-- A step of the table. -/
theorem XbS.step {out : List Int} (h : XbS B w0 v0 xb most w vo t N) (ho : OwnI w0.heap.size w vo out) (hx0 : xb < w0.heap.size) {v : Value} {L : List NmV} (hx : XbO B w xb most v L t) (h2 : ∀ k, rowOf v = some k → rowOf v0 = some k ∨ w0.heap.size ≤ k) (h3 : ∀ k, rowOf v = some k → rowOf vo ≠ some k) (hr : XbR B xb most v t' w w1) (hn : t'.n ≤ N + 1) :
    XbS B w0 v0 xb most w1 vo t' (N + 1) ∧ OwnI w0.heap.size w1 vo out := by
  obtain ⟨v', L', r1, r2, r3⟩ := hr
  have hz := h.T.size
  refine ⟨⟨⟨v', L', r1, fun k hk => ?_, fun k hk e => ?_⟩, hn, h.T.then r3 (fun i hi e => ?_)⟩, OwnI.touch' ho r3 (fun k hk e => ?_)⟩
  · rcases r2 k hk with e | e
    · exact h2 k e
    · exact .inr (by omega)
  · rcases r2 k hk with e' | e'
    · exact h3 k e' e
    · have := (OwnS.row ho k e).2; omega
  · rcases e with e | e
    · exact .inl e
    · rcases h2 i e with e' | e'
      · exact .inr e'
      · omega
  · rcases e with e | e
    · have := (OwnS.row ho k hk).1; omega
    · exact h3 k e hk
/-- The other row grows. -/
theorem XbS.grow (h : XbS B w0 v0 xb most w vo t N) (hx0 : xb < w0.heap.size) {out : List Int} (ho : OwnI w0.heap.size w vo out) (hr0 : ∀ k, rowOf vo = some k → w0.heap.size ≤ k) (hg : w.grownBy w1 (rowOf vo)) (hn : ∀ k, rowOf vo' = some k → rowOf vo = some k ∨ w.heap.size ≤ k) : XbS B w0 v0 xb most w1 vo' t N := by
  obtain ⟨v, L, h1, h2, h3⟩ := h.go
  have hT := Touch.of_row hg
  refine ⟨⟨v, L, h1.touch hT (fun e => ?_) (fun k hk e => h3 k hk e.symm), h2, fun k hk e => ?_⟩, h.n, h.T.then hT (fun i hi e => ?_)⟩
  · have := hr0 _ e.symm; omega
  · rcases hn k e with e' | e'
    · exact h3 k hk e'
    · have := (h1.own.row k hk).2; omega
  · have := hr0 _ e.symm; omega
end

set_option maxRecDepth 100000 in
set_option maxHeartbeats 8000000 in
theorem rapply_any (B xb most : Nat) (v : Value) (L : List NmV) (t : TbV) (S : Nat → Prop) (p : Option Addr) (n c : Nat) (ops : List OpV) (w : World) (h : XbO B w xb most v L t) (hB : B ≤ w.heap.size) (hn : t.n ≤ 50000) (hs : SliceS 3 OpS S w [.slice p n c] ops) (hS : ∀ k, S k → k ≠ xb ∧ rowOf v ≠ some k) (hl : ops.length ≤ 1000) :
    Calls Try.prog 19 #[.pointer (some ⟨xb, 0, none⟩), .slice p n c] w fun e w' => ∃ vo, e = .returned (.tuple #[vo, .int .i64 (appT most t ops []).2.2]) ∧ OwnI w.heap.size w' vo (appT most t ops []).2.1 ∧ XbS B w v xb most w' vo (appT most t ops []).1 60000 := by
  have HS : Hid (∀ w', Touch (fun i => i = xb ∨ rowOf v = some i) w w' → SliceS 3 OpS S w' [.slice p n c] ops) := Lib.hid (fun w' hT => (SliceS.still OpS.still) _ _ _ _ _ _ hs (Kept.touch hT (fun k _ hk => ⟨hk, fun e => by rcases e with e | e; (· exact (hS k hk).1 e); (· exact (hS k hk).2 e)⟩)))
  obtain ⟨rfl, hlc, hcm⟩ := hs.len
  unfold maxLen at hcm
  have hx0 := h.blk.lt
  have Hx0 := Lib.hid hx0
  have HX0 : Hid (XbS B w v xb most w (.slice none 0 0) t t.n) := Lib.hid ⟨⟨v, L, h, fun k hk => .inl hk, fun k hk => by simp [rowOf]⟩, Nat.le_refl _, Touch.refl _ _⟩
  clear h hs hS hx0
  go_enter Try.func19, Try.ntmps19
  go_wp2_with fail
  go_loopw [6, 7] (fun vo i wr => ∃ (k : Nat) (tk : TbV) (out : List Int), k ≤ ops.length ∧ i = .int .i64 k ∧ OwnI w.heap.size wr vo out ∧ XbS B w v xb most wr vo tk (t.n + k) ∧ appT most t ops [] = appT most tk (ops.drop k) out ∧ out.length ≤ k) (fun _ i _ => ops.length - (intOf i).toNat)
  case atStart => exact ⟨0, t, [], Nat.zero_le _, rfl, OwnS.empty _, HX0.out, rfl, Nat.le_refl _⟩
  case round =>
    obtain ⟨k, tk, out, hk, rfl, ho, htb, hap, hol⟩ := hrel
    have Ho := Lib.hid ho
    have Htb := Lib.hid htb
    have hwk : IntKind.i64.wrap ((k : Int) + 1) = (k : Int) + 1 := by rw [IntKind.wrap_i64]; omega
    clear ho htb
    by_cases hlt : k < ops.length
    · have hlti : (k : Int) < (ops.length : Int) := by omega
      obtain ⟨b, o, rfl, hSb, hbl, d0, d1, d2⟩ := opL_at (HS.out _ Htb.out.T) hlt
      rw [drop_cons ops k hlt] at hap
      have Hap := Lib.hid hap
      clear hap
      generalize ops[k] = y at *
      obtain ⟨vx, Lx, hx, hx2, hx3⟩ := Htb.out.go
      have hBr : B ≤ wr.heap.size := Nat.le_trans hB Htb.out.T.size
      have hLx : Lx.length ≤ 100000 := by have := hx.rd.len; have := Htb.out.n; omega
      have hRn := opR_le most tk y
      have hNn := Htb.out.n
      have HCs : Hid (∀ wq, Below wr.heap.size wr wq → y.set = true → Calls Try.prog 32 #[.pointer (some ⟨xb, 0, none⟩), .string y.name, .int .i64 y.id] wq fun e w' => e = .returned (.tuple #[.int .i64 (tk.getI (nmB y.name)), .int .i64 (opE most tk y)]) ∧ XbS B w v xb most w' u6 (opR most tk y) (t.n + (k + 1)) ∧ OwnI w.heap.size w' u6 out) := Lib.hid (fun wq hq hse => by
        refine (xSet_any B xb most vx Lx tk y.name y.id wq (hx.still hq) (Nat.le_trans hBr hq.size) hLx).mono ?_
        rintro e w' ⟨rfl, hr⟩
        have e1 : opE most tk y = tk.setE most (nmB y.name) := by unfold opE; rw [if_pos hse]
        have e2 : opR most tk y = tk.set most (nmB y.name) y.id := by unfold opR; rw [if_pos hse]
        have := (Htb.out.still hq).step (Ho.out.below' IntU.still hq) Hx0.out (hx.still hq) hx2 hx3 hr (by rw [← e2]; omega)
        rw [e1, e2]
        exact ⟨rfl, this⟩)
      have HCd : Hid (∀ wq, Below wr.heap.size wr wq → y.set = false → Calls Try.prog 38 #[.pointer (some ⟨xb, 0, none⟩), .string y.name] wq fun e w' => (∃ b, e = .returned (.tuple #[.int .i64 (tk.getI (nmB y.name)), .bool b])) ∧ XbS B w v xb most w' u6 (opR most tk y) (t.n + (k + 1)) ∧ OwnI w.heap.size w' u6 out) := Lib.hid (fun wq hq hse => by
        refine (xDelete_any B xb most vx Lx tk y.name wq (hx.still hq) (Nat.le_trans hBr hq.size) hLx).mono ?_
        rintro e w' ⟨rfl, hr⟩
        have e2 : opR most tk y = tk.del (nmB y.name) := by unfold opR; rw [if_neg (by rw [hse]; simp)]
        have := (Htb.out.still hq).step (Ho.out.below' IntU.still hq) Hx0.out (hx.still hq) hx2 hx3 hr (by rw [← e2]; omega)
        rw [e2]
        exact ⟨⟨_, rfl⟩, this⟩)
      have Hec := Lib.hid (opE_cases most tk y)
      have Hed : Hid (y.set = false → opE most tk y = 0) := Lib.hid (fun hse => by unfold opE; rw [if_neg (by rw [hse]; simp)])
      have Hbad : Hid (opE most tk y = 6 → appT most t ops [] = (opR most tk y, out, 6)) := Lib.hid (fun he => by rw [Hap.out]; exact appT_bad most tk y _ out he)
      have Hgood : Hid (opE most tk y = 0 → appT most t ops [] = appT most (opR most tk y) (ops.drop (k + 1)) (outS tk y out)) := Lib.hid (fun he => by rw [Hap.out]; exact appT_step most tk y _ out he)
      have Hou : Hid (outS tk y out = if 0 < tk.getI (nmB y.name) then out ++ [tk.getI (nmB y.name)] else out) := Lib.hid rfl
      clear Hap Htb Ho hx hx2 hx3 hLx hRn hNn
      obtain ⟨ys, yn, yi⟩ := y
      dsimp only at *
      generalize outS tk ⟨ys, yn, yi⟩ out = ou at *
      generalize opE most tk ⟨ys, yn, yi⟩ = er at *
      generalize opR most tk ⟨ys, yn, yi⟩ = tk2 at *
      generalize tk.getI (nmB yn) = gi at *
      cases ys with
      | true =>
        have HCq := Lib.hid (HCs.out _ (belD wr) rfl)
        clear HCs HCd Hed
        go_wp2_with fail
        go_region_law (refine rgn_callX rfl 32 _ _ HCq.out (by go_simp) ?_; rintro e w5 ⟨rfl, hx5, ho5⟩; refine ⟨_, rfl, ?_⟩; have Hx5 := Lib.hid hx5; have Ho5 := Lib.hid ho5; clear hx5 ho5)
        all_goals
          clear HCq
          rcases Hec.out with rfl | rfl
          · have Hb := Lib.hid (Hbad.out rfl)
            have Hfin : Hid (XbS B w v xb most w5 u6 tk2 60000) := Lib.hid ⟨Hx5.out.go, Nat.le_trans Hx5.out.n (by omega), Hx5.out.T⟩
            obtain ⟨pv, cv, rfl, _⟩ := Ho5.out.slice IntU.still (S' := fun _ => True) (fun _ _ _ => trivial) (fun _ _ => trivial)
            clear Hbad Hgood Hec Hou Hx5
            go_wp2_with fail
            go_ret2
            rw [Hb.out]
            exact ⟨_, rfl, Ho5.out, Hfin.out⟩
          · have Hg := Lib.hid (Hgood.out (by simp))
            clear Hbad Hgood Hec
            by_cases hgi : 0 < gi
            · have Ho2 : Hid (ou = out ++ [gi]) := Lib.hid (by rw [Hou.out, if_pos hgi])
              have Hn := Lib.hid (new1I gi Ho5.out)
              have hal := (Below.refl w5.heap.size w5).alloc (Nat.le_refl _) (.cells #[.int .i64 gi] 3)
              have Ho6 := Lib.hid (Ho5.out.below' IntU.still hal)
              have Hx6 := Lib.hid (Hx5.out.still hal)
              have hroom : out.length ≤ 100000000 := by omega
              have hbase := Hx6.out.T.size
              clear hal Hou Ho5 Hx5
              go_wp2_with (at_builtin; refine step_appendI _ rfl (.tmp 54) (.tmp 56) rfl w.heap.size u6 out rfl Ho6.out (some ⟨w5.heap.size, 0, none⟩) gi rfl Hn.out hroom hbase ?_; intro v7 w7 ho7 hg7 hn7; have Ho7 := Lib.hid ho7; have Hx7 := Lib.hid (Hx6.out.grow Hx0.out Ho6.out (fun j hj => (OwnS.row Ho6.out j hj).1) hg7 hn7); clear ho7 hg7 hn7)
              go_roundw
              case rel => exact ⟨k + 1, tk2, ou, by omega, by go_num, by rw [Ho2.out]; exact Ho7.out, Hx7.out, Hg.out, by rw [Ho2.out, List.length_append]; simp; omega⟩
              case measure => simp [intOf]; omega
            · have Ho2 : Hid (ou = out) := Lib.hid (by rw [Hou.out, if_neg hgi])
              clear Hou
              go_wp2_with fail
              go_roundw
              case rel => exact ⟨k + 1, tk2, ou, by omega, by go_num, by rw [Ho2.out]; exact Ho5.out, Hx5.out, Hg.out, by rw [Ho2.out]; omega⟩
              case measure => simp [intOf]; omega
      | false =>
        obtain rfl : er = 0 := Hed.out rfl
        have HCq := Lib.hid (HCd.out _ (Below.refl _ _) rfl)
        clear HCs HCd Hed Hec Hbad
        go_wp2_with fail
        refine HCq.out.mono ?_
        rintro e w5 ⟨⟨bb, rfl⟩, hx5, ho5⟩
        have Hx5 := Lib.hid hx5
        have Ho5 := Lib.hid ho5
        clear hx5 ho5 HCq
        have Hg := Lib.hid (Hgood.out (by simp))
        clear Hgood
        by_cases hgi : 0 < gi
        · have Ho2 : Hid (ou = out ++ [gi]) := Lib.hid (by rw [Hou.out, if_pos hgi])
          have Hn := Lib.hid (new1I gi Ho5.out)
          have hal := (Below.refl w5.heap.size w5).alloc (Nat.le_refl _) (.cells #[.int .i64 gi] 3)
          have Ho6 := Lib.hid (Ho5.out.below' IntU.still hal)
          have Hx6 := Lib.hid (Hx5.out.still hal)
          have hroom : out.length ≤ 100000000 := by omega
          have hbase := Hx6.out.T.size
          clear hal Hou Ho5 Hx5
          go_wp2_with (at_builtin; refine step_appendI _ rfl (.tmp 54) (.tmp 56) rfl w.heap.size u6 out rfl Ho6.out (some ⟨w5.heap.size, 0, none⟩) gi rfl Hn.out hroom hbase ?_; intro v7 w7 ho7 hg7 hn7; have Ho7 := Lib.hid ho7; have Hx7 := Lib.hid (Hx6.out.grow Hx0.out Ho6.out (fun j hj => (OwnS.row Ho6.out j hj).1) hg7 hn7); clear ho7 hg7 hn7)
          go_roundw
          case rel => exact ⟨k + 1, tk2, ou, by omega, by go_num, by rw [Ho2.out]; exact Ho7.out, Hx7.out, Hg.out, by rw [Ho2.out, List.length_append]; simp; omega⟩
          case measure => simp [intOf]; omega
        · have Ho2 : Hid (ou = out) := Lib.hid (by rw [Hou.out, if_neg hgi])
          clear Hou
          go_wp2_with fail
          go_roundw
          case rel => exact ⟨k + 1, tk2, ou, by omega, by go_num, by rw [Ho2.out]; exact Ho5.out, Hx5.out, Hg.out, by rw [Ho2.out]; omega⟩
          case measure => simp [intOf]; omega
    · obtain rfl : k = ops.length := by omega
      rw [List.drop_length, appT_end] at hap
      have Hap := Lib.hid hap
      clear hap
      have Hfin : Hid (XbS B w v xb most wr u6 tk 60000) := Lib.hid ⟨Htb.out.go, Nat.le_trans Htb.out.n (by omega), Htb.out.T⟩
      obtain ⟨pv, cv, rfl, _⟩ := Ho.out.slice IntU.still (S' := fun _ => True) (fun _ _ _ => trivial) (fun _ _ => trivial)
      clear Htb
      go_wp2_with fail
      go_ret2
      rw [Hap.out]
      exact ⟨_, rfl, Ho.out, Hfin.out⟩

set_option maxRecDepth 100000 in
theorem papply_nil (S : Nat → Prop) (p : Option Addr) (c : Nat) (o : OpV) (w : World) (hs : SliceS 3 OpS S w [.slice p 1 c] [o]) :
    Calls Try.prog 18 #[.pointer none, .slice p 1 c] w fun e w' => e = .returned (.tuple #[.slice none 0 0, .int .i64 (if o.set = true then 2 else 0)]) ∧ Below w.heap.size w w' := by
  obtain ⟨b, oo, rfl, hSb, hbl, d0, d1, d2⟩ := opL_at hs (j := 0) (by simp)
  simp only [List.getElem_cons_zero, Nat.zero_mul, Nat.add_zero] at d0 d1 d2
  have HA := Lib.hid (fun wq => apply_nil o wq)
  clear hs
  obtain ⟨os, on, oi⟩ := o
  dsimp only at *
  go_enter Try.func18, Try.ntmps18
  go_wp2_with fail
  go_loopw [6, 13] (fun v i wr => ∃ k : Nat, k ≤ 1 ∧ i = .int .i64 k ∧ v = .slice none 0 0 ∧ Below w.heap.size w wr ∧ (0 < k → os = false)) (fun _ i _ => 1 - (intOf i).toNat)
  case atStart => exact ⟨0, by omega, rfl, rfl, Below.refl _ _, fun h => absurd h (by omega)⟩
  case round =>
    obtain ⟨k, hk, rfl, rfl, hb, hos⟩ := hrel
    have Hb := Lib.hid hb
    by_cases hlt : k = 0
    · subst hlt
      have d0' := (hb.cell (p := ⟨b, oo, none⟩) hbl).trans d0
      have d1' := (hb.cell (p := ⟨b, oo + 1, none⟩) hbl).trans d1
      have d2' := (hb.cell (p := ⟨b, oo + 2, none⟩) hbl).trans d2
      have hopc := (Blk.new wr 55 #[.bool os, .string on, .int .i64 oi]).cell
      have Hal := Lib.hid (hb.alloc hb.size (.cells #[.bool os, .string on, .int .i64 oi] 55))
      clear hb d0 d1 d2
      cases os with
      | true =>
        go_wp2_with fail
        refine (HA.out _).mono ?_
        rintro e w5 ⟨rfl, hb5⟩
        have Hb5 := Lib.hid (Hal.out.trans (hb5.mono Hal.out.size))
        clear hb5 hopc Hal
        go_wp2_with fail
        go_ret2
        exact ⟨rfl, Hb5.out⟩
      | false =>
        go_wp2_with fail
        refine (HA.out _).mono ?_
        rintro e w5 ⟨rfl, hb5⟩
        have Hb5 := Lib.hid (Hal.out.trans (hb5.mono Hal.out.size))
        clear hb5 hopc Hal
        go_wp2_with fail
        go_roundw
        case rel => exact ⟨1, by omega, by go_num, rfl, Hb5.out, fun _ => (by simp)⟩
        case measure => simp [intOf]
    · obtain rfl : k = 1 := by omega
      obtain rfl := hos (by omega)
      clear hb
      go_wp2_with fail
      go_ret2
      exact ⟨rfl, Hb.out⟩
end Go.Proofs.Ytacnmdlefonjmaa

