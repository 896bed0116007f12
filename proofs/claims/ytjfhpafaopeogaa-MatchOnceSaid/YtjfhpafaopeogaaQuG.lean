/-
  Queue's Push (layer 21).
-/
import Derived.Test.YtjfhpafaopeogaaQuF
namespace Go.Proofs.Ytjfhpafaopeogaa
open Go.RowKit
set_option linter.unusedVariables false
set_option linter.unusedSimpArgs false

theorem bel_drewN (w : World) (r : Nat) (B : Nat) (hB : B ≤ w.heap.size) : Below B w (w.drewN r) := ((Touch.refl (fun _ => False) w).drewN r).below hB (fun _ e => e.elim)

/-- Entries behind entries, as a step of a region that draws its order. -/
theorem rgn_appendEn {ops : Array Oper} {o : Oper} {a : Act} {w : World} {K : Act → World → Prop} {Q : Exit → Act → World → Prop} {F : Prop} (hgd : o.guard = none) (s y : Operand)
    (ho : o.op = .call { callee := .builtin .append, args := #[s, y], argTypes := #[23, 23] })
    (B : Nat) (S : Nat → Prop) (v : Value) (xs : List EnV) (hsv : a.eval s = v) (hown : OwnEn B S w v xs) (p : Option Addr) (n c : Nat) (ys : List EnV) (hx : a.eval y = .slice p n c) (hs : SliceS 8 EnS (fun k => S k ∧ rowOf v ≠ some k) w [.slice p n c] ys)
    (hroom : xs.length + ys.length ≤ 1000000) (hbase : B ≤ w.heap.size)
    (h : ∀ v' w', OwnEn B S w' v' (xs ++ ys) → w.grownBy w' (rowOf v) → (∀ k, rowOf v' = some k → rowOf v = some k ∨ w.heap.size ≤ k) → K (a.put o.dst v') w') :
    if Region.wanted o (yielded ops a.tmps) = true then Oper.wp Try.prog o a w K Q else F := by
  have hw : Region.wanted o (yielded ops a.tmps) = true := by simp [Region.wanted, hgd]
  rw [if_pos hw]
  obtain ⟨i, z, hi, hz, hsize, hby, hzs⟩ := info_en
  obtain ⟨css, k1, k2⟩ := hown
  obtain ⟨dss, rfl, k3, k4⟩ := hs.src (P := Try.prog) EnS.one Try.underlying23
  obtain ⟨v', w', hrun, r1, r2, r3⟩ := run_append_R (P := Try.prog) 23 23 o.type i z 144 Try.underlying23 hi hz hsize hby hzs k1 _ _ _ k3 (by simp only [maxLen]; omega) (by omega) hbase
  unfold Oper.wp
  simp [execOp, ho, resolve, invoke, builtin, hsv, hx, hrun, Result.andThen]
  refine h v' w' ⟨css ++ dss, ?_, ?_⟩ r2 r3
  · rw [List.length_append, List.flatten_append]; exact r1
  · exact All2.append (OwnS.grow EnS.still k2 r2 r3) (OwnS.grow EnS.still k4 r2 r3)

/-- A call of a Go function, as a step of a region that draws its order. -/
theorem rgn_call {ops : Array Oper} {o : Oper} {a : Act} {w : World} {K : Act → World → Prop} {Q : Exit → Act → World → Prop} {F : Prop} (hgd : o.guard = none) (f : FuncId) (vs : Array Value) (R : Ending → World → Prop) (hC : Calls Try.prog f vs w R)
    (hr : (execOp a.eval o).run Try.prog w = .ok (.enter f vs) w) (h : ∀ e w', R e w' → ∃ v, e = .returned v ∧ K (a.put o.dst v) w') :
    if Region.wanted o (yielded ops a.tmps) = true then Oper.wp Try.prog o a w K Q else F := by
  have hw : Region.wanted o (yielded ops a.tmps) = true := by simp [Region.wanted, hgd]
  rw [if_pos hw]
  unfold Oper.wp
  rw [hr, Oper.upon_enter]
  refine hC.mono ?_
  intro e w' hR
  obtain ⟨v, rfl, hK⟩ := h e w' hR
  exact hK

theorem qPush_nil (x : Value) (w : World) : Calls Try.prog 31 #[.pointer none, x] w fun e w' => e = .returned (.int .i64 2) ∧ w = w' := by
  go_enter Try.func31, Try.ntmps31
  go_wp2
  go_ret
  exact ⟨rfl, rfl⟩

theorem qPush_zero (sb : Nat) (u x : Value) (w : World) (h : ∀ i, w.cell? ⟨sb, i, none⟩ = (#[u, .int .i64 0] : Array Value)[i]?) : Calls Try.prog 31 #[.pointer (some ⟨sb, 0, none⟩), x] w fun e w' => e = .returned (.int .i64 2) ∧ w = w' := by
  go_enter Try.func31, Try.ntmps31
  go_wp2
  go_ret
  exact ⟨rfl, rfl⟩

/-- What Push leaves. -/
def PushR (B sb : Nat) (E : Nat → Prop) (L xs : List EnV) (most : Nat) (v : Value) (w w' : World) : Prop :=
  ∃ v', QO 126 B w' sb (gE E v w w') (L ++ xs) most v' ∧ (∀ k, rowOf v' = some k → rowOf v = some k ∨ w.heap.size ≤ k) ∧ QT sb v w w'

/-- The pieces of a Push joined. -/
theorem push_end {B sb : Nat} {E : Nat → Prop} {L xs : List EnV} {most : Nat} {v v4 : Value} {w w3 w4 : World} (h : QO 126 B w sb E L most v) (hBw : B ≤ w.heap.size) (hs : ∀ x ∈ xs, EnSmall x) (hfit : L.length + xs.length ≤ most)
    (hb3 : Below w.heap.size w w3) (ho4 : OwnEn B (fun k => (E k ∧ k < w.heap.size) ∨ w.heap.size ≤ k) w4 v4 (L ++ xs)) (hg4 : w3.grownBy w4 (rowOf v)) (hn4 : ∀ k, rowOf v4 = some k → rowOf v = some k ∨ w3.heap.size ≤ k) :
    Blk w4 sb 126 #[v, .int .i64 (most : Int)] ∧ PushR B sb E L xs most v w (w4.setCell ⟨sb, 0, none⟩ v4) := by
  have hsl := h.blk.lt
  have hz3 := hb3.size
  have hT4 := Touch.of_row hg4
  have hz4 := hT4.size
  have hb3' : Blk w3 sb 126 #[v, .int .i64 (most : Int)] := h.blk.below hb3 hsl
  have hblk : Blk w4 sb 126 #[v, .int .i64 (most : Int)] := hT4.blk hb3' (fun e => h.no e.symm)
  have hzf := size_set w4 ⟨sb, 0, none⟩ v4
  refine ⟨hblk, v4, ?_, fun k hk => ?_, ?_⟩
  · have hq := QO.set hblk h.sB ho4 (fun e => by rcases hn4 sb e with e | e; (· exact h.no e); (· omega)) (by rintro (e | e); (· exact h.noE e.1); (· omega)) (fun x hx => by rcases List.mem_append.1 hx with hx | hx; (· exact h.small x hx); (· exact hs x hx)) (by rw [List.length_append]; exact hfit) h.lim
    refine hq.weak (fun k hk hE => ?_) ?_
    · rcases hE with e | e
      · exact .inl e.1
      · exact .inr (.inr ⟨e, hk⟩)
    · rintro (e | e | e)
      · exact h.noE e
      · exact h.no e
      · omega
  · rcases hn4 k hk with e | e
    · exact .inl e
    · exact .inr (by omega)
  · exact ((Touch.of_below (p := fun i => i = sb ∨ rowOf v = some i) hb3).trans (hT4.mono (fun k _ e => .inr e.symm))).setCell (x := ⟨sb, 0, none⟩) (fun _ => .inl rfl) _

theorem qPush_full (B sb : Nat) (E : Nat → Prop) (L : List EnV) (most : Nat) (v : Value) (p : Option Addr) (n c : Nat) (w : World) (h : QO 126 B w sb E L most v) (hfull : most < L.length + n) (hm : 1 ≤ most) :
    Calls Try.prog 31 #[.pointer (some ⟨sb, 0, none⟩), .slice p n c] w fun e w' => e = .returned (.int .i64 6) ∧ ∃ r, w' = w.drewN r := by
  obtain ⟨pv, cv, rfl, _⟩ := h.slice
  have hc := h.blk.cell
  have hlim := h.lim
  have hlen := h.len
  have hwr : IntKind.i64.wrap ((most : Int) - (L.length : Int)) = (most : Int) - (L.length : Int) := by rw [IntKind.wrap_i64]; omega
  have hgt : (most : Int) - (L.length : Int) < (n : Int) := by omega
  have hm0 : ¬ (most : Int) = 0 := by omega
  clear h
  go_enter Try.func31, Try.ntmps31
  go_wp2_with fail
  go_quiet (fail)
  go_wp2
  go_ret
  exact ⟨rfl, _, rfl⟩

set_option maxRecDepth 100000 in
set_option maxHeartbeats 4000000 in
theorem qPush_ok (B sb : Nat) (E S : Nat → Prop) (L xs : List EnV) (most : Nat) (v : Value) (p : Option Addr) (n c : Nat) (w : World) (h : QO 126 B w sb E L most v) (hx : SliceS 8 EnS S w [.slice p n c] xs) (hs : ∀ x ∈ xs, EnSmall x) (hfit : L.length + n ≤ most) (hm : 1 ≤ most) (hBw : B ≤ w.heap.size) :
    Calls Try.prog 31 #[.pointer (some ⟨sb, 0, none⟩), .slice p n c] w fun e w' => e = .returned (.int .i64 0) ∧ PushR B sb E L xs most v w w' := by
  obtain ⟨rfl, hlc, hcm⟩ := hx.len
  obtain ⟨pv, cv, rfl, _⟩ := h.slice
  have hc := h.blk.cell
  have hlim := h.lim
  have hlen := h.len
  have hwr : IntKind.i64.wrap ((most : Int) - (L.length : Int)) = (most : Int) - (L.length : Int) := by rw [IntKind.wrap_i64]; omega
  have hgt : ¬ (most : Int) - (L.length : Int) < (xs.length : Int) := by omega
  have hm0 : ¬ (most : Int) = 0 := by omega
  have H := Lib.hid h
  have Hx := Lib.hid hx
  have Hs := Lib.hid hs
  clear h hx hs
  go_enter Try.func31, Try.ntmps31
  go_wp2_with fail
  go_quiet (fail)
  go_upto_region 5 with (fail)
  have hz1 : (w.drewN nq).heap.size = w.heap.size := rfl
  have Hd := Lib.hid (bel_drewN w nq w.heap.size (Nat.le_refl _))
  generalize w.drewN nq = w1 at *
  have H1 := Lib.hid (H.out.still Hd.out)
  have hc1 := H1.out.blk.cell
  have Hd2 : Hid (Below w1.heap.size w1 w1.drew) := Lib.hid (below_dropN (Below.refl _ _) (Nat.le_refl _))
  have HA := Lib.hid (all_any _ p xs.length c xs w1.drew (((Hx.out.below EnS.still Hd.out).below EnS.still Hd2.out)) Hs.out (by omega))
  have Hrow := Lib.hid H1.out.own.row
  have Hz1 := Lib.hid hz1
  clear hc hz1
  have hg1 := H1.out.blk.frozen
  go_region_law (first
    | (refine rgn_appendEn rfl (.tmp 33) (.tmp 35) rfl B (fun k => (E k ∧ k < w.heap.size) ∨ w.heap.size ≤ k) (.slice pv L.length cv) L rfl HO3.out p3 xs.length c3 xs rfl HS3.out (by omega) (by have := HB3.out.size; omega) ?_; intro v4 w4 ho4 hg4 hn4; obtain ⟨p4, c4, hv4, _⟩ := ho4.slice EnS.still (S' := fun _ => True) (fun _ _ _ => trivial) (fun _ _ => trivial); subst hv4; have hpe := push_end H.out hBw Hs.out hfit HB3.out ho4 hg4 hn4; have hc4 := hpe.1.cell; have hf4 := hpe.1.frozen; have HP := Lib.hid hpe.2; clear ho4 hg4 hn4 hpe)
    | (refine rgn_call rfl 68 _ _ HA.out (by go_simp) ?_; rintro e w3 ⟨v3, rfl, ho3, hb3⟩; refine ⟨_, rfl, ?_⟩; have hb3' : Below w1.heap.size w1 w3 := Hd2.out.trans hb3; have HB3 := Lib.hid (Hd.out.trans (hb3'.mono (by rw [Hz1.out]; exact Nat.le_refl _))); have HQ3 := Lib.hid (H1.out.still hb3'); have HO3 : Hid (OwnEn B (fun k => (E k ∧ k < w.heap.size) ∨ w.heap.size ≤ k) w3 (.slice pv L.length cv) L) := Lib.hid (HQ3.out.own.touch EnS.still (Touch.refl (fun _ => False) w3) (fun _ _ e => e) (fun k hk hs _ => ⟨Classical.byCases (fun h : k < w.heap.size => .inl ⟨hs, h⟩) (fun h => .inr (by omega)), fun e => e⟩)); obtain ⟨p3, c3, rfl, hs3⟩ := ho3.slice EnS.still (S' := fun k => ((E k ∧ k < w.heap.size) ∨ w.heap.size ≤ k) ∧ rowOf (.slice pv L.length cv) ≠ some k) (fun k hk hs => ⟨.inr (by rw [← Hz1.out]; exact hs), fun e => by have := (Hrow.out k e).2; have hs' : w1.heap.size ≤ k := hs; omega⟩) (fun k hk => ⟨.inr (by rw [← Hz1.out]; exact (ho3.row k hk).1), fun e => by have := (Hrow.out k e).2; have hs' : w1.heap.size ≤ k := (ho3.row k hk).1; omega⟩); have HS3 := Lib.hid hs3; have hc3 := HQ3.out.blk.cell; have hf3 := HQ3.out.blk.frozen; clear ho3 hb3 hb3' hs3))
  all_goals
    go_wp2_with fail
    go_ret
    have hP := HP.out
    rw [List.length_append] at hP
    exact ⟨rfl, hP⟩

end Go.Proofs.Ytjfhpafaopeogaa
