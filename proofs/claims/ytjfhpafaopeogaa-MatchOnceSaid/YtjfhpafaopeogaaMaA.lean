/-
  What match takes without a reply: Flush, of the program (layer 22).
-/
import Derived.Test.YtjfhpafaopeogaaQuVa
import Derived.WalkMore
namespace Go.Proofs.Ytjfhpafaopeogaa
open Go.RowKit
set_option linter.unusedVariables false
set_option linter.unusedSimpArgs false

def notSyn (x : EnV) : Bool := !(x.kind == 10)
def lenV : Value → Nat
  | .slice _ n _ => n
  | _ => 0

/-- What steps leave of a queue: the struct alone turned. -/
def OpM (t : TypeId) (B sb : Nat) (E : Nat → Prop) (L' : List EnV) (most : Nat) (v : Value) (w w' : World) : Prop :=
  ∃ v', QO t B w' sb (gE E v w w') L' most v' ∧ (∀ k, rowOf v' = some k → rowOf v = some k ∨ w.heap.size ≤ k) ∧ Touch (fun i => i = sb) w w'

section
variable {t : TypeId} {B sb : Nat} {E : Nat → Prop} {L L' : List EnV} {most : Nat} {v : Value} {w w1 w2 : World}
theorem QO.startM (h : QO t B w sb E L most v) (hb : Below w.heap.size w w1) : OpM t B sb E L most v w w1 :=
  ⟨v, (h.still hb).weak (fun k hk hE => .inl hE) (by
    have := h.blk.lt
    rintro (e | e | e)
    · exact h.noE e
    · exact h.no e
    · omega), fun _ e => .inl e, Touch.of_below hb⟩
theorem OpM.size (h : OpM t B sb E L most v w w1) : w.heap.size ≤ w1.heap.size := by
  obtain ⟨v1, h1, h2, h3⟩ := h
  exact h3.size
theorem OpM.still (h : OpM t B sb E L most v w w1) (hb : Below w1.heap.size w1 w2) : OpM t B sb E L most v w w2 := by
  obtain ⟨v1, h1, h2, h3⟩ := h
  have hz := hb.size
  have hz3 := h3.size
  refine ⟨v1, (h1.still hb).weak (fun k hk hE => ?_) ?_, h2, h3.trans (Touch.of_below hb)⟩
  · rcases hE with e | e | e
    · exact .inl e
    · exact .inr (.inl e)
    · exact .inr (.inr ⟨e.1, by omega⟩)
  · have hl := h1.blk.lt
    have hn := h1.noE
    rintro (e | e | e)
    · exact hn (.inl e)
    · exact hn (.inr (.inl e))
    · exact hn (.inr (.inr ⟨e.1, hl⟩))
/-- A further step. -/
theorem OpM.step {v1 : Value} (h2 : ∀ k, rowOf v1 = some k → rowOf v = some k ∨ w.heap.size ≤ k) (h3 : Touch (fun i => i = sb) w w1) (hsb : sb < w.heap.size) (hE : ¬ E sb) (hno : rowOf v ≠ some sb)
    (h : OpM t B sb (gE E v w w1) L' most v1 w1 w2) : OpM t B sb E L' most v w w2 := by
  obtain ⟨v2, k1, k2, k3⟩ := h
  have hz := h3.size
  have hz3 := k3.size
  refine ⟨v2, k1.weak (fun k hk hE => ?_) ?_, fun k hk => ?_, h3.trans k3⟩
  · rcases hE with (e | e | e) | e | e
    · exact .inl e
    · exact .inr (.inl e)
    · exact .inr (.inr ⟨e.1, by omega⟩)
    · rcases h2 k e with e' | e'
      · exact .inr (.inl e')
      · exact .inr (.inr ⟨e', hk⟩)
    · exact .inr (.inr ⟨by omega, hk⟩)
  · rintro (e | e | e)
    · exact hE e
    · exact hno e
    · omega
  · rcases k2 k hk with e | e
    · exact h2 k e
    · exact .inr (by omega)
theorem OpM.early (hb : Below w.heap.size w w1) (hsb : sb < w.heap.size) (hE : ¬ E sb) (hno : rowOf v ≠ some sb) (h : OpM t B sb E L' most v w1 w2) : OpM t B sb E L' most v w w2 := by
  obtain ⟨v2, k1, k2, k3⟩ := h
  have hz := hb.size
  have hz3 := k3.size
  refine ⟨v2, k1.weak (fun k hk hE => ?_) ?_, fun k hk => ?_, (Touch.of_below hb).trans k3⟩
  · rcases hE with e | e | e
    · exact .inl e
    · exact .inr (.inl e)
    · exact .inr (.inr ⟨by omega, hk⟩)
  · rintro (e | e | e)
    · exact hE e
    · exact hno e
    · omega
  · rcases k2 k hk with e | e
    · exact .inl e
    · exact .inr (by omega)
theorem OpM.ofN {t : TypeId} (h : OpN t B sb E L most v w w1) : OpM t B sb E L most v w w1 := by
  obtain ⟨v1, h1, h2, h3⟩ := h
  exact ⟨v1, h1, fun k hk => .inr (h2 k hk), h3⟩
end

/-- Between two rounds of Flush: the queue doesn't lean on the row of what is handed out. -/
def FlI (t : TypeId) (B sb : Nat) (E : Nat → Prop) (L' : List EnV) (most : Nat) (v : Value) (w wr : World) (u : Value) : Prop :=
  ∃ E1 v1, QO t B wr sb E1 L' most v1 ∧ (∀ j, E1 j → (E j ∧ j < w.heap.size) ∨ rowOf v = some j ∨ (w.heap.size ≤ j ∧ j < wr.heap.size)) ∧
    (∀ j, rowOf v1 = some j → rowOf v = some j ∨ w.heap.size ≤ j) ∧ Touch (fun i => i = sb) w wr ∧ (∀ j, rowOf u = some j → ¬ E1 j ∧ rowOf v1 ≠ some j)

section
variable {t : TypeId} {B sb : Nat} {E : Nat → Prop} {L L' : List EnV} {most : Nat} {v u u5 : Value} {w wr w2 w3 w4 w5 : World}
theorem FlI.start (h : QO t B w sb E L most v) (p : Option Addr) : FlI t B sb E L most v w w (.slice p 0 0) :=
  ⟨fun j => E j ∧ j < w.heap.size, v, h.weak (fun k hk e => ⟨e, hk⟩) (fun e => h.noE e.1), fun j e => .inl e, fun _ e => .inl e, Touch.refl _ _, fun j e => by rw [rowOf_zero] at e; cases e⟩
theorem FlI.size (h : FlI t B sb E L most v w wr u) : w.heap.size ≤ wr.heap.size := by
  obtain ⟨E1, v1, h1, h2, h3, h4, h5⟩ := h
  exact h4.size
theorem FlI.done (h : FlI t B sb E L most v w wr u) (hb : Below wr.heap.size wr w2) (hsb : sb < w.heap.size) (hE : ¬ E sb) (hno : rowOf v ≠ some sb) : OpM t B sb E L most v w w2 := by
  obtain ⟨E1, v1, h1, h2, h3, h4, h5⟩ := h
  have hz := hb.size
  refine ⟨v1, (h1.still hb).weak (fun k hk e => ?_) ?_, h3, h4.trans (Touch.of_below hb)⟩
  · rcases h2 k e with e | e | e
    · exact .inl e.1
    · exact .inr (.inl e)
    · exact .inr (.inr ⟨e.1, hk⟩)
  · rintro (e | e | e)
    · exact hE e
    · exact hno e
    · omega
theorem FlI.next {E1 : Nat → Prop} {v1 v3 : Value} (h2 : ∀ j, E1 j → (E j ∧ j < w.heap.size) ∨ rowOf v = some j ∨ (w.heap.size ≤ j ∧ j < wr.heap.size)) (h1 : QO t B wr sb E1 L most v1)
    (h3 : ∀ j, rowOf v1 = some j → rowOf v = some j ∨ w.heap.size ≤ j) (h4 : Touch (fun i => i = sb) w wr) (h5 : ∀ j, rowOf u = some j → ¬ E1 j ∧ rowOf v1 ≠ some j) (hsb : sb < w.heap.size) (hrv : ∀ j, rowOf v = some j → j < w.heap.size)
    (hb2 : Below wr.heap.size wr w2) (hq3 : QO t B w3 sb (gE E1 v1 w2 w3) L' most v3) (hr3 : ∀ j, rowOf v3 = some j → w2.heap.size ≤ j) (hT3 : Touch (fun i => i = sb) w2 w3)
    (hb4 : Below w3.heap.size w3 w4) (hg : w4.grownBy w5 (rowOf u)) (hn : ∀ j, rowOf u5 = some j → rowOf u = some j ∨ w4.heap.size ≤ j) (hur : ∀ j, rowOf u = some j → w.heap.size ≤ j ∧ j < wr.heap.size) : FlI t B sb E L' most v w w5 u5 := by
  have hT5 := Touch.of_row hg
  have z0 := h4.size
  have z2 := hb2.size
  have z3 := hT3.size
  have z4 := hb4.size
  have z5 := hT5.size
  have hsl := hq3.own.row
  refine ⟨gE E1 v1 w2 w3, v3, (hq3.still hb4).touch hT5 ?_ ?_ ?_, ?_, fun j hj => .inr (by have := hr3 j hj; omega), ?_, ?_⟩
  · intro e
    have := hur sb (by simpa using e.symm)
    omega
  · intro k hk e
    have h := hr3 k hk
    have := hur k (by simpa using e.symm)
    omega
  · intro k hk hE _ e
    have hr : rowOf u = some k := by simpa using e.symm
    have := hur k hr
    rcases hE with e' | e' | e'
    · exact (h5 k hr).1 e'
    · exact (h5 k hr).2 e'
    · omega
  · intro j hj
    rcases hj with e | e | e
    · rcases h2 j e with e | e | e
      · exact .inl e
      · exact .inr (.inl e)
      · exact .inr (.inr ⟨e.1, by omega⟩)
    · rcases h3 j e with e' | e'
      · exact .inr (.inl e')
      · have := (h1.own.row j e).2
        exact .inr (.inr ⟨e', by omega⟩)
    · exact .inr (.inr ⟨by omega, by omega⟩)
  · exact ((((h4.trans (Touch.of_below hb2)).trans hT3).trans (Touch.of_below hb4)).then hT5 (fun i hi e => by
      have := hur i (by simpa using e.symm)
      omega))
  · intro j hj
    rcases hn j hj with e | e
    · have hu := hur j e
      refine ⟨fun e' => ?_, fun e' => by have := hr3 j e'; omega⟩
      rcases e' with e' | e' | e'
      · exact (h5 j e).1 e'
      · exact (h5 j e).2 e'
      · omega
    · refine ⟨fun e' => ?_, fun e' => by have := (hsl j e').2; omega⟩
      rcases e' with e' | e' | e'
      · rcases h2 j e' with e | e | e
        · omega
        · have := hrv j e; omega
        · omega
      · have := (h1.own.row j e').2
        omega
      · omega
end

set_option maxRecDepth 100000 in
set_option maxHeartbeats 4000000 in
theorem flush_any (B sb : Nat) (E : Nat → Prop) (L : List EnV) (most : Nat) (v : Value) (w : World) (h : QO 126 B w sb E L most v) (hB : B ≤ w.heap.size) :
    Calls Try.prog 39 #[.pointer (some ⟨sb, 0, none⟩)] w fun e w' => ∃ vo, e = .returned vo ∧ OwnEn w.heap.size (fun k => w.heap.size ≤ k) w' vo (L.take (ahead notSyn L)) ∧ OpM 126 B sb E (L.drop (ahead notSyn L)) most v w w' := by
  have H0 := Lib.hid (fun p => FlI.start h p)
  have hsb := h.blk.lt
  have Hn := Lib.hid (And.intro h.noE (And.intro h.no (fun j hj => (h.own.row j hj).2 : ∀ j, rowOf v = some j → j < w.heap.size)))
  have hlen : L.length ≤ 4096 := Nat.le_trans h.len h.lim
  clear h
  go_enter Try.func39, Try.ntmps39
  go_wp2_with fail
  go_step3
  go_wp2_with fail
  go_step3
  go_wp2_with fail
  go_loopw [3] (fun u wr => ∃ k : Nat, k ≤ ahead notSyn L ∧ OwnEn w.heap.size (fun j => w.heap.size ≤ j) wr u (L.take k) ∧ FlI 126 B sb E (L.drop k) most v w wr u) (fun u _ => L.length - lenV u)
  case atStart => exact ⟨0, Nat.zero_le _, OwnS.empty _, H0.out _⟩
  case round =>
    obtain ⟨k, hk, ho, hm⟩ := hrel
    have hal := ahead_le notSyn L
    have Hk := Lib.hid hk
    have Ho := Lib.hid ho
    have hz := hm.size
    have HM := Lib.hid hm
    obtain ⟨E1, v1, hq1, hE1, hr1, hT1, hu1⟩ := hm
    have HF := Lib.hid (And.intro hE1 (And.intro hr1 (And.intro hT1 hu1)))
    have HQ1 := Lib.hid hq1
    obtain ⟨p3, c3, hv3, _⟩ := ho.slice EnS.still (S' := fun _ => True) (fun _ _ _ => trivial) (fun _ _ => trivial)
    obtain ⟨n3, hn3⟩ : ∃ n, (L.take k).length = n := ⟨_, rfl⟩
    rw [hn3] at hv3
    have Hv3 := Lib.hid hv3
    have Hn3 := Lib.hid (show n3 = k by rw [← hn3, List.length_take]; omega)
    clear hv3
    have Hrow := Lib.hid ho.row
    clear hE1 hr1 hT1 hu1 ho H0 hk hn3
    by_cases hlt : k < L.length
    · have Hdr : Hid (L.drop k = L[k] :: L.drop (k + 1)) := Lib.hid (List.drop_eq_getElem_cons hlt)
      have Htk : Hid (L.take (k + 1) = L.take k ++ [L[k]]) := Lib.hid (by rw [List.take_succ_eq_append_getElem hlt])
      have Hgo := Lib.hid (ahead_go notSyn L k hlt Hk.out)
      have Hat := Lib.hid (ahead_at notSyn L k hlt Hk.out)
      rw [Hdr.out] at hq1
      generalize L[k] = x at *
      have Hh := Lib.hid (qHead_some B sb _ x (L.drop (k + 1)) most v1 wr hq1)
      clear hq1
      obtain ⟨xk, xh, xf, xd, xg, xb, xc, xr⟩ := x
      go_wp2_with fail
      refine Hh.out.mono ?_
      rintro e w1 ⟨⟨pg, cg, pb, cb, pc, cc, pr, cr⟩, rfl, hl1, hb1⟩
      unfold enArg
      dsimp only at hl1 ⊢
      have Hl1 := Lib.hid hl1
      have hal1 : Below w1.heap.size w1 (w1.alloc (.cells #[.int .i64 xk, .bool xh, .string xf, .string xd, .slice pg xg.length cg, .slice pb xb.length cb, .slice pc xc.length cc, .slice pr xr.length cr] 52)) := (Below.refl _ _).alloc (Nat.le_refl _) _
      have Hb2 := Lib.hid (hb1.trans (hal1.mono hb1.size))
      have hz1 := hb1.size
      have HE2 : Hid (Blk (w1.alloc (.cells #[.int .i64 xk, .bool xh, .string xf, .string xd, .slice pg xg.length cg, .slice pb xb.length cb, .slice pc xc.length cc, .slice pr xr.length cr] 52)) w1.heap.size 52 #[.int .i64 xk, .bool xh, .string xf, .string xd, .slice pg xg.length cg, .slice pb xb.length cb, .slice pc xc.length cc, .slice pr xr.length cr]) := Lib.hid (Blk.new _ _ _)
      have Hl2 := Lib.hid (hl1.keep (Kept.all hal1))
      have HQ2 := Lib.hid (HQ1.out.still Hb2.out)
      have hz2 : w1.heap.size < (w1.alloc (.cells #[.int .i64 xk, .bool xh, .string xf, .string xd, .slice pg xg.length cg, .slice pb xb.length cb, .slice pc xc.length cc, .slice pr xr.length cr] 52)).heap.size := by simp
      clear hl1 hb1 Hh hal1 Hl1
      cases hxk : (xk == 10) with
      | true =>
        have Hn1 := Lib.hid (Hgo.out (by simp [notSyn, hxk]))
        go_upto_region 4 with (fail)
        generalize w1.heap.size = g1 at *
        generalize w1.alloc (.cells #[.int .i64 xk, .bool xh, .string xf, .string xd, .slice pg xg.length cg, .slice pb xb.length cb, .slice pc xc.length cc, .slice pr xr.length cr] 52) = w2 at *
        have hq2 := HQ2.out
        rw [Hdr.out] at hq2
        have Hp := Lib.hid (qPop_some B sb _ _ (L.drop (k + 1)) most v1 w2 hq2 (by omega))
        clear hq2
        go_wp2_with fail
        refine Hp.out.mono ?_
        rintro e w3 ⟨a3, v3, rfl, hl3, hq3, hr3, hT3⟩
        have hz3 := hT3.size
        have HE3 := Lib.hid (hT3.blk HE2.out (by omega))
        have he3 := HE3.out.cell
        have Hl3 := Lib.hid (Hl2.out.keep (S' := fun k => wr.heap.size ≤ k) (Kept.touch hT3 (fun k _ hk => ⟨hk, by have hk' : wr.heap.size ≤ k := hk; omega⟩)))
        have Ho3 := Lib.hid (OwnS.touch EnS.still (S' := fun k => w.heap.size ≤ k) (Ho.out.below' EnS.still Hb2.out) hT3 (fun k hk => by have := (Ho.out.row k hk).1; omega) (fun k _ hk _ => ⟨hk, by omega⟩))
        have HQ3 := Lib.hid hq3
        have HR3 := Lib.hid hr3
        have HT3 := Lib.hid hT3
        clear hl3 hq3 hr3 hT3 Hp HE2 HQ2 Hl2
        have hal3 : Below w3.heap.size w3 (w3.alloc (.cells #[.int .i64 xk, .bool xh, .string xf, .string xd, .slice pg xg.length cg, .slice pb xb.length cb, .slice pc xc.length cc, .slice pr xr.length cr] 52)) := (Below.refl _ _).alloc (Nat.le_refl _) _
        have Hrow3 := Lib.hid Ho3.out.row
        have Hnw := Lib.hid (new1En (S := fun k => w.heap.size ≤ k) (v := u3) (x := ⟨xk, xh, xf, xd, xg, xb, xc, xr⟩) (a := ⟨pg, cg, pb, cb, pc, cc, pr, cr⟩) (w := w3)
          (Hl3.out.keep (Kept.mono w3 (fun j _ hj => ⟨by omega, fun e => by have := (Hrow.out j e).2; omega⟩))) (by omega) (fun e => by have := (Hrow3.out _ e).2; omega))
        have Ho4 := Lib.hid (Ho3.out.below' EnS.still hal3)
        have Hal3 := Lib.hid hal3
        have hwz : w.heap.size ≤ (w3.alloc (.cells #[.int .i64 xk, .bool xh, .string xf, .string xd, .slice pg xg.length cg, .slice pb xb.length cb, .slice pc xc.length cc, .slice pr xr.length cr] 52)).heap.size := by simp; omega
        clear hal3
        dsimp only at Hnw
        go_wp2_with (at_builtin; refine step_appendEn _ rfl (.tmp 20) (.tmp 22) rfl w.heap.size (fun k => w.heap.size ≤ k) (u3) (L.take k) rfl Ho4.out (some ⟨w3.heap.size, 0, none⟩) 1 1 [⟨xk, xh, xf, xd, xg, xb, xc, xr⟩] rfl Hnw.out (by simp; omega) hwz ?_; intro v5 w5 ho5 hg5 hn5; have Ho5 := Lib.hid ho5; have HN5 := Lib.hid (FlI.next (u := u3) HF.out.1 HQ1.out HF.out.2.1 HF.out.2.2.1 HF.out.2.2.2 hsb Hn.out.2.2 Hb2.out HQ3.out HR3.out HT3.out Hal3.out hg5 hn5 Hrow.out); clear ho5 hg5 hn5)
        go_roundw
        case rel => exact ⟨k + 1, Hn1.out, by rw [Htk.out]; exact Ho5.out, HN5.out⟩
        case measure =>
          obtain ⟨p5, c5, e5, _⟩ := Ho5.out.slice EnS.still (S' := fun _ => True) (fun _ _ _ => trivial) (fun _ _ => trivial)
          rw [e5, Hv3.out]
          have := Hn3.out
          simp [lenV]
          omega
      | false =>
        have Hn1 := Lib.hid (Hat.out (by simp [notSyn, hxk]))
        go_upto_region 4 with (fail)
        have hv3 := Hv3.out
        subst hv3
        rw [Exit.noGoto_ret]
        go_ret
        have hN := Hn1.out
        rw [hN]
        exact ⟨_, rfl, Ho.out.below' EnS.still Hb2.out, HM.out.done Hb2.out hsb Hn.out.1 Hn.out.2.1⟩
    · have hkl : k = L.length := by have := Hk.out; omega
      have hN : ahead notSyn L = k := by have := Hk.out; omega
      have HN := Lib.hid hN
      have hd : L.drop k = [] := List.drop_eq_nil_of_le (by omega)
      rw [hd] at hq1
      have Hh := Lib.hid (qHead_none (some ⟨sb, 0, none⟩) wr (by
        have := qLen_any _ _ _ _ _ _ _ _ (hq1.still ((Below.refl _ wr).alloc (Nat.le_refl _) (.cells enZ 52)))
        exact this))
      clear hq1 hN hd
      go_wp2_with fail
      refine Hh.out.mono ?_
      rintro e w1 ⟨rfl, hb1⟩
      have Hb1 := Lib.hid hb1
      clear hb1
      unfold enArg enZero enZeroP
      go_wp2_with fail
      have hv3 := Hv3.out
      subst hv3
      rw [Exit.noGoto_ret]
      go_ret
      rw [HN.out]
      exact ⟨_, rfl, Ho.out.below' EnS.still (Hb1.out.trans ((Below.refl _ _).alloc Hb1.out.size _)), HM.out.done (Hb1.out.trans ((Below.refl _ _).alloc Hb1.out.size _)) hsb Hn.out.1 Hn.out.2.1⟩

end Go.Proofs.Ytjfhpafaopeogaa
