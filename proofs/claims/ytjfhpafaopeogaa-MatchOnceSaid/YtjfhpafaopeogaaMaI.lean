/-
  What becomes of a reply: Got, of the document: what is held, and the answers where nothing is taken (layer 22).
-/
import Derived.Test.YtjfhpafaopeogaaMaG
import Derived.Deep.RegionHeld3
import Derived.Deep.QuietTactic
namespace Go.Proofs.Ytjfhpafaopeogaa
open Go.RowKit
set_option linter.unusedVariables false
set_option linter.unusedSimpArgs false

theorem opM_touch {t : TypeId} {B sb : Nat} {E : Nat → Prop} {L : List EnV} {most : Nat} {v : Value} {w w' : World} (h : OpM t B sb E L most v w w') : Touch (fun i => i = sb) w w' := by
  obtain ⟨v', h1, h2, h3⟩ := h
  exact h3
theorem opN_touch {t : TypeId} {B sb : Nat} {E : Nat → Prop} {L : List EnV} {most : Nat} {v : Value} {w w' : World} (h : OpN t B sb E L most v w w') : Touch (fun i => i = sb) w w' := by
  obtain ⟨v', h1, h2, h3⟩ := h
  exact h3

/-- What a call of the document's Got holds. -/
structure RgS (t : TypeId) (E : Nat → Prop) (v : Value) (sb : Nat) (w wr : World) (x : EnV) (a : EnP) (b : BkV) : Prop where
  bb : Blk wr w.heap.size 69 (bkCl b)
  bo : Blk wr (w.heap.size + 1) t resZ
  l : EnL (fun j => (E j ∨ rowOf v = some j) ∧ j < w.heap.size ∧ j ≠ sb) wr x a
theorem RgS.touch {t : TypeId} {p E : Nat → Prop} {v : Value} {sb : Nat} {w wr w2 : World} {x : EnV} {a : EnP} {b : BkV} (h : RgS t E v sb w wr x a b) (hT : Touch p wr w2) (h1 : ¬ p w.heap.size) (h2 : ¬ p (w.heap.size + 1)) (h3 : ∀ i, i < w.heap.size → i ≠ sb → ¬ p i) : RgS t E v sb w w2 x a b :=
  ⟨hT.blk h.bb h1, hT.blk h.bo h2, h.l.keep (Kept.touch hT (fun k _ hk => ⟨hk, h3 k hk.2.1 hk.2.2⟩))⟩
theorem RgS.below {t : TypeId} {E : Nat → Prop} {v : Value} {sb : Nat} {w wr w2 : World} {x : EnV} {a : EnP} {b : BkV} (h : RgS t E v sb w wr x a b) (hb : Below wr.heap.size wr w2) : RgS t E v sb w w2 x a b :=
  h.touch (Touch.of_below (p := fun _ => False) hb) (fun e => e) (fun e => e) (fun _ _ _ e => e)

/-- The answer laid into its place. -/
theorem got_put' {B sb : Nat} {E X G : Nat → Prop} {L : List EnV} {most : Nat} {v : Value} {w wr : World} {t t' : TypeId} (r : ResV) (p : ResP)
    (hs : Blk wr (w.heap.size + 1) t' resZ) (hq : OpX t B sb E L most v w X wr) (hX : X (w.heap.size + 1)) (hl : ResL G wr r p) (hG : ∀ j, j < wr.heap.size → G j → gG E v sb w j ∧ j ≠ w.heap.size + 1) (hsb : sb < w.heap.size) (hE : ¬ E sb) (hno : rowOf v ≠ some sb) :
    ResL (gG E v sb w) (setRes wr (w.heap.size + 1) r p) r p ∧ OpM t B sb E L most v w (setRes wr (w.heap.size + 1) r p) ∧ Blk (setRes wr (w.heap.size + 1) r p) (w.heap.size + 1) t' (resCells r p) := by
  have hT := setRes_touch wr (w.heap.size + 1) r p
  refine ⟨hl.keep (Kept.touch hT (fun k hk hj => hG k hk hj)), ?_, setRes_blk r p hs⟩
  exact (hq.pass (hT.mono (fun k _ e => by rw [e]; exact hX)) hsb).done hsb hE hno

/-- What stands at the start. -/
theorem rgot_start {t tr : TypeId} {B sb : Nat} {E : Nat → Prop} {x : EnV} {T : List EnV} {most : Nat} {v : Value} {b : BkV} {w W : World} (h : QO t B w sb E (x :: T) most v) (hW : W = (w.alloc (.cells (bkCl b) 69)).alloc (.cells resZ tr)) :
    ∃ b0 o0 cv a, v = .slice (some ⟨b0, o0, none⟩) (x :: T).length cv ∧ (∀ i, W.cell? ⟨sb, i, none⟩ = (#[.slice (some ⟨b0, o0, none⟩) (x :: T).length cv, .int .i64 (most : Int)] : Array Value)[i]?) ∧
      (W.cell? ⟨b0, o0, none⟩ = some (.int .i64 x.kind) ∧ W.cell? ⟨b0, o0 + 1, none⟩ = some (.bool x.hide) ∧ W.cell? ⟨b0, o0 + 2, none⟩ = some (.string x.frm) ∧ W.cell? ⟨b0, o0 + 3, none⟩ = some (.string x.dst) ∧ W.cell? ⟨b0, o0 + 4, none⟩ = some (.slice a.pg x.good.length a.cg) ∧ W.cell? ⟨b0, o0 + 5, none⟩ = some (.slice a.pb x.bad.length a.cb) ∧ W.cell? ⟨b0, o0 + 6, none⟩ = some (.slice a.pc x.cache.length a.cc) ∧ W.cell? ⟨b0, o0 + 7, none⟩ = some (.slice a.pr x.reply.length a.cr)) ∧
      RgS tr E v sb w W x a b ∧ OpX t B sb E (x :: T) most v w (fun j => j = w.heap.size + 1) W ∧ W.heap.size = w.heap.size + 2 ∧ b0 < w.heap.size := by
  have hz : W.heap.size = w.heap.size + 2 := by rw [hW]; simp
  have hbW : Below w.heap.size w W := by rw [hW]; exact ((Below.refl _ _).alloc (Nat.le_refl _) _).alloc (by simp) _
  have hk : Blk W w.heap.size 69 (bkCl b) := by rw [hW]; exact (Blk.new _ _ _).alloc _
  have hr : Blk W (w.heap.size + 1) tr resZ := by
    rw [hW]
    have := Blk.new (w.alloc (.cells (bkCl b) 69)) tr resZ
    simpa using this
  have h' := h.weak (E' := fun k => E k ∧ k < w.heap.size) (fun k hk hE => ⟨hE, hk⟩) (fun e => h.noE e.1)
  obtain ⟨pv, cv, hv, hs0⟩ := h'.slice
  obtain ⟨b0, o0, a, rfl, hS, hbl, hL, _⟩ := en_at hs0 (k := 0) (by simp)
  obtain ⟨b1, o1, a1, e1, hS1, hbl1, hL1, c0, c1, c2, c3, c4, c5, c6, c7⟩ := en_at (hs0.below EnS.still hbW) (k := 0) (by simp)
  cases e1
  simp only [List.getElem_cons_zero, Nat.zero_mul, Nat.add_zero] at c0 c1 c2 c3 c4 c5 c6 c7 hL hL1
  have hq := (h.still hbW).blk.cell
  rw [hv] at hq
  refine ⟨b0, o0, cv, a1, hv, hq, ⟨c0, c1, c2, c3, c4, c5, c6, c7⟩, ⟨hk, hr, hL1.keep (Kept.mono _ (fun k hk e => ⟨e.imp And.left id, ?_, ?_⟩))⟩, ?_, hz, hbl⟩
  · rcases e with e | e
    · exact e.2
    · exact (h.own.row k e).2
  · rcases e with e | e
    · intro e'; exact h.noE (by rw [← e']; exact e.1)
    · intro e'; exact h.no (by rw [← e']; exact e)
  · exact (OpX.start h).grab hbW (fun j hj => (h.own.row j hj).2) (fun j e => .inr ⟨by omega, by omega⟩)

set_option maxRecDepth 100000 in
set_option maxHeartbeats 4000000 in
theorem rgot_none (B sb : Nat) (E : Nat → Prop) (most : Nat) (v : Value) (b : BkV) (w : World) (h : QO 88 B w sb E [] most v) :
    Calls Try.prog 41 #[.pointer (some ⟨sb, 0, none⟩), bkArg b] w (GotR 88 B sb E [] most v b.kind b.status w) := by
  have hsb := h.blk.lt
  have Hn := Lib.hid (And.intro h.noE (And.intro h.no (fun j hj => (h.own.row j hj).2 : ∀ j, rowOf v = some j → j < w.heap.size)))
  obtain ⟨W, hW⟩ : ∃ W, W = (w.alloc (.cells (bkCl b) 69)).alloc (.cells resZ 82) := ⟨_, rfl⟩
  have hbW : Below w.heap.size w W := by rw [hW]; exact ((Below.refl _ _).alloc (Nat.le_refl _) _).alloc (by simp) _
  have hz : W.heap.size = w.heap.size + 2 := by rw [hW]; simp
  have hr : Blk W (w.heap.size + 1) 82 resZ := by
    rw [hW]
    have := Blk.new (w.alloc (.cells (bkCl b) 69)) 82 resZ
    simpa using this
  obtain ⟨pv, cv, hv, _⟩ := h.slice
  have hq := (h.still hbW).blk.cell
  rw [hv] at hq
  dsimp only [List.length_nil] at hq
  have HX1 := Lib.hid ((OpX.start h).grab (Y := fun j => j = w.heap.size + 1) hbW Hn.out.2.2 (fun j e => .inr ⟨by omega, by omega⟩))
  have Hg : Hid (gotV [] b.kind b.status = (resZero, 10, [])) := Lib.hid (by simp [gotV])
  have HW := Lib.hid hW
  have Hv := Lib.hid hv
  have Hr := Lib.hid hr
  clear h hW hv hr hbW
  obtain ⟨bk, bs, bt, bn, bv, n, m, oa, oln, oc, ca, cln, cc, ra, rl, rc, fa, fl, fc⟩ := b
  unfold bkCl resZ at HW
  unfold bkArg
  dsimp only at HW Hg ⊢
  go_enter Try.func41, Try.ntmps41
  go_upto_region 1 with (fail)
  rw [← HW.out]
  clear HW
  go_quiet (fail)
  have Hr3 := Lib.hid (Hr.out.drewN nq)
  have HX3 := Lib.hid (HX1.out.still (bel_drewN W nq _ (Nat.le_refl _)) Hn.out.2.2)
  clear hq hz Hr HX1
  generalize W.drewN nq = w3 at *
  have hr3 := Hr3.out.cell
  have hf3 := Hr3.out.frozen
  unfold resZ at hr3
  go_wp2_with fail
  have hend := got_put' (G := fun j => gG E v sb w j ∧ j ≠ w.heap.size + 1) resZero resZeroP Hr3.out HX3.out rfl (resZero_l _ _) (fun _ _ e => e) hsb Hn.out.1 Hn.out.2.1
  obtain ⟨hK, hM, hC⟩ := hend
  have hcf := hC.cell
  unfold setRes resCells resZero resZeroP enZero enZeroP at hcf
  unfold setRes resZero resZeroP enZero enZeroP at hK hM
  dsimp only [List.length_nil] at hK hM hcf
  have HK := Lib.hid hK
  have HM := Lib.hid hM
  clear hK hM hC hr3 hf3
  refine bodyPost_ret (v := .tuple #[.agg #[.bool false, .int .i64 0, .bool false, .string ⟨#[]⟩, .string ⟨#[]⟩, .slice none 0 0, .slice none 0 0, .slice none 0 0, .slice none 0 0, .slice none 0 0, .slice none 0 0, .slice none 0 0, .int .u8 0], .int .i64 10]) (by simp [results, Try.results41, go_sem, hcf]) rfl ?_
  unfold GotR
  rw [Hg.out]
  exact ⟨resZeroP, by simp [resArg, resCells, resZero, resZeroP, enZero, enZeroP], HK.out, HM.out⟩

set_option maxRecDepth 100000 in
set_option maxHeartbeats 4000000 in
theorem rgot_untaken (B sb : Nat) (E : Nat → Prop) (x : EnV) (T : List EnV) (most : Nat) (v : Value) (b : BkV) (w : World) (h : QO 88 B w sb E (x :: T) most v) (hb0 : 0 ≤ b.kind) (hb1 : b.kind < 256) (ht : takesB x.kind b.kind = false) :
    Calls Try.prog 41 #[.pointer (some ⟨sb, 0, none⟩), bkArg b] w (GotR 88 B sb E (x :: T) most v b.kind b.status w) := by
  have hsb := h.blk.lt
  have Hn := Lib.hid (And.intro h.noE (And.intro h.no (fun j hj => (h.own.row j hj).2 : ∀ j, rowOf v = some j → j < w.heap.size)))
  obtain ⟨W, hW⟩ : ∃ W, W = (w.alloc (.cells (bkCl b) 69)).alloc (.cells resZ 82) := ⟨_, rfl⟩
  obtain ⟨b0, o0, cv, a, hv, hq, ⟨c0, c1, c2, c3, c4, c5, c6, c7⟩, hs, hx, hz, hbl⟩ := rgot_start h hW
  have Hs1 := Lib.hid hs
  have HX1 := Lib.hid hx
  have Hg : Hid (gotV (x :: T) b.kind b.status = (resZero, 10, x :: T)) := Lib.hid (by simp [gotV, ht])
  have Htk := Lib.hid (fun w0 => takesR_any x.kind b.kind w0 hb0 hb1)
  rw [ht] at Htk
  have hl0 : ((((x :: T).length : Nat) : Int) == 0) = false := by simp; omega
  have hl1 : (0 : Int) < ((x :: T).length : Int) := by simp
  generalize (x :: T).length = N at *
  have HW := Lib.hid hW
  have Hv := Lib.hid hv
  clear h hs hx hW hv ht hz
  obtain ⟨bk, bs, bt, bn, bv, n, m, oa, oln, oc, ca, cln, cc, ra, rl, rc, fa, fl, fc⟩ := b
  have hk := Hs1.out.bb.cell
  unfold bkCl at HW hk
  unfold resZ at HW
  unfold bkArg
  dsimp only at *
  go_enter Try.func41, Try.ntmps41
  go_upto_region 1 with (fail)
  rw [← HW.out]
  clear HW
  have Htq : Hid (∀ r, Calls Try.prog 45 #[.int .i64 x.kind, .int .u8 bk] (W.drewN r) fun e w' => e = .returned (.bool false) ∧ w' = W.drewN r) := Lib.hid (fun r => (Htk.out _).mono (fun e w' h => ⟨h.1, h.2.symm⟩))
  go_quiet ((go_at_call 45; exact Calls.quiet_of_same (Htq.out _)))
  have Hs3 := Lib.hid (Hs1.out.below (bel_drewN W nq _ (Nat.le_refl _)))
  have HX3 := Lib.hid (HX1.out.still (bel_drewN W nq _ (Nat.le_refl _)) Hn.out.2.2)
  clear hq hk c0 c1 c2 c3 c4 c5 c6 c7 Hs1 HX1
  generalize W.drewN nq = w3 at *
  have hr3 := Hs3.out.bo.cell
  have hf3 := Hs3.out.bo.frozen
  unfold resZ at hr3
  go_wp2_with fail
  have hend := got_put' (G := fun j => gG E v sb w j ∧ j ≠ w.heap.size + 1) resZero resZeroP Hs3.out.bo HX3.out rfl (resZero_l _ _) (fun _ _ e => e) hsb Hn.out.1 Hn.out.2.1
  obtain ⟨hK, hM, hC⟩ := hend
  have hcf := hC.cell
  unfold setRes resCells resZero resZeroP enZero enZeroP at hcf
  unfold setRes resZero resZeroP enZero enZeroP at hK hM
  dsimp only [List.length_nil] at hK hM hcf
  have HK := Lib.hid hK
  have HM := Lib.hid hM
  clear hK hM hC hr3 hf3
  refine bodyPost_ret (v := .tuple #[.agg #[.bool false, .int .i64 0, .bool false, .string ⟨#[]⟩, .string ⟨#[]⟩, .slice none 0 0, .slice none 0 0, .slice none 0 0, .slice none 0 0, .slice none 0 0, .slice none 0 0, .slice none 0 0, .int .u8 0], .int .i64 10]) (by simp [results, Try.results41, go_sem, hcf]) rfl ?_
  unfold GotR
  rw [Hg.out]
  exact ⟨resZeroP, by simp [resArg, resCells, resZero, resZeroP, enZero, enZeroP], HK.out, HM.out⟩

end Go.Proofs.Ytjfhpafaopeogaa
