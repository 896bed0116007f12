/-
  What becomes of a reply: Got, of the program, where nothing is taken off (layer 22).
-/
import Derived.Test.YtjfhpafaopeogaaMaC
namespace Go.Proofs.Ytjfhpafaopeogaa
open Go.RowKit
set_option linter.unusedVariables false
set_option linter.unusedSimpArgs false

/-- The answer laid into its place. -/
theorem got_put {B sb ge : Nat} {E X G : Nat → Prop} {L : List EnV} {most : Nat} {v : Value} {w wr : World} {t t' : TypeId} {x : EnV} {a : EnP} {b : BkV} (r : ResV) (p : ResP)
    (hs : GotS t' w wr ge x a b) (hq : OpX t B sb E L most v w X wr) (hX : X (w.heap.size + 1)) (hl : ResL G wr r p) (hG : ∀ j, j < wr.heap.size → G j → gG E v sb w j ∧ j ≠ w.heap.size + 1) (hsb : sb < w.heap.size) (hE : ¬ E sb) (hno : rowOf v ≠ some sb) :
    ResL (gG E v sb w) (setRes wr (w.heap.size + 1) r p) r p ∧ OpM t B sb E L most v w (setRes wr (w.heap.size + 1) r p) ∧ Blk (setRes wr (w.heap.size + 1) r p) (w.heap.size + 1) t' (resCells r p) := by
  have hT := setRes_touch wr (w.heap.size + 1) r p
  refine ⟨hl.keep (Kept.touch hT (fun k hk hj => hG k hk hj)), ?_, setRes_blk r p hs.bo⟩
  exact (hq.pass (hT.mono (fun k _ e => by rw [e]; exact hX)) hsb).done hsb hE hno

set_option maxRecDepth 100000 in
set_option maxHeartbeats 4000000 in
theorem got_untaken (B sb : Nat) (E : Nat → Prop) (x : EnV) (T : List EnV) (most : Nat) (v : Value) (b : BkV) (w : World) (h : QO 126 B w sb E (x :: T) most v) (hB : B ≤ w.heap.size) (ht : takesB x.kind b.kind = false) :
    Calls Try.prog 32 #[.pointer (some ⟨sb, 0, none⟩), bkArg b] w (GotR 126 B sb E (x :: T) most v b.kind b.status w) := by
  have hsb := h.blk.lt
  have Hn := Lib.hid (And.intro h.noE (And.intro h.no (fun j hj => (h.own.row j hj).2 : ∀ j, rowOf v = some j → j < w.heap.size)))
  have HX0 := Lib.hid (OpX.start h)
  have hbW : Below w.heap.size w ((w.alloc (.cells (bkCl b) 69)).alloc (.cells resZ 62)) := ((Below.refl _ _).alloc (Nat.le_refl _) _).alloc (by simp) _
  have Hh := Lib.hid (qHead_some B sb E x T most v _ (h.still hbW))
  have Hs := Lib.hid (fun a w1 hl hb => got_start (t := 62) (w := w) (w1 := w1) x a b rfl hl hb)
  have Hg : Hid (gotV (x :: T) b.kind b.status = (resZero, 10, x :: T)) := Lib.hid (by simp [gotV, ht])
  have Htk := Lib.hid (fun w0 => takes_any x.kind b.kind w0)
  rw [ht] at Htk
  clear h hbW ht
  obtain ⟨bk, bs, bt, bn, bv, n, m, oa, oln, oc, ca, cln, cc, ra, rl, rc, fa, fl, fc⟩ := b
  obtain ⟨xk, xh, xf, xd, xg, xb, xc, xr⟩ := x
  unfold bkCl resZ enCl at Hs
  unfold bkCl resZ at Hh
  unfold bkArg
  dsimp only at Hh Hs Hg Htk ⊢
  go_enter Try.func32, Try.ntmps32
  go_wp2_with fail
  refine Hh.out.mono ?_
  rintro e w1 ⟨⟨pg, cg, pb, cb, pc, cc', pr, cr⟩, rfl, hl1, hb1⟩
  obtain ⟨hs2, hb2⟩ := Hs.out _ _ hl1 hb1
  dsimp only at hs2 hb2
  unfold enArg
  dsimp only
  go_upto_region 2 with (fail)
  have hHX := HX0.out.grab (Y := fun j => j = w.heap.size + 1) hb2 Hn.out.2.2 (fun j e => .inr ⟨by omega, by rw [e]; exact hs2.bo.lt⟩)
  have HX2 := Lib.hid hHX
  have Hs2 := Lib.hid hs2
  have hz2 := hs2.be.lt
  clear hl1 hb1 Hh Hs hHX hb2 HX0
  generalize w1.alloc (.cells #[.int .i64 xk, .bool xh, .string xf, .string xd, .slice pg xg.length cg, .slice pb xb.length cb, .slice pc xc.length cc', .slice pr xr.length cr] 52) = w2 at *
  generalize w1.heap.size = ge at *
  have he2 := hs2.be.cell
  have hk2 := hs2.bb.cell
  unfold enCl at he2
  unfold bkCl at hk2
  dsimp only at he2 hk2
  clear hs2
  go_wp2_with (go_at_call 70; refine (Htk.out _).mono ?_; rintro e w3 ⟨rfl, hb3⟩; have HX3 := Lib.hid (HX2.out.still hb3 Hn.out.2.2); have hs3 := Hs2.out.below hb3; have Hs3 := Lib.hid hs3; have hr3 := hs3.bo.cell; have hf3 := hs3.bo.frozen; unfold resZ at hr3; clear he2 hk2 hb3 Hs2 HX2 hs3)
  have hend := got_put (G := fun j => gG E v sb w j ∧ j ≠ w.heap.size + 1) resZero resZeroP Hs3.out HX3.out rfl (resZero_l _ _) (fun _ _ e => e) hsb Hn.out.1 Hn.out.2.1
  obtain ⟨hK, hM, hC⟩ := hend
  have hcf := hC.cell
  unfold setRes resCells resZero resZeroP enZero enZeroP at hcf
  unfold setRes resZero resZeroP enZero enZeroP at hK hM
  dsimp only [List.length_nil] at hK hM hcf
  have HK := Lib.hid hK
  have HM := Lib.hid hM
  clear hK hM hC hr3 hf3
  refine bodyPost_ret (v := .tuple #[.agg #[.bool false, .int .i64 0, .bool false, .string ⟨#[]⟩, .string ⟨#[]⟩, .slice none 0 0, .slice none 0 0, .slice none 0 0, .slice none 0 0, .slice none 0 0, .slice none 0 0, .slice none 0 0, .int .u8 0], .int .i64 10]) (by simp [results, Try.results32, go_sem, hcf]) rfl ?_
  unfold GotR
  rw [Hg.out]
  exact ⟨resZeroP, by simp [resArg, resCells, resZero, resZeroP, enZero, enZeroP], HK.out, HM.out⟩

end Go.Proofs.Ytjfhpafaopeogaa
