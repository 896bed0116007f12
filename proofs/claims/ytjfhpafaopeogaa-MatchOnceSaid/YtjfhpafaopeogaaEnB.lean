/-
  The contract of queue.copied (layer 21).
-/
import Derived.Test.YtjfhpafaopeogaaEnA
namespace Go.Proofs.Ytjfhpafaopeogaa
open Go.RowKit

def enZ : Array Value := #[.int .i64 0, .bool false, .string ⟨#[]⟩, .string ⟨#[]⟩, .slice none 0 0, .slice none 0 0, .slice none 0 0, .slice none 0 0]

/-- An entry's lists are short. -/
def EnSmall (x : EnV) : Prop := x.good.length ≤ 1000 ∧ x.bad.length ≤ 1000 ∧ x.cache.length ≤ 1000 ∧ x.reply.length ≤ 1000000

theorem below_dropN {B : Nat} {w w' : World} (h : Below B w.drew w') (hB : B ≤ w.heap.size) : Below B w w' := by
  have hd : Below B w w.drew := ((Touch.refl (fun _ => False) w).drew).below hB (fun k e => e.elim)
  exact hd.trans h

/-- What the two blocks of 'copied' hold. -/
structure CpI (w0 w : World) (x : EnV) (a : EnP) (cs : Array Value) : Prop where
  b1 : Blk w w0.heap.size 52 cs
  b2 : Blk w (w0.heap.size + 1) 52 enZ
  good : SliceS 3 OpS (fun k => k < w0.heap.size) w [.slice a.pg x.good.length a.cg] x.good
  bad : SliceS 3 OpS (fun k => k < w0.heap.size) w [.slice a.pb x.bad.length a.cb] x.bad
  cache : SliceS 2 CaS (fun k => k < w0.heap.size) w [.slice a.pc x.cache.length a.cc] x.cache
  reply : BytesS (fun k => k < w0.heap.size) w [.slice a.pr x.reply.length a.cr] x.reply
  bel : Below w0.heap.size w0 w

theorem CpI.step {w0 w w' : World} {x : EnV} {a : EnP} {cs : Array Value} (h : CpI w0 w x a cs) (hb : Below w.heap.size w w') : CpI w0 w' x a cs :=
  ⟨h.b1.below hb h.b1.lt, h.b2.below hb h.b2.lt, h.good.below OpS.still hb, h.bad.below OpS.still hb, h.cache.below CaS.still hb, BytesS.still _ _ _ _ _ _ h.reply (Kept.all hb), h.bel.trans (hb.mono h.bel.size)⟩

theorem CpI.set {w0 w : World} {x : EnV} {a : EnP} {cs : Array Value} (h : CpI w0 w x a cs) (i : Nat) (u : Value) : CpI w0 (w.setCell ⟨w0.heap.size, i, none⟩ u) x a (cs.setIfInBounds i u) := by
  have hT : Touch (fun k => k = w0.heap.size) w (w.setCell ⟨w0.heap.size, i, none⟩ u) := (Touch.refl (fun k => k = w0.heap.size) w).setCell (x := ⟨w0.heap.size, i, none⟩) (fun _ => rfl) u
  have hk : Kept (fun k => k < w0.heap.size) (fun k => k < w0.heap.size) w (w.setCell ⟨w0.heap.size, i, none⟩ u) := Kept.touch hT (fun k _ hs => ⟨hs, by omega⟩)
  exact ⟨h.b1.set_ i u, hT.blk h.b2 (by omega), (SliceS.still OpS.still) _ _ _ _ _ _ h.good hk, (SliceS.still OpS.still) _ _ _ _ _ _ h.bad hk, (SliceS.still CaS.still) _ _ _ _ _ _ h.cache hk, BytesS.still _ _ _ _ _ _ h.reply hk, h.bel.trans (hT.below h.bel.size (fun k hk => by omega))⟩

theorem CpI.start {S : Nat → Prop} {w : World} {x : EnV} {a : EnP} (h : EnL S w x a) : CpI w ((w.alloc (.cells #[.int .i64 x.kind, .bool x.hide, .string x.frm, .string x.dst, .slice a.pg x.good.length a.cg, .slice a.pb x.bad.length a.cb, .slice a.pc x.cache.length a.cc, .slice a.pr x.reply.length a.cr] 52)).alloc (.cells enZ 52)) x a
    #[.int .i64 x.kind, .bool x.hide, .string x.frm, .string x.dst, .slice a.pg x.good.length a.cg, .slice a.pb x.bad.length a.cb, .slice a.pc x.cache.length a.cc, .slice a.pr x.reply.length a.cr] := by
  have hb : Below w.heap.size w ((w.alloc (.cells #[.int .i64 x.kind, .bool x.hide, .string x.frm, .string x.dst, .slice a.pg x.good.length a.cg, .slice a.pb x.bad.length a.cb, .slice a.pc x.cache.length a.cc, .slice a.pr x.reply.length a.cr] 52)).alloc (.cells enZ 52)) := ((Below.refl _ _).alloc (Nat.le_refl _) _).alloc (by simp) _
  have h' := h.keep (Kept.mono (S' := fun k => k < w.heap.size) w (fun k hk _ => hk))
  have h2 := h'.keep (Kept.all hb)
  refine ⟨(Blk.new _ _ _).alloc _, ?_, h2.good, h2.bad, h2.cache, h2.reply, hb⟩
  have := Blk.new (w.alloc (.cells #[.int .i64 x.kind, .bool x.hide, .string x.frm, .string x.dst, .slice a.pg x.good.length a.cg, .slice a.pb x.bad.length a.cb, .slice a.pc x.cache.length a.cc, .slice a.pr x.reply.length a.cr] 52)) 52 enZ
  simpa using this

def Flat {α : Type} (R : Rd α) : Prop := ∀ (S S' : Nat → Prop) (w w' : World) (cs : List Value) (x : α), R S w cs x → R S' w' cs x
theorem OpS.flat : Flat OpS := fun _ _ _ _ _ _ h => h
theorem CaS.flat : Flat CaS := fun _ _ _ _ _ _ h => h

theorem OwnS.fresh {α : Type} {B : Nat} {e : TypeId} {n : Nat} {R : Rd α} {S : Nat → Prop} {w : World} {v : Value} {xs : List α} (hF : Flat R) (h : OwnS B e n R S w v xs) (S' : Nat → Prop) (hS : ∀ k, B ≤ k → S' k) :
    ∃ p c, v = .slice p xs.length c ∧ SliceS n R S' w [.slice p xs.length c] xs := by
  obtain ⟨css, h1, h2⟩ := h
  have h3 : OwnS B e n R S' w v xs := ⟨css, h1, h2.imp (fun _ _ ⟨k1, k2⟩ => ⟨k1, hF _ _ _ _ _ _ k2⟩)⟩
  exact h3.slice (fun _ _ _ _ _ _ h _ => hF _ _ _ _ _ _ h) (fun _ _ h => h) (fun k hk => hS k (h3.row k hk).1)

def Cut1 (w wx : World) (x : EnV) (a : EnP) : Prop :=
  ∃ pg cg pb cb, CpI w wx x a #[.int .i64 x.kind, .bool x.hide, .string x.frm, .string x.dst, .slice pg x.good.length cg, .slice pb x.bad.length cb, .slice a.pc x.cache.length a.cc, .slice a.pr x.reply.length a.cr] ∧
    SliceS 3 OpS (fun k => w.heap.size + 2 ≤ k) wx [.slice pg x.good.length cg] x.good ∧ SliceS 3 OpS (fun k => w.heap.size + 2 ≤ k) wx [.slice pb x.bad.length cb] x.bad

theorem kept_set2 {w w3 : World} (i j : Nat) (u v : Value) : Kept (fun k => w.heap.size + 2 ≤ k) (fun k => w.heap.size + 2 ≤ k) w3 ((w3.setCell ⟨w.heap.size, i, none⟩ u).setCell ⟨w.heap.size, j, none⟩ v) :=
  Kept.touch (((Touch.refl (fun k => k = w.heap.size) w3).setCell (x := ⟨w.heap.size, i, none⟩) (fun _ => rfl) u).setCell (x := ⟨w.heap.size, j, none⟩) (fun _ => rfl) v) (fun k _ hs => ⟨hs, by omega⟩)

theorem cut1_end {w w3 : World} {x : EnV} {a : EnP} {pg pb : Option Addr} {cg cb : Nat}
    (h : CpI w w3 x a #[.int .i64 x.kind, .bool x.hide, .string x.frm, .string x.dst, .slice a.pg x.good.length a.cg, .slice a.pb x.bad.length a.cb, .slice a.pc x.cache.length a.cc, .slice a.pr x.reply.length a.cr])
    (h1 : SliceS 3 OpS (fun k => w.heap.size + 2 ≤ k) w3 [.slice pg x.good.length cg] x.good) (h2 : SliceS 3 OpS (fun k => w.heap.size + 2 ≤ k) w3 [.slice pb x.bad.length cb] x.bad) :
    Cut1 w ((w3.setCell ⟨w.heap.size, 4, none⟩ (.slice pg x.good.length cg)).setCell ⟨w.heap.size, 5, none⟩ (.slice pb x.bad.length cb)) x a := by
  refine ⟨pg, cg, pb, cb, ?_, (SliceS.still OpS.still) _ _ _ _ _ _ h1 (kept_set2 4 5 _ _), (SliceS.still OpS.still) _ _ _ _ _ _ h2 (kept_set2 4 5 _ _)⟩
  have := (h.set 4 (.slice pg x.good.length cg)).set 5 (.slice pb x.bad.length cb)
  simpa using this

def Cut2 (w wx : World) (x : EnV) (a : EnP) : Prop :=
  ∃ a', CpI w wx x a #[.int .i64 x.kind, .bool x.hide, .string x.frm, .string x.dst, .slice a'.pg x.good.length a'.cg, .slice a'.pb x.bad.length a'.cb, .slice a'.pc x.cache.length a'.cc, .slice a'.pr x.reply.length a'.cr] ∧
    EnL (fun k => w.heap.size + 2 ≤ k) wx x a'

theorem cut2_end {w w3 : World} {x : EnV} {a : EnP} {pg pb pc pr : Option Addr} {cg cb cc cr : Nat}
    (h : CpI w w3 x a #[.int .i64 x.kind, .bool x.hide, .string x.frm, .string x.dst, .slice pg x.good.length cg, .slice pb x.bad.length cb, .slice a.pc x.cache.length a.cc, .slice a.pr x.reply.length a.cr])
    (h1 : SliceS 3 OpS (fun k => w.heap.size + 2 ≤ k) w3 [.slice pg x.good.length cg] x.good) (h2 : SliceS 3 OpS (fun k => w.heap.size + 2 ≤ k) w3 [.slice pb x.bad.length cb] x.bad)
    (h3 : SliceS 2 CaS (fun k => w.heap.size + 2 ≤ k) w3 [.slice pc x.cache.length cc] x.cache) (h4 : BytesS (fun k => w.heap.size + 2 ≤ k) w3 [.slice pr x.reply.length cr] x.reply) :
    Cut2 w ((w3.setCell ⟨w.heap.size, 6, none⟩ (.slice pc x.cache.length cc)).setCell ⟨w.heap.size, 7, none⟩ (.slice pr x.reply.length cr)) x a := by
  refine ⟨⟨pg, cg, pb, cb, pc, cc, pr, cr⟩, ?_, (SliceS.still OpS.still) _ _ _ _ _ _ h1 (kept_set2 6 7 _ _), (SliceS.still OpS.still) _ _ _ _ _ _ h2 (kept_set2 6 7 _ _), (SliceS.still CaS.still) _ _ _ _ _ _ h3 (kept_set2 6 7 _ _), BytesS.still _ _ _ _ _ _ h4 (kept_set2 6 7 _ _)⟩
  have := (h.set 6 (.slice pc x.cache.length cc)).set 7 (.slice pr x.reply.length cr)
  simpa using this

theorem bytesS_fresh {B : Nat} {w : World} {v : Value} {l : List UInt8} (h : OwnBR B w v l) (S' : Nat → Prop) (hS : ∀ k, B ≤ k → S' k) : ∃ p c, v = .slice p l.length c ∧ BytesS S' w [.slice p l.length c] l := h.bytesS hS

theorem bytesS_below {S : Nat → Prop} {w w' : World} {cs : List Value} {l : List UInt8} (h : BytesS S w cs l) (hb : Below w.heap.size w w') : BytesS S w' cs l := h.below hb

set_option maxRecDepth 100000 in
set_option maxHeartbeats 4000000 in
theorem copied_any (S : Nat → Prop) (x : EnV) (a : EnP) (w : World) (h : EnL S w x a) (hs : EnSmall x) :
    Calls Try.prog 105 #[enArg x a] w fun e w' => ∃ a', e = .returned (enArg x a') ∧ EnL (fun k => w.heap.size ≤ k) w' x a' ∧ Below w.heap.size w w' := by
  have H0 := Lib.hid (CpI.start h)
  have Hsz0 : Hid (w.heap.size + 2 ≤ ((w.alloc (.cells #[.int .i64 x.kind, .bool x.hide, .string x.frm, .string x.dst, .slice a.pg x.good.length a.cg, .slice a.pb x.bad.length a.cb, .slice a.pc x.cache.length a.cc, .slice a.pr x.reply.length a.cr] 52)).alloc (.cells enZ 52)).heap.size) := Lib.hid (by simp)
  obtain ⟨s1, s2, s3, s4⟩ := hs
  have S1 : Hid (x.good.length ≤ 100000000) := Lib.hid (by omega)
  have S2 : Hid (x.bad.length ≤ 100000000) := Lib.hid (by omega)
  have S3 : Hid (x.cache.length ≤ 100000000) := Lib.hid (by omega)
  have S4 : Hid (x.reply.length ≤ 1000000000) := Lib.hid (by omega)
  clear h s1 s2 s3 s4
  obtain ⟨xk, xh, xf, xd, xg, xb, xc, xr⟩ := x
  obtain ⟨pg, cg, pb, cb, pc, cc, pr, cr⟩ := a
  unfold enArg
  unfold enZ at H0 Hsz0
  dsimp only at *
  go_enter Try.func105, Try.ntmps105
  go_upto_region 1 with (fail)
  generalize (w.alloc (.cells #[.int .i64 xk, .bool xh, .string xf, .string xd, .slice pg xg.length cg, .slice pb xb.length cb, .slice pc xc.length cc, .slice pr xr.length cr] 52)).alloc (.cells #[.int .i64 0, .bool false, .string ⟨#[]⟩, .string ⟨#[]⟩, .slice none 0 0, .slice none 0 0, .slice none 0 0, .slice none 0 0] 52) = w1 at *
  have hc1 := H0.out.b1.cell
  have hsz1 := Hsz0.out
  go_cut [] (fun wx => Cut1 w wx ⟨xk, xh, xf, xd, xg, xb, xc, xr⟩ ⟨pg, cg, pb, cb, pc, cc, pr, cr⟩)
  case first =>
    go_region_with (first
      | (go_at_call 129; refine (clone_ops _ pb _ cb xb _ HG.out.bad S2.out).mono ?_; rintro e w3 ⟨v3, rfl, ho3, hb3⟩; have hsz3 := hb3.size; obtain ⟨p3, c3, rfl, hs3⟩ := ho3.fresh OpS.flat (fun k => w.heap.size + 2 ≤ k) (fun k hk => by omega); have HR3 := Lib.hid hs3; have HR2' := Lib.hid (HR2.out.below OpS.still hb3); have HB := Lib.hid (HG.out.step hb3); have hcB := HB.out.b1.cell; have hf4 := HB.out.b1.frozen 4; have hf5 := HB.out.b1.frozen 5; clear ho3 hb3 hs3)
      | (go_at_call 129; refine (clone_ops _ pg _ cg xg _ (H0.out.step (below_dropN (w := w1) (Below.refl _ _) (Nat.le_refl _))).good S1.out).mono ?_; rintro e w2 ⟨v2, rfl, ho2, hb2⟩; obtain ⟨p2, c2, rfl, hs2⟩ := ho2.fresh OpS.flat (fun k => w.heap.size + 2 ≤ k) (fun k hk => Nat.le_trans hsz1 hk); have HR2 := Lib.hid hs2; have HG := Lib.hid (H0.out.step (below_dropN (w := w1) hb2 (Nat.le_refl _))); have hcG := HG.out.b1.cell; have hsz2 : w.heap.size + 2 ≤ w2.heap.size := Nat.le_trans hsz1 hb2.size; clear ho2 hb2 hs2))
    all_goals
      go_wp2_with fail
      go_meet
      exact cut1_end HB.out HR2'.out HR3.out
  case rest =>
    obtain ⟨p2, c2, p3, c3, hcp, hr2, hr3⟩ := hcut
    have H1 := Lib.hid hcp
    have hc5 := hcp.b1.cell
    have hsz5 : w.heap.size + 2 ≤ wc.heap.size := by have := hcp.b2.lt; omega
    have HR2 := Lib.hid hr2
    have HR3 := Lib.hid hr3
    clear hc1 H0 hcp hr2 hr3
    dsimp only at hc5 H1 HR2 HR3
    go_upto_region 2 with (fail)
    go_cut [] (fun wx => Cut2 w wx ⟨xk, xh, xf, xd, xg, xb, xc, xr⟩ ⟨pg, cg, pb, cb, pc, cc, pr, cr⟩)
    case first =>
      go_region_with (first
        | (go_at_call 130; refine (clone_cas _ pc _ cc xc _ (H1.out.step (below_dropN (w := wc) (Below.refl _ _) (Nat.le_refl _))).cache S3.out).mono ?_; rintro e w6 ⟨v6, rfl, ho6, hb6⟩; obtain ⟨p6, c6, rfl, hs6⟩ := ho6.fresh CaS.flat (fun k => w.heap.size + 2 ≤ k) (fun k hk => Nat.le_trans hsz5 hk); have HR6 := Lib.hid hs6; have hb56 := below_dropN (w := wc) hb6 (Nat.le_refl _); have HR26 := Lib.hid (HR2.out.below OpS.still hb56); have HR36 := Lib.hid (HR3.out.below OpS.still hb56); have HG := Lib.hid (H1.out.step hb56); have hcG := HG.out.b1.cell; have hsz6 : w.heap.size + 2 ≤ w6.heap.size := Nat.le_trans hsz5 hb6.size; clear ho6 hb6 hs6 hb56)
        | (go_at_call 131; refine (sclone_any pr xr cr _ S4.out HG.out.reply.parts.2.2.2).mono ?_; rintro e w7 ⟨v7, rfl, ho7, hb7⟩; have hsz7 := hb7.size; obtain ⟨p7, c7, rfl, hs7⟩ := bytesS_fresh ho7 (fun k => w.heap.size + 2 ≤ k) (fun k hk => by omega); have HR7 := Lib.hid hs7; have HR6' := Lib.hid (HR6.out.below CaS.still hb7); have HR27 := Lib.hid (HR26.out.below OpS.still hb7); have HR37 := Lib.hid (HR36.out.below OpS.still hb7); have HB := Lib.hid (HG.out.step hb7); have hcB := HB.out.b1.cell; have hf6 := HB.out.b1.frozen 6; have hf7 := HB.out.b1.frozen 7; clear ho7 hb7 hs7))
      all_goals
        go_wp2_with fail
        go_meet
        exact cut2_end HB.out HR27.out HR37.out HR6'.out HR7.out
    case rest =>
      obtain ⟨⟨pg', cg', pb', cb', pc', cc', pr', cr'⟩, hcp, hl⟩ := hcut
      have hB9 := hcp.bel
      have hc9 := hcp.b1.cell
      have hd9 := hcp.b2.cell
      have hg9 := hcp.b2.frozen
      have HB2 := Lib.hid hcp.b2
      have HL := Lib.hid hl
      have hsz9 : w.heap.size + 2 ≤ wc.heap.size := by have := hcp.b2.lt; omega
      clear H1 hcp hl hc5
      dsimp only at hc9
      unfold enZ at hd9
      go_wp2_with fail
      have hT : Touch (fun k => k = w.heap.size + 1) wc ((((((((wc.setCell ⟨w.heap.size + 1, 0, none⟩ (.int .i64 xk)).setCell ⟨w.heap.size + 1, 1, none⟩ (.bool xh)).setCell ⟨w.heap.size + 1, 2, none⟩ (.string xf)).setCell ⟨w.heap.size + 1, 3, none⟩ (.string xd)).setCell ⟨w.heap.size + 1, 4, none⟩ (.slice pg' xg.length cg')).setCell ⟨w.heap.size + 1, 5, none⟩ (.slice pb' xb.length cb')).setCell ⟨w.heap.size + 1, 6, none⟩ (.slice pc' xc.length cc')).setCell ⟨w.heap.size + 1, 7, none⟩ (.slice pr' xr.length cr')) :=
        ((((((((Touch.refl (fun k => k = w.heap.size + 1) wc).setCell (x := ⟨w.heap.size + 1, 0, none⟩) (fun _ => rfl) _).setCell (x := ⟨w.heap.size + 1, 1, none⟩) (fun _ => rfl) _).setCell (x := ⟨w.heap.size + 1, 2, none⟩) (fun _ => rfl) _).setCell (x := ⟨w.heap.size + 1, 3, none⟩) (fun _ => rfl) _).setCell (x := ⟨w.heap.size + 1, 4, none⟩) (fun _ => rfl) _).setCell (x := ⟨w.heap.size + 1, 5, none⟩) (fun _ => rfl) _).setCell (x := ⟨w.heap.size + 1, 6, none⟩) (fun _ => rfl) _).setCell (x := ⟨w.heap.size + 1, 7, none⟩) (fun _ => rfl) _
      have hbf : Blk ((((((((wc.setCell ⟨w.heap.size + 1, 0, none⟩ (.int .i64 xk)).setCell ⟨w.heap.size + 1, 1, none⟩ (.bool xh)).setCell ⟨w.heap.size + 1, 2, none⟩ (.string xf)).setCell ⟨w.heap.size + 1, 3, none⟩ (.string xd)).setCell ⟨w.heap.size + 1, 4, none⟩ (.slice pg' xg.length cg')).setCell ⟨w.heap.size + 1, 5, none⟩ (.slice pb' xb.length cb')).setCell ⟨w.heap.size + 1, 6, none⟩ (.slice pc' xc.length cc')).setCell ⟨w.heap.size + 1, 7, none⟩ (.slice pr' xr.length cr')) (w.heap.size + 1) 52 #[.int .i64 xk, .bool xh, .string xf, .string xd, .slice pg' xg.length cg', .slice pb' xb.length cb', .slice pc' xc.length cc', .slice pr' xr.length cr'] := by
        have h8 := (((((((HB2.out.set_ 0 (.int .i64 xk)).set_ 1 (.bool xh)).set_ 2 (.string xf)).set_ 3 (.string xd)).set_ 4 (.slice pg' xg.length cg')).set_ 5 (.slice pb' xb.length cb')).set_ 6 (.slice pc' xc.length cc')).set_ 7 (.slice pr' xr.length cr')
        unfold enZ at h8
        simpa using h8
      have HKeep : Hid (EnL (fun k => w.heap.size ≤ k) _ ⟨xk, xh, xf, xd, xg, xb, xc, xr⟩ ⟨pg', cg', pb', cb', pc', cc', pr', cr'⟩) := Lib.hid (HL.out.keep (S' := fun k => w.heap.size ≤ k) (Kept.touch hT (fun k _ hs => ⟨by omega, by omega⟩)))
      have HBel : Hid (Below w.heap.size w _) := Lib.hid (hB9.trans (hT.below (B := w.heap.size) (by omega) (fun k hk => by omega)))
      generalize ((((((((wc.setCell ⟨w.heap.size + 1, 0, none⟩ (.int .i64 xk)).setCell ⟨w.heap.size + 1, 1, none⟩ (.bool xh)).setCell ⟨w.heap.size + 1, 2, none⟩ (.string xf)).setCell ⟨w.heap.size + 1, 3, none⟩ (.string xd)).setCell ⟨w.heap.size + 1, 4, none⟩ (.slice pg' xg.length cg')).setCell ⟨w.heap.size + 1, 5, none⟩ (.slice pb' xb.length cb')).setCell ⟨w.heap.size + 1, 6, none⟩ (.slice pc' xc.length cc')).setCell ⟨w.heap.size + 1, 7, none⟩ (.slice pr' xr.length cr')) = wf at *
      have hcf := hbf.cell
      clear hc9 hd9 hg9 hbf hT hB9 HB2 HL
      exact bodyPost_ret (v := .agg #[.int .i64 xk, .bool xh, .string xf, .string xd, .slice pg' xg.length cg', .slice pb' xb.length cb', .slice pc' xc.length cc', .slice pr' xr.length cr']) (by simp [results, Try.results105, go_sem, hcf]) rfl ⟨⟨pg', cg', pb', cb', pc', cc', pr', cr'⟩, rfl, HKeep.out, HBel.out⟩

end Go.Proofs.Ytjfhpafaopeogaa
