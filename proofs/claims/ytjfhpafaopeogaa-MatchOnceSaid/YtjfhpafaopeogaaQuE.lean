/-
  Queue's Head and Pop (layer 21).
-/
import Derived.Test.YtjfhpafaopeogaaQuD
namespace Go.Proofs.Ytjfhpafaopeogaa
open Go.RowKit
set_option linter.unusedVariables false
set_option linter.unusedSimpArgs false

/-- An entry is stored into a block of its own. -/
abbrev setEn (w : World) (g : Nat) (x : EnV) (a : EnP) : World :=
  ((((((((w.setCell ⟨g, 0, none⟩ (.int .i64 x.kind)).setCell ⟨g, 1, none⟩ (.bool x.hide)).setCell ⟨g, 2, none⟩ (.string x.frm)).setCell ⟨g, 3, none⟩ (.string x.dst)).setCell ⟨g, 4, none⟩ (.slice a.pg x.good.length a.cg)).setCell ⟨g, 5, none⟩ (.slice a.pb x.bad.length a.cb)).setCell ⟨g, 6, none⟩ (.slice a.pc x.cache.length a.cc)).setCell ⟨g, 7, none⟩ (.slice a.pr x.reply.length a.cr))

theorem setEn_touch (w : World) (g : Nat) (x : EnV) (a : EnP) : Touch (fun k => k = g) w (setEn w g x a) :=
  ((((((((Touch.refl (fun k => k = g) w).setCell (x := ⟨g, 0, none⟩) (fun _ => rfl) _).setCell (x := ⟨g, 1, none⟩) (fun _ => rfl) _).setCell (x := ⟨g, 2, none⟩) (fun _ => rfl) _).setCell (x := ⟨g, 3, none⟩) (fun _ => rfl) _).setCell (x := ⟨g, 4, none⟩) (fun _ => rfl) _).setCell (x := ⟨g, 5, none⟩) (fun _ => rfl) _).setCell (x := ⟨g, 6, none⟩) (fun _ => rfl) _).setCell (x := ⟨g, 7, none⟩) (fun _ => rfl) _

theorem setEn_blk {w : World} {g : Nat} (x : EnV) (a : EnP) (h : Blk w g 52 enZ) : Blk (setEn w g x a) g 52 #[.int .i64 x.kind, .bool x.hide, .string x.frm, .string x.dst, .slice a.pg x.good.length a.cg, .slice a.pb x.bad.length a.cb, .slice a.pc x.cache.length a.cc, .slice a.pr x.reply.length a.cr] := by
  have h8 := (((((((h.set_ 0 (.int .i64 x.kind)).set_ 1 (.bool x.hide)).set_ 2 (.string x.frm)).set_ 3 (.string x.dst)).set_ 4 (.slice a.pg x.good.length a.cg)).set_ 5 (.slice a.pb x.bad.length a.cb)).set_ 6 (.slice a.pc x.cache.length a.cc)).set_ 7 (.slice a.pr x.reply.length a.cr)
  unfold enZ at h8
  simpa using h8

def enZeroP : EnP := ⟨none, 0, none, 0, none, 0, none, 0⟩

set_option maxRecDepth 100000 in
set_option maxHeartbeats 4000000 in
theorem qHead_none (p : Option Addr) (w : World) (hLen : Calls Try.prog 67 #[.pointer p] (w.alloc (.cells enZ 52)) fun e w' => e = .returned (.int .i64 0) ∧ (w.alloc (.cells enZ 52)) = w') :
    Calls Try.prog 69 #[.pointer p] w fun e w' => e = .returned (.tuple #[enArg enZero enZeroP, .bool false]) ∧ Below w.heap.size w w' := by
  have HB2 : Hid (Blk (w.alloc (.cells enZ 52)) w.heap.size 52 enZ) := Lib.hid (Blk.new _ _ _)
  have Hb : Hid (Below w.heap.size w (w.alloc (.cells enZ 52))) := Lib.hid ((Below.refl _ _).alloc (Nat.le_refl _) _)
  have HL := Lib.hid hLen
  have hz : w.heap.size < (w.alloc (.cells enZ 52)).heap.size := by simp
  clear hLen
  unfold enZ at HB2 Hb HL hz
  go_enter Try.func69, Try.ntmps69
  go_wp2_with fail
  generalize w.alloc (.cells #[.int .i64 0, .bool false, .string ⟨#[]⟩, .string ⟨#[]⟩, .slice none 0 0, .slice none 0 0, .slice none 0 0, .slice none 0 0] 52) = w0 at *
  refine HL.out.mono ?_
  rintro e w1 ⟨rfl, rfl⟩
  have hd := HB2.out.cell
  have hg := HB2.out.frozen
  go_wp2_with fail
  have hbf := setEn_blk enZero enZeroP HB2.out
  have HBel : Hid (Below w.heap.size w (setEn w0 w.heap.size enZero enZeroP)) := Lib.hid (Hb.out.trans ((setEn_touch w0 w.heap.size enZero enZeroP).below (by omega) (fun k hk => by omega)))
  unfold setEn enZero enZeroP at hbf HBel
  dsimp only [List.length_nil] at hbf HBel
  have hcf := hbf.cell
  clear hd hg hbf
  unfold enArg enZero enZeroP
  exact bodyPost_ret (v := .tuple #[.agg #[.int .i64 0, .bool false, .string ⟨#[]⟩, .string ⟨#[]⟩, .slice none 0 0, .slice none 0 0, .slice none 0 0, .slice none 0 0], .bool false]) (by simp [results, Try.results69, go_sem, hcf]) rfl ⟨rfl, HBel.out⟩

set_option maxRecDepth 100000 in
set_option maxHeartbeats 4000000 in
theorem qPop_none (p : Option Addr) (w : World) (hLen : Calls Try.prog 67 #[.pointer p] (w.alloc (.cells enZ 52)) fun e w' => e = .returned (.int .i64 0) ∧ (w.alloc (.cells enZ 52)) = w') :
    Calls Try.prog 73 #[.pointer p] w fun e w' => e = .returned (.tuple #[enArg enZero enZeroP, .bool false]) ∧ Below w.heap.size w w' := by
  have HB2 : Hid (Blk (w.alloc (.cells enZ 52)) w.heap.size 52 enZ) := Lib.hid (Blk.new _ _ _)
  have Hb : Hid (Below w.heap.size w (w.alloc (.cells enZ 52))) := Lib.hid ((Below.refl _ _).alloc (Nat.le_refl _) _)
  have HL := Lib.hid hLen
  have hz : w.heap.size < (w.alloc (.cells enZ 52)).heap.size := by simp
  clear hLen
  unfold enZ at HB2 Hb HL hz
  go_enter Try.func73, Try.ntmps73
  go_wp2_with fail
  generalize w.alloc (.cells #[.int .i64 0, .bool false, .string ⟨#[]⟩, .string ⟨#[]⟩, .slice none 0 0, .slice none 0 0, .slice none 0 0, .slice none 0 0] 52) = w0 at *
  refine HL.out.mono ?_
  rintro e w1 ⟨rfl, rfl⟩
  have hd := HB2.out.cell
  have hg := HB2.out.frozen
  go_wp2_with fail
  have hbf := setEn_blk enZero enZeroP HB2.out
  have HBel : Hid (Below w.heap.size w (setEn w0 w.heap.size enZero enZeroP)) := Lib.hid (Hb.out.trans ((setEn_touch w0 w.heap.size enZero enZeroP).below (by omega) (fun k hk => by omega)))
  unfold setEn enZero enZeroP at hbf HBel
  dsimp only [List.length_nil] at hbf HBel
  have hcf := hbf.cell
  clear hd hg hbf
  unfold enArg enZero enZeroP
  exact bodyPost_ret (v := .tuple #[.agg #[.int .i64 0, .bool false, .string ⟨#[]⟩, .string ⟨#[]⟩, .slice none 0 0, .slice none 0 0, .slice none 0 0, .slice none 0 0], .bool false]) (by simp [results, Try.results73, go_sem, hcf]) rfl ⟨rfl, HBel.out⟩

/-- A struct of which a call made nothing. -/
theorem qLen_zero (sb : Nat) (c : Nat) (m : Value) (w : World) (h : ∀ i, w.cell? ⟨sb, i, none⟩ = (#[.slice none 0 c, m] : Array Value)[i]?) :
    Calls Try.prog 67 #[.pointer (some ⟨sb, 0, none⟩)] w fun e w' => e = .returned (.int .i64 0) ∧ w = w' := by
  go_enter Try.func67, Try.ntmps67
  go_wp2
  go_ret
  exact ⟨rfl, rfl⟩

set_option maxRecDepth 100000 in
set_option maxHeartbeats 4000000 in
theorem qHead_some (B sb : Nat) (E : Nat → Prop) (x : EnV) (L : List EnV) (most : Nat) (v : Value) (w : World) (h : QO 126 B w sb E (x :: L) most v) :
    Calls Try.prog 69 #[.pointer (some ⟨sb, 0, none⟩)] w fun e w' => ∃ a, e = .returned (.tuple #[enArg x a, .bool true]) ∧ EnL (fun k => w.heap.size ≤ k) w' x a ∧ Below w.heap.size w w' := by
  have HB2 : Hid (Blk (w.alloc (.cells enZ 52)) w.heap.size 52 enZ) := Lib.hid (Blk.new _ _ _)
  have hbw : Below w.heap.size w (w.alloc (.cells enZ 52)) := (Below.refl _ _).alloc (Nat.le_refl _) _
  have hz : w.heap.size + 1 = (w.alloc (.cells enZ 52)).heap.size := by simp
  have h0 := h.still hbw
  have HLen := Lib.hid (qLen_any _ B sb E (x :: L) most v _ h0)
  obtain ⟨p, c, rfl, hs⟩ := h0.slice
  obtain ⟨b, o, a, rfl, hS, hbl, hL, c0, c1, c2, c3, c4, c5, c6, c7⟩ := en_at hs (k := 0) (by simp)
  have Hc := Lib.hid (copied_any _ x a _ hL (h.small x List.mem_cons_self))
  have hq := h0.blk.cell
  have Hb := Lib.hid hbw
  clear h h0 hs hL hbw
  simp only [List.getElem_cons_zero, Nat.zero_mul, Nat.add_zero] at c0 c1 c2 c3 c4 c5 c6 c7
  have hl0 : ((((x :: L).length : Nat) : Int) == 0) = false := by simp; omega
  have hl1 : (0 : Int) < ((x :: L).length : Int) := by simp
  have hl2 : 0 < (x :: L).length := by simp
  generalize (x :: L).length = n at *
  unfold enZ at HB2 Hb HLen hz c0 c1 c2 c3 c4 c5 c6 c7 Hc hq hbl
  unfold enArg at Hc
  go_enter Try.func69, Try.ntmps69
  go_wp2_with fail
  generalize w.alloc (.cells #[.int .i64 0, .bool false, .string ⟨#[]⟩, .string ⟨#[]⟩, .slice none 0 0, .slice none 0 0, .slice none 0 0, .slice none 0 0] 52) = w0 at *
  refine HLen.out.mono ?_
  rintro e w1 ⟨rfl, rfl⟩
  go_wp2_with fail
  refine Hc.out.mono ?_
  rintro e w2 ⟨a', rfl, hl2, hb2⟩
  have HB3 := Lib.hid (HB2.out.below hb2 (by omega))
  have hbf := setEn_blk x a' HB3.out
  have hT := setEn_touch w2 w.heap.size x a'
  have HK : Hid (EnL (fun k => w.heap.size ≤ k) (setEn w2 w.heap.size x a') x a') := Lib.hid (hl2.keep (Kept.touch hT (fun k _ hk => ⟨by omega, by omega⟩)))
  have HBel : Hid (Below w.heap.size w (setEn w2 w.heap.size x a')) := Lib.hid ((Hb.out.trans (hb2.mono (by omega))).trans (hT.below (by have := hb2.size; omega) (fun k hk => by omega)))
  have hd := HB3.out.cell
  have hg := HB3.out.frozen
  unfold setEn at hbf HK HBel
  clear hl2 hb2 hT c0 c1 c2 c3 c4 c5 c6 c7 hq
  go_wp2_with fail
  have hcf := hbf.cell
  clear hd hg hbf
  unfold enArg
  exact bodyPost_ret (v := .tuple #[.agg #[.int .i64 x.kind, .bool x.hide, .string x.frm, .string x.dst, .slice a'.pg x.good.length a'.cg, .slice a'.pb x.bad.length a'.cb, .slice a'.pc x.cache.length a'.cc, .slice a'.pr x.reply.length a'.cr], .bool true]) (by simp [results, Try.results69, go_sem, hcf]) rfl ⟨a', rfl, HK.out, HBel.out⟩

set_option maxRecDepth 100000 in
set_option maxHeartbeats 4000000 in
theorem qPop_some (B sb : Nat) (E : Nat → Prop) (x : EnV) (L : List EnV) (most : Nat) (v : Value) (w : World) (h : QO 126 B w sb E (x :: L) most v) (hB : B ≤ w.heap.size) :
    Calls Try.prog 73 #[.pointer (some ⟨sb, 0, none⟩)] w fun e w' => ∃ a v', e = .returned (.tuple #[enArg x a, .bool true]) ∧ EnL (fun j => (E j ∨ rowOf v = some j) ∧ j ≠ sb ∧ rowOf v' ≠ some j) w' x a ∧
      QO 126 B w' sb (gE E v w w') L most v' ∧ (∀ j, rowOf v' = some j → w.heap.size ≤ j) ∧ Touch (fun i => i = sb) w w' := by
  have HB2 : Hid (Blk (w.alloc (.cells enZ 52)) w.heap.size 52 enZ) := Lib.hid (Blk.new _ _ _)
  have hbw : Below w.heap.size w (w.alloc (.cells enZ 52)) := (Below.refl _ _).alloc (Nat.le_refl _) _
  have hz : w.heap.size + 1 = (w.alloc (.cells enZ 52)).heap.size := by simp
  have hsl := h.blk.lt
  have hnoE := h.noE
  have hno := h.no
  have hrw := h.own.row
  have h1 := h.weak (E' := fun k => E k ∧ k < w.heap.size) (fun k hk hE => ⟨hE, hk⟩) (fun e => h.noE e.1)
  have h0 := h1.still hbw
  have HLen := Lib.hid (qLen_any _ B sb _ (x :: L) most v _ h0)
  have Hcut := Lib.hid (qCut_any B sb _ (x :: L) most v 1 _ h0 (by simp) (by omega))
  have Hb := Lib.hid hbw
  clear h h1 h0 hbw
  have hl0 : ((((x :: L).length : Nat) : Int) == 0) = false := by simp; omega
  generalize (x :: L).length = n at *
  unfold enZ at HB2 Hb HLen hz Hcut
  go_enter Try.func73, Try.ntmps73
  go_wp2_with fail
  generalize w.alloc (.cells #[.int .i64 0, .bool false, .string ⟨#[]⟩, .string ⟨#[]⟩, .slice none 0 0, .slice none 0 0, .slice none 0 0, .slice none 0 0] 52) = w0 at *
  refine HLen.out.mono ?_
  rintro e w1 ⟨rfl, rfl⟩
  go_wp2_with fail
  refine Hcut.out.mono ?_
  rintro e w2 ⟨p, v', rfl, hs2, hq2, hr2, hT2⟩
  obtain ⟨b, o, a, rfl, hS, hbl, hL, c0, c1, c2, c3, c4, c5, c6, c7⟩ := en_at hs2 (k := 0) (by simp)
  simp only [List.take_succ_cons, List.take_zero, List.getElem_cons_zero, Nat.zero_mul, Nat.add_zero] at c0 c1 c2 c3 c4 c5 c6 c7 hL
  have hz2 := hT2.size
  have HB3 := Lib.hid (hT2.blk HB2.out (by omega))
  have hbf := setEn_blk x a HB3.out
  have hT := setEn_touch w2 w.heap.size x a
  have hzf : (setEn w2 w.heap.size x a).heap.size = w2.heap.size := by unfold setEn; simp only [size_set]
  have hEE : ∀ k, ((fun k => E k ∧ k < w.heap.size) k ∨ rowOf v = some k) → k < w.heap.size := fun k hk => by
    rcases hk with e | e
    · exact e.2
    · exact (hrw _ e).2
  have HK : Hid (EnL (fun j => (E j ∨ rowOf v = some j) ∧ j ≠ sb ∧ rowOf v' ≠ some j) (setEn w2 w.heap.size x a) x a) := Lib.hid (hL.keep (Kept.touch hT (fun k _ hk => ⟨⟨hk.1.imp And.left id, hk.2⟩, fun e => by
    have := hEE k hk.1
    omega⟩)))
  have HQ : Hid (QO 126 B (setEn w2 w.heap.size x a) sb (gE E v w (setEn w2 w.heap.size x a)) L most v') := Lib.hid (by
    refine (hq2.touch hT (by omega) (fun k hk => by have := hr2 k hk; omega) (fun k hk hE _ => ?_)).weak (fun k hk hE => ?_) ?_
    · rcases hE with e | e | e
      · have := e.2; omega
      · have := (hrw _ e).2; omega
      · omega
    · rcases hE with e | e | e
      · exact .inl e.1
      · exact .inr (.inl e)
      · exact .inr (.inr ⟨by omega, hk⟩)
    · rintro (e | e | e)
      · exact hnoE e
      · exact hno e
      · omega)
  have HT : Hid (Touch (fun i => i = sb) w (setEn w2 w.heap.size x a)) := Lib.hid (((Touch.of_below (p := fun i => i = sb) Hb.out).trans hT2).then hT (fun i hi e => by omega))
  have HR : Hid (∀ j, rowOf v' = some j → w.heap.size ≤ j) := Lib.hid (fun j hj => by have := hr2 j hj; omega)
  have hd := HB3.out.cell
  have hg := HB3.out.frozen
  unfold setEn at hbf HK HQ HT
  clear hs2 hq2 hr2 hT2 hS hL hT hzf hEE
  go_wp2_with fail
  have hcf := hbf.cell
  clear hd hg hbf c0 c1 c2 c3 c4 c5 c6 c7
  unfold enArg
  exact bodyPost_ret (v := .tuple #[.agg #[.int .i64 x.kind, .bool x.hide, .string x.frm, .string x.dst, .slice a.pg x.good.length a.cg, .slice a.pb x.bad.length a.cb, .slice a.pc x.cache.length a.cc, .slice a.pr x.reply.length a.cr], .bool true]) (by simp [results, Try.results73, go_sem, hcf]) rfl ⟨a, v', rfl, HK.out, HQ.out, HR.out, HT.out⟩

end Go.Proofs.Ytjfhpafaopeogaa
