/-
  Messages of clients (layer 6): Decode, the program's.
-/
import Derived.Test.YtldjfmddjbdciaaFoZ
import Derived.Test.YtldjfmddjbdciaaFoJ
import Derived.Test.YtldjfmddjbdciaaFoK
namespace Go.Proofs.Ytldjfmddjbdciaa
open Go.RowKit
set_option linter.unusedVariables false
set_option linter.unusedSimpArgs false

/-- The message's block, the result's block. -/
structure DeI (w0 w : World) (c : Array Value) : Prop where
  m : Blk w w0.heap.size 47 c
  r : Blk w (w0.heap.size + 1) 44 foZ
  bel : Below w0.heap.size w0 w
section
variable {w0 w w' : World} {c : Array Value} {P : Nat → Prop}
theorem DeI.step (h : DeI w0 w c) (hT : Touch P w w') (hP : ∀ j, P j → w0.heap.size + 2 ≤ j) : DeI w0 w' c :=
  ⟨hT.blk h.m (fun e => by have := hP _ e; omega), hT.blk h.r (fun e => by have := hP _ e; omega), h.bel.trans (hT.below h.bel.size (fun j e => by have := hP _ e; omega))⟩
theorem DeI.bstep (h : DeI w0 w c) (hb : Below w.heap.size w w') : DeI w0 w' c := h.step (Touch.of_below (p := fun _ => False) hb) (fun _ e => e.elim)
theorem DeI.start (w : World) (c : Array Value) : DeI w ((w.alloc (.cells c 47)).alloc (.cells foZ 44)) c := by
  have e1 : (w.alloc (.cells c 47)).heap.size = w.heap.size + 1 := by simp
  refine ⟨(Blk.new _ _ _).alloc _, ?_, (((Below.refl _ _).alloc (Nat.le_refl _) _).alloc (by simp) _)⟩
  have := Blk.new (w.alloc (.cells c 47)) 44 foZ
  rw [e1] at this
  exact this
/-- The end: the result's block is set. -/
theorem DeI.done {S : Nat → Prop} {f : FoV} {a : FoP} (h : DeI w0 w c) (hl : FoL S w f a) (hS : ∀ j, S j → j ≠ w0.heap.size + 1 ∧ w0.heap.size ≤ j) :
    Blk (setTen w (w0.heap.size + 1) (.int .u8 f.kind) (.int .u8 f.what) (.string f.name) (.string f.portal) (.string f.text) (.slice a.po f.oids.length a.co) (.slice a.pf f.formats.length a.cf) (.slice a.pr f.results.length a.cr) (.slice a.pp f.params.length a.cp) (.int .i64 f.max)) (w0.heap.size + 1) 44 (foCells f a) ∧
    FoL (fun j => w0.heap.size ≤ j) (setTen w (w0.heap.size + 1) (.int .u8 f.kind) (.int .u8 f.what) (.string f.name) (.string f.portal) (.string f.text) (.slice a.po f.oids.length a.co) (.slice a.pf f.formats.length a.cf) (.slice a.pr f.results.length a.cr) (.slice a.pp f.params.length a.cp) (.int .i64 f.max)) f a ∧
    Below w0.heap.size w0 (setTen w (w0.heap.size + 1) (.int .u8 f.kind) (.int .u8 f.what) (.string f.name) (.string f.portal) (.string f.text) (.slice a.po f.oids.length a.co) (.slice a.pf f.formats.length a.cf) (.slice a.pr f.results.length a.cr) (.slice a.pp f.params.length a.cp) (.int .i64 f.max)) := by
  have hT := setTen_touch w (w0.heap.size + 1) (.int .u8 f.kind) (.int .u8 f.what) (.string f.name) (.string f.portal) (.string f.text) (.slice a.po f.oids.length a.co) (.slice a.pf f.formats.length a.cf) (.slice a.pr f.results.length a.cr) (.slice a.pp f.params.length a.cp) (.int .i64 f.max)
  exact ⟨setTen_blk _ _ _ _ _ _ _ _ _ _ h.r, hl.keep (Kept.touch hT (fun j _ hs => ⟨(hS j hs).2, (hS j hs).1⟩)), h.bel.trans (hT.below h.bel.size (fun j e => by omega))⟩
end

set_option maxRecDepth 100000 in
set_option maxHeartbeats 4000000 in
theorem dec_any (k : Int) (h0 : 0 ≤ k) (h1 : k < 256) (p : Option Addr) (l : List UInt8) (cap : Nat) (w : World) (hl : l.length ≤ 100000) (hb : BytesIn w p l) :
    Calls Try.prog 34 #[.agg #[.int .u8 k, .slice p l.length cap]] w (DecR k l w) := by
  have H1 := Lib.hid (DeI.start w #[.int .u8 k, .slice p l.length cap])
  have HK := Lib.hid (fun w0 : World => known_any k h0 h1 w0)
  have HU := Lib.hid (fun h : knownV k = 0 => dec_unknown (L := l) h)
  have HO := Lib.hid (fun h : knownV k = 2 => dec_other (L := l) h)
  have HQ := Lib.hid (fun (L' : List UInt8) (f : FoV) (b : Bool) (h1 : knownV k = 1) h2 h3 => @dec_bad k l L' f b h1 h2 h3)
  have HG := Lib.hid (fun (f : FoV) (h1 : knownV k = 1) h2 => @dec_ok k l f h1 h2)
  have Hb1 : Hid (BytesIn ((w.alloc (.cells #[.int .u8 k, .slice p l.length cap] 47)).alloc (.cells foZ 44)) p l) := Lib.hid ((((Touch.refl (fun _ => False) w).alloc _).alloc _).bytesIn hb (fun _ _ _ e => e))
  unfold foZ at H1 Hb1
  clear hb
  go_enter Try.func34, Try.ntmps34
  go_upto_region 1 with (fail)
  generalize (w.alloc (.cells #[.int .u8 k, .slice p l.length cap] 47)).alloc (.cells #[.int .u8 0, .int .u8 0, .string ⟨#[]⟩, .string ⟨#[]⟩, .string ⟨#[]⟩, .slice none 0 0, .slice none 0 0, .slice none 0 0, .slice none 0 0, .int .i64 0] 44) = w1 at *
  have c1 := H1.out.m.cell
  go_wp2_with fail
  refine (HK.out w1).mono ?_
  rintro e w2 ⟨rfl, hb⟩
  have H2 := Lib.hid (H1.out.bstep hb)
  have Hb2 : Hid (BytesIn w2 p l) := Lib.hid ((Touch.of_below (p := fun _ => False) hb).bytesIn Hb1.out (fun _ _ _ e => e))
  clear hb c1 Hb1 H1 HK
  generalize hkv : knownV k = kv at *
  have Hkv := Lib.hid hkv
  clear hkv
  by_cases hk0 : kv = 0
  · subst hk0
    have Hd := Lib.hid (HU.out rfl)
    clear HO HQ HG HU
    have c2 : ∀ i, w2.cell? ⟨w.heap.size + 1, i, none⟩ = (#[.int .u8 0, .int .u8 0, .string ⟨#[]⟩, .string ⟨#[]⟩, .string ⟨#[]⟩, .slice none 0 0, .slice none 0 0, .slice none 0 0, .slice none 0 0, .int .i64 0] : Array Value)[i]? := H2.out.r.cell
    have f2 := H2.out.r.frozen
    go_wp2_with fail
    obtain ⟨hbf, hl', hB⟩ := H2.out.done (FoL.zero (fun _ => False) w2 0) (fun _ e => e.elim)
    have HH := Lib.hid (And.intro hl' hB)
    clear hl' hB c2 f2
    unfold setTen foCells foZero foNil at hbf
    unfold setTen at HH
    dsimp only [List.length_nil] at hbf
    have hcf := hbf.cell
    clear hbf
    refine bodyPost_ret (v := .tuple #[.agg #[.int .u8 0, .int .u8 0, .string ⟨#[]⟩, .string ⟨#[]⟩, .string ⟨#[]⟩, .slice none 0 0, .slice none 0 0, .slice none 0 0, .slice none 0 0, .int .i64 0], .int .i64 4]) (by simp [results, Try.results34, go_sem, hcf]) rfl ?_
    unfold DecR
    rw [Hd.out]
    exact ⟨foNil, rfl, HH.out.1, HH.out.2⟩
  by_cases hk2 : kv = 2
  · subst hk2
    have Hd := Lib.hid (HO.out rfl)
    clear HO HQ HG HU
    have c2 : ∀ i, w2.cell? ⟨w.heap.size + 1, i, none⟩ = (#[.int .u8 0, .int .u8 0, .string ⟨#[]⟩, .string ⟨#[]⟩, .string ⟨#[]⟩, .slice none 0 0, .slice none 0 0, .slice none 0 0, .slice none 0 0, .int .i64 0] : Array Value)[i]? := H2.out.r.cell
    have f2 := H2.out.r.frozen
    go_wp2_with fail
    obtain ⟨hbf, hl', hB⟩ := H2.out.done (FoL.zero (fun _ => False) w2 0) (fun _ e => e.elim)
    have HH := Lib.hid (And.intro hl' hB)
    clear hl' hB c2 f2
    unfold setTen foCells foZero foNil at hbf
    unfold setTen at HH
    dsimp only [List.length_nil] at hbf
    have hcf := hbf.cell
    clear hbf
    refine bodyPost_ret (v := .tuple #[.agg #[.int .u8 0, .int .u8 0, .string ⟨#[]⟩, .string ⟨#[]⟩, .string ⟨#[]⟩, .slice none 0 0, .slice none 0 0, .slice none 0 0, .slice none 0 0, .int .i64 0], .int .i64 9]) (by simp [results, Try.results34, go_sem, hcf]) rfl ?_
    unfold DecR
    rw [Hd.out]
    exact ⟨foNil, rfl, HH.out.1, HH.out.2⟩
  have hk1 : kv = 1 := by
    rw [← Hkv.out] at hk0 hk2 ⊢
    unfold knownV at hk0 hk2 ⊢
    split at hk0
    · rename_i h; rw [if_pos h]
    · rename_i h; rw [if_neg h] at hk2; split at hk0
      · rename_i h'; rw [if_pos h'] at hk2; exact absurd rfl hk2
      · exact absurd rfl hk0
  subst hk1
  have Hq := Lib.hid (fun L' f b => HQ.out L' f b rfl)
  have Hg := Lib.hid (fun f => HG.out f rfl)
  clear HO HQ HG HU hk0 hk2
  have c2 := H2.out.m.cell
  have HN := Lib.hid (scanNew_any p l cap w2 (by omega) Hb2.out)
  go_upto_region 7 with (go_at_call 68; refine HN.out.mono ?_; rintro e w3 ⟨sb, g, rfl, hs, hsb, hg, hT⟩; have H3 := Lib.hid (H2.out.step hT (fun _ e => e.elim)); have Hs3 := Lib.hid hs; have hz3 := hT.size; clear hs hT HN c2)
  have hw2 := H2.out.r.lt
  have hal : Below w3.heap.size w3 (w3.alloc (.cells #[.pointer (some ⟨sb, 0, none⟩)] 94)) := (Below.refl _ _).alloc (Nat.le_refl _) _
  have H4 := Lib.hid (H3.out.bstep hal)
  have Hs4 := Lib.hid (Hs3.out.touch (Touch.of_below (p := fun _ => False) hal) (fun e => e) (fun _ e => e))
  have Hr4 : Hid (Blk (w3.alloc (.cells #[.pointer (some ⟨sb, 0, none⟩)] 94)) w3.heap.size 94 #[.pointer (some ⟨sb, 0, none⟩)]) := Lib.hid (Blk.new _ _ _)
  have hz4 : w3.heap.size < (w3.alloc (.cells #[.pointer (some ⟨sb, 0, none⟩)] 94)).heap.size := by simp
  have hsl := Hs3.out.lt
  clear hal H3 Hs3 H2 Hb2
  generalize w3.alloc (.cells #[.pointer (some ⟨sb, 0, none⟩)] 94) = w4 at *
  generalize w3.heap.size = rb at *
  have c4 := H4.out.m.cell
  have r4 := Hr4.out.cell
  have HM := Lib.hid (fmsg_any sb g l false w4 Hs4.out hl k)
  unfold fmsgR foArg foCells at HM
  go_upto_region 8 with (go_at_call 69; refine HM.out.mono ?_; rintro e w5 ⟨f, a, L', b', rfl, hfl, hs, hq, hT⟩; have H5 := Lib.hid (H4.out.step hT (fun j e => by omega)); have Hs5 := Lib.hid hs; have Hfl5 := Lib.hid hfl; have HQ := Lib.hid hq; have Hr5 := Lib.hid (hT.blk Hr4.out (by omega)); have hz5 := hT.size; clear hs hT hfl hq HM c4 r4 H4 Hs4 Hr4)
  obtain ⟨fk, fw, fn, fp, ft, fo, ff, fr, fc, fm⟩ := f
  obtain ⟨apo, aco, apf, acf, apr, acr, app, acp⟩ := a
  dsimp only
  have hw5 := H5.out.r.lt
  have hal : Below w5.heap.size w5 (w5.alloc (.cells #[.int .u8 fk, .int .u8 fw, .string fn, .string fp, .string ft, .slice apo fo.length aco, .slice apf ff.length acf, .slice apr fr.length acr, .slice app fc.length acp, .int .i64 fm] 44)) := (Below.refl _ _).alloc (Nat.le_refl _) _
  have H6 := Lib.hid (H5.out.bstep hal)
  have Hs6 := Lib.hid (Hs5.out.touch (Touch.of_below (p := fun _ => False) hal) (fun e => e) (fun _ e => e))
  have Hr6 := Lib.hid (Hr5.out.below hal Hr5.out.lt)
  have Hf6 : Hid (Blk (w5.alloc (.cells #[.int .u8 fk, .int .u8 fw, .string fn, .string fp, .string ft, .slice apo fo.length aco, .slice apf ff.length acf, .slice apr fr.length acr, .slice app fc.length acp, .int .i64 fm] 44)) w5.heap.size 44 #[.int .u8 fk, .int .u8 fw, .string fn, .string fp, .string ft, .slice apo fo.length aco, .slice apf ff.length acf, .slice apr fr.length acr, .slice app fc.length acp, .int .i64 fm]) := Lib.hid (Blk.new _ _ _)
  have Hfl6 := Lib.hid (Hfl5.out.below hal)
  have hz6 : w5.heap.size < (w5.alloc (.cells #[.int .u8 fk, .int .u8 fw, .string fn, .string fp, .string ft, .slice apo fo.length aco, .slice apf ff.length acf, .slice apr fr.length acr, .slice app fc.length acp, .int .i64 fm] 44)).heap.size := by simp
  clear hal H5 Hs5 Hr5 Hfl5
  generalize w5.alloc (.cells #[.int .u8 fk, .int .u8 fw, .string fn, .string fp, .string ft, .slice apo fo.length aco, .slice apf ff.length acf, .slice apr fr.length acr, .slice app fc.length acp, .int .i64 fm] 44) = w6 at *
  generalize w5.heap.size = gf at *
  have r6 := Hr6.out.cell
  have f6 := Hf6.out.cell
  have HD := Lib.hid (scanDone_any sb g L' b' w6 Hs6.out)
  generalize hem : (!b' && L'.isEmpty) = em at *
  cases em with
  | false =>
    have Hd := Lib.hid (Hq.out _ _ _ HQ.out hem)
    have c2 : ∀ i, w6.cell? ⟨w.heap.size + 1, i, none⟩ = (#[.int .u8 0, .int .u8 0, .string ⟨#[]⟩, .string ⟨#[]⟩, .string ⟨#[]⟩, .slice none 0 0, .slice none 0 0, .slice none 0 0, .slice none 0 0, .int .i64 0] : Array Value)[i]? := H6.out.r.cell
    have f2 := H6.out.r.frozen
    clear hem
    go_wp2_with (go_at_call 70; refine HD.out.mono ?_; rintro e w7 ⟨rfl, rfl⟩)
    obtain ⟨hbf, hl', hB⟩ := H6.out.done (FoL.zero (fun _ => False) _ 0) (fun _ e => e.elim)
    have HH := Lib.hid (And.intro hl' hB)
    clear hl' hB c2 f2
    unfold setTen foCells foZero foNil at hbf
    unfold setTen at HH
    dsimp only [List.length_nil] at hbf
    have hcf := hbf.cell
    clear hbf
    refine bodyPost_ret (v := .tuple #[.agg #[.int .u8 0, .int .u8 0, .string ⟨#[]⟩, .string ⟨#[]⟩, .string ⟨#[]⟩, .slice none 0 0, .slice none 0 0, .slice none 0 0, .slice none 0 0, .int .i64 0], .int .i64 4]) (by simp [results, Try.results34, go_sem, hcf]) rfl ?_
    unfold DecR
    rw [Hd.out]
    exact ⟨foNil, rfl, HH.out.1, HH.out.2⟩
  | true =>
    have hb' : b' = false := by cases b' <;> simp at hem ⊢
    subst hb'
    have hL' : L' = [] := by cases L' <;> simp at hem ⊢
    subst hL'
    clear hem
    have hrd := (HQ.out.1 rfl).2
    have hsm := readP_small hrd
    have hfk : fk = k := hsm.kind
    have hfb : FoB ⟨fk, fw, fn, fp, ft, fo, ff, fr, fc, fm⟩ := ⟨by rw [← hfk] at h0; exact h0, by rw [← hfk] at h1; exact h1, hsm.what.1, hsm.what.2⟩
    have HC := Lib.hid (check_any _ ⟨fk, fw, fn, fp, ft, fo, ff, fr, fc, fm⟩ ⟨apo, aco, apf, acf, apr, acr, app, acp⟩ w6 Hfl6.out hfb)
    have Hd := Lib.hid (Hg.out _ HQ.out)
    clear hrd hsm hfk hfb HQ Hq Hg
    unfold foArg foCells at HC
    dsimp only at HC
    generalize hcv : checkF ⟨fk, fw, fn, fp, ft, fo, ff, fr, fc, fm⟩ = cv at *
    clear hcv
    by_cases hc0 : cv = 0
    · subst hc0
      have Hd' : Hid (decF k l = (⟨fk, fw, fn, fp, ft, fo, ff, fr, fc, fm⟩, 0)) := Lib.hid (by rw [Hd.out, if_pos rfl])
      clear Hd
      go_upto_region 10 with (first | (go_at_call 70; refine HD.out.mono ?_; rintro e w7 ⟨rfl, rfl⟩) | (go_at_call 28; refine HC.out.mono ?_; rintro e w7 ⟨rfl, hb⟩))
      have H7 := Lib.hid (H6.out.bstep hb)
      have Hf7 := Lib.hid (Hf6.out.below hb Hf6.out.lt)
      have Hfl7 := Lib.hid (Hfl6.out.below hb)
      clear hb r6 f6 H6 Hs6 Hr6 Hfl6 Hf6 HD HC
      have c2 : ∀ i, w7.cell? ⟨w.heap.size + 1, i, none⟩ = (#[.int .u8 0, .int .u8 0, .string ⟨#[]⟩, .string ⟨#[]⟩, .string ⟨#[]⟩, .slice none 0 0, .slice none 0 0, .slice none 0 0, .slice none 0 0, .int .i64 0] : Array Value)[i]? := H7.out.r.cell
      have f2 := H7.out.r.frozen
      have f7 := Hf7.out.cell
      go_wp2_with fail
      obtain ⟨hbf, hl', hB⟩ := H7.out.done Hfl7.out (fun j hj => ⟨by omega, by omega⟩)
      have HH := Lib.hid (And.intro hl' hB)
      clear hl' hB c2 f2 f7
      unfold setTen foCells at hbf
      unfold setTen at HH
      dsimp only at hbf HH
      have hcf := hbf.cell
      clear hbf
      refine bodyPost_ret (v := .tuple #[.agg #[.int .u8 fk, .int .u8 fw, .string fn, .string fp, .string ft, .slice apo fo.length aco, .slice apf ff.length acf, .slice apr fr.length acr, .slice app fc.length acp, .int .i64 fm], .int .i64 0]) (by simp [results, Try.results34, go_sem, hcf]) rfl ?_
      unfold DecR
      rw [Hd'.out]
      exact ⟨⟨apo, aco, apf, acf, apr, acr, app, acp⟩, rfl, HH.out.1, HH.out.2⟩
    · have Hd' : Hid (decF k l = (foZero 0, 4)) := Lib.hid (by rw [Hd.out, if_neg hc0])
      clear Hd
      have hci : (cv != 0) = true := by simpa using hc0
      go_upto_region 9 with (first | (go_at_call 70; refine HD.out.mono ?_; rintro e w7 ⟨rfl, rfl⟩) | (go_at_call 28; refine HC.out.mono ?_; rintro e w7 ⟨rfl, hb⟩))
      have H7 := Lib.hid (H6.out.bstep hb)
      clear hb r6 f6 H6 Hs6 Hr6 Hfl6 Hf6 HD HC
      have Hd := Hd'
      clear Hd'
      have c2 : ∀ i, w7.cell? ⟨w.heap.size + 1, i, none⟩ = (#[.int .u8 0, .int .u8 0, .string ⟨#[]⟩, .string ⟨#[]⟩, .string ⟨#[]⟩, .slice none 0 0, .slice none 0 0, .slice none 0 0, .slice none 0 0, .int .i64 0] : Array Value)[i]? := H7.out.r.cell
      have f2 := H7.out.r.frozen
      go_wp2_with fail
      obtain ⟨hbf, hl', hB⟩ := H7.out.done (FoL.zero (fun _ => False) _ 0) (fun _ e => e.elim)
      have HH := Lib.hid (And.intro hl' hB)
      clear hl' hB c2 f2
      unfold setTen foCells foZero foNil at hbf
      unfold setTen at HH
      dsimp only [List.length_nil] at hbf
      have hcf := hbf.cell
      clear hbf
      refine bodyPost_ret (v := .tuple #[.agg #[.int .u8 0, .int .u8 0, .string ⟨#[]⟩, .string ⟨#[]⟩, .string ⟨#[]⟩, .slice none 0 0, .slice none 0 0, .slice none 0 0, .slice none 0 0, .int .i64 0], .int .i64 4]) (by simp [results, Try.results34, go_sem, hcf]) rfl ?_
      unfold DecR
      rw [Hd.out]
      exact ⟨foNil, rfl, HH.out.1, HH.out.2⟩

end Go.Proofs.Ytldjfmddjbdciaa
