/-
  Ground: FoX, FoY, FoZ.
-/
import Derived.Test.YtacnmdlefonjmaaGreatPdZXFoW
/-
  Messages of clients (layer 6): a message that is read, by its kinds: the document's.
-/
namespace Go.Proofs.YtacnmdlefonjmaaGreat
open Go.RowKit
set_option linter.unusedVariables false
set_option linter.unusedSimpArgs false
theorem refText_o {sb g : Nat} {L : List UInt8} {bad : Bool} {w : World} (h : RefS w sb g L bad) (hL : L.length ≤ 100000) : ∃ t L' b', StepO L bad textQ t L' b' ∧ Calls Tryz.prog 76 #[.pointer (some ⟨sb, 0, none⟩)] w fun e w' =>
    e = .returned (.string t) ∧ RefS w' sb g L' b' ∧ Touch (fun i => i = sb) w w' := ⟨_, _, _, StepO.text (.inr rfl), refSText_full sb g L bad w h (by omega)⟩

set_option maxRecDepth 100000 in
set_option maxHeartbeats 4000000 in
theorem frmsg_P (sb g : Nat) (L : List UInt8) (bad : Bool) (w : World) (h : RefS w sb g L bad) (hL : L.length ≤ 100000) :
    Calls Tryz.prog 60 #[.pointer (some ⟨sb, 0, none⟩), .int .u8 80] w (frmsgR sb g L bad 80 w) := by
  have hsb := h.lt
  have Hg := Lib.hid (fun e : L ≠ [] => h.ltgF e)
  have hm := MsI.start sb w w 80 (Touch.refl _ w) hsb
  have hs := h.touch (p := fun _ => False) (((Touch.refl _ w).alloc (.cells foZ 46)).alloc (.cells (foCells (foZero 80) foNil) 46)) (fun e => e) (fun _ e => e)
  unfold foZ at hm hs
  rw [show foCells (foZero 80) foNil = #[.int .u8 80, .int .u8 0, .string ⟨#[]⟩, .string ⟨#[]⟩, .string ⟨#[]⟩, .slice none 0 0, .slice none 0 0, .slice none 0 0, .slice none 0 0, .int .i64 0] from rfl] at hm hs
  have Hm1 := Lib.hid hm
  have Hs1 := Lib.hid hs
  clear h hm hs
  go_enter Tryz.func60, Tryz.ntmps60
  go_upto_region 2 with (fail)
  generalize (w.alloc (.cells #[.int .u8 0, .int .u8 0, .string ⟨#[]⟩, .string ⟨#[]⟩, .string ⟨#[]⟩, .slice none 0 0, .slice none 0 0, .slice none 0 0, .slice none 0 0, .int .i64 0] 46)).alloc (.cells #[.int .u8 80, .int .u8 0, .string ⟨#[]⟩, .string ⟨#[]⟩, .string ⟨#[]⟩, .slice none 0 0, .slice none 0 0, .slice none 0 0, .slice none 0 0, .int .i64 0] 46) = w1 at *
  have hl1 : L.length ≤ 100000 := hL
  obtain ⟨t1, L1, b1, hq, hc⟩ := refText_o Hs1.out hl1
  have HQ1 := Lib.hid hq
  have HC := Lib.hid hc
  clear hq hc hl1
  go_wp2_with fail
  refine HC.out.mono ?_
  rintro e w2 ⟨rfl, hs, hT⟩
  have Hm2 := Lib.hid (Hm1.out.step hT)
  have Hs2 := Lib.hid hs
  clear hs hT HC Hm1 Hs1
  have hl2 : L1.length ≤ 100000 := by have q1 := HQ1.out.2.2; omega
  obtain ⟨t2, L2, b2, hq, hc⟩ := refText_o Hs2.out hl2
  have HQ2 := Lib.hid hq
  have HC := Lib.hid hc
  clear hq hc hl2
  go_wp2_with fail
  refine HC.out.mono ?_
  rintro e w3 ⟨rfl, hs, hT⟩
  have Hm3 := Lib.hid (Hm2.out.step hT)
  have Hs3 := Lib.hid hs
  clear hs hT HC Hm2 Hs2
  have hl3 : L2.length ≤ 100000 := by have q1 := HQ1.out.2.2; have q2 := HQ2.out.2.2; omega
  have HC := Lib.hid (fnums_any sb g L2 b2 4 4 (by decide) (by decide) w3 Hs3.out hl3)
  clear hl3
  go_wp2_with fail
  refine HC.out.mono ?_
  rintro e w4 ⟨v, t3, L3, b3, rfl, ho, hs, hq, hT⟩
  obtain ⟨ptr3, cap3, hv, hl⟩ := OwnI.lst (w' := w) ho (w.heap.size + 2) (by have := Hm3.out.b3.lt; omega)
  subst hv
  have HL3 := Lib.hid hl
  have HQ3 := Lib.hid hq
  clear ho hl hq
  have Hm4 := Lib.hid (Hm3.out.step hT)
  have Hs4 := Lib.hid hs
  clear hs hT HC Hm3 Hs3
  have c3 : ∀ i, w4.cell? ⟨w.heap.size + 1, i, none⟩ = (#[.int .u8 80, .int .u8 0, .string ⟨#[]⟩, .string ⟨#[]⟩, .string ⟨#[]⟩, .slice none 0 0, .slice none 0 0, .slice none 0 0, .slice none 0 0, .int .i64 0] : Array Value)[i]? := Hm4.out.b3.cell
  have f3 := Hm4.out.b3.frozen
  go_upto_region 17 with (fail)
  have hm4 := Hm4.out
  have hs4 := Hs4.out
  have hm5 := hm4.set 2 (.string t1) (f' := { foZero 80 with name := t1 }) (a' := foNil) ⟨hm4.lst.lo, hm4.lst.lf, hm4.lst.lr, hm4.lst.lp⟩ rfl
  have hT := MsI.tset (w4) w.heap.size 2 (.string t1)
  have hs5 := hs4.touch hT (by omega) (fun hne e => by have := Hg.out ((fun x => HQ1.out.ne (HQ2.out.ne (HQ3.out.ne x))) hne); omega)
  have HL3 := Lib.hid ((SliceS.still IntU.still) _ _ _ _ _ _ HL3.out (Kept.touch hT (fun k hk hs => ⟨hs, fun e => by have hs' : w.heap.size + 2 ≤ k := hs; omega⟩)))
  have hm6 := hm5.set 4 (.string t2) (f' := { foZero 80 with name := t1, text := t2 }) (a' := foNil) ⟨hm5.lst.lo, hm5.lst.lf, hm5.lst.lr, hm5.lst.lp⟩ rfl
  have hT := MsI.tset ((w4.setCell ⟨w.heap.size + 1, 2, none⟩ (.string t1))) w.heap.size 4 (.string t2)
  have hs6 := hs5.touch hT (by omega) (fun hne e => by have := Hg.out ((fun x => HQ1.out.ne (HQ2.out.ne (HQ3.out.ne x))) hne); omega)
  have HL3 := Lib.hid ((SliceS.still IntU.still) _ _ _ _ _ _ HL3.out (Kept.touch hT (fun k hk hs => ⟨hs, fun e => by have hs' : w.heap.size + 2 ≤ k := hs; omega⟩)))
  have hm7 := hm6.set 5 (.slice ptr3 t3.length cap3) (f' := { foZero 80 with name := t1, text := t2, oids := t3 }) (a' := { foNil with po := ptr3, co := cap3 }) ⟨HL3.out, hm6.lst.lf, hm6.lst.lr, hm6.lst.lp⟩ rfl
  have hT := MsI.tset ((((w4.setCell ⟨w.heap.size + 1, 2, none⟩ (.string t1))).setCell ⟨w.heap.size + 1, 4, none⟩ (.string t2))) w.heap.size 5 (.slice ptr3 t3.length cap3)
  have hs7 := hs6.touch hT (by omega) (fun hne e => by have := Hg.out ((fun x => HQ1.out.ne (HQ2.out.ne (HQ3.out.ne x))) hne); omega)
  clear c3 f3 hT hm4 hm5 hm6 hs4 hs5 hs6
  have Hm7 := Lib.hid hm7
  have Hs7 := Lib.hid hs7
  clear hm7 hs7
  generalize (((((w4.setCell ⟨w.heap.size + 1, 2, none⟩ (.string t1))).setCell ⟨w.heap.size + 1, 4, none⟩ (.string t2))).setCell ⟨w.heap.size + 1, 5, none⟩ (.slice ptr3 t3.length cap3)) = w7 at *
  have c3 : ∀ i, w7.cell? ⟨w.heap.size + 1, i, none⟩ = (#[.int .u8 80, .int .u8 0, .string t1, .string ⟨#[]⟩, .string t2, .slice ptr3 t3.length cap3, .slice none 0 0, .slice none 0 0, .slice none 0 0, .int .i64 0] : Array Value)[i]? := Hm7.out.b3.cell
  have c2 : ∀ i, w7.cell? ⟨w.heap.size, i, none⟩ = (#[.int .u8 0, .int .u8 0, .string ⟨#[]⟩, .string ⟨#[]⟩, .string ⟨#[]⟩, .slice none 0 0, .slice none 0 0, .slice none 0 0, .slice none 0 0, .int .i64 0] : Array Value)[i]? := Hm7.out.b2.cell
  have f2 := Hm7.out.b2.frozen
  go_wp2_with fail
  have hT := setTen_touch w7 w.heap.size (.int .u8 80) (.int .u8 0) (.string t1) (.string ⟨#[]⟩) (.string t2) (.slice ptr3 t3.length cap3) (.slice none 0 0) (.slice none 0 0) (.slice none 0 0) (.int .i64 0)
  have hbf := setTen_blk (.int .u8 80) (.int .u8 0) (.string t1) (.string ⟨#[]⟩) (.string t2) (.slice ptr3 t3.length cap3) (.slice none 0 0) (.slice none 0 0) (.slice none 0 0) (.int .i64 0) Hm7.out.b2
  have hl := Hm7.out.lst.keep (S' := fun k => w.heap.size ≤ k) (Kept.touch hT (fun k hk hs => by have hs' : w.heap.size + 2 ≤ k := hs; exact ⟨by omega, by omega⟩))
  have hs := Hs7.out.touch hT (by omega) (fun hne e => by have := Hg.out ((fun x => HQ1.out.ne (HQ2.out.ne (HQ3.out.ne x))) hne); omega)
  have ht := Hm7.out.tch.then hT (fun k hk e => by omega)
  have HH := Lib.hid (And.intro hl (And.intro hs ht))
  unfold setTen at hbf HH
  have hcf := hbf.cell
  clear hT hbf hl hs ht c2 c3 f2
  refine bodyPost_ret (v := .agg #[.int .u8 80, .int .u8 0, .string t1, .string ⟨#[]⟩, .string t2, .slice ptr3 t3.length cap3, .slice none 0 0, .slice none 0 0, .slice none 0 0, .int .i64 0]) (by simp [results, Tryz.results60, go_sem, hcf]) rfl ?_
  exact ⟨{ foZero 80 with name := t1, text := t2, oids := t3 }, { foNil with po := ptr3, co := cap3 }, L3, b3, rfl, HH.out.1, HH.out.2.1, readP_P HQ1.out HQ2.out HQ3.out, HH.out.2.2⟩

set_option maxRecDepth 100000 in
set_option maxHeartbeats 4000000 in
theorem frmsg_B (sb g : Nat) (L : List UInt8) (bad : Bool) (w : World) (h : RefS w sb g L bad) (hL : L.length ≤ 100000) :
    Calls Tryz.prog 60 #[.pointer (some ⟨sb, 0, none⟩), .int .u8 66] w (frmsgR sb g L bad 66 w) := by
  have hsb := h.lt
  have Hg := Lib.hid (fun e : L ≠ [] => h.ltgF e)
  have hm := MsI.start sb w w 66 (Touch.refl _ w) hsb
  have hs := h.touch (p := fun _ => False) (((Touch.refl _ w).alloc (.cells foZ 46)).alloc (.cells (foCells (foZero 66) foNil) 46)) (fun e => e) (fun _ e => e)
  unfold foZ at hm hs
  rw [show foCells (foZero 66) foNil = #[.int .u8 66, .int .u8 0, .string ⟨#[]⟩, .string ⟨#[]⟩, .string ⟨#[]⟩, .slice none 0 0, .slice none 0 0, .slice none 0 0, .slice none 0 0, .int .i64 0] from rfl] at hm hs
  have Hm1 := Lib.hid hm
  have Hs1 := Lib.hid hs
  clear h hm hs
  go_enter Tryz.func60, Tryz.ntmps60
  go_upto_region 2 with (fail)
  generalize (w.alloc (.cells #[.int .u8 0, .int .u8 0, .string ⟨#[]⟩, .string ⟨#[]⟩, .string ⟨#[]⟩, .slice none 0 0, .slice none 0 0, .slice none 0 0, .slice none 0 0, .int .i64 0] 46)).alloc (.cells #[.int .u8 66, .int .u8 0, .string ⟨#[]⟩, .string ⟨#[]⟩, .string ⟨#[]⟩, .slice none 0 0, .slice none 0 0, .slice none 0 0, .slice none 0 0, .int .i64 0] 46) = w1 at *
  have hl1 : L.length ≤ 100000 := hL
  obtain ⟨t1, L1, b1, hq, hc⟩ := refText_o Hs1.out hl1
  have HQ1 := Lib.hid hq
  have HC := Lib.hid hc
  clear hq hc hl1
  go_wp2_with fail
  refine HC.out.mono ?_
  rintro e w2 ⟨rfl, hs, hT⟩
  have Hm2 := Lib.hid (Hm1.out.step hT)
  have Hs2 := Lib.hid hs
  clear hs hT HC Hm1 Hs1
  have hl2 : L1.length ≤ 100000 := by have q1 := HQ1.out.2.2; omega
  obtain ⟨t2, L2, b2, hq, hc⟩ := refText_o Hs2.out hl2
  have HQ2 := Lib.hid hq
  have HC := Lib.hid hc
  clear hq hc hl2
  go_wp2_with fail
  refine HC.out.mono ?_
  rintro e w3 ⟨rfl, hs, hT⟩
  have Hm3 := Lib.hid (Hm2.out.step hT)
  have Hs3 := Lib.hid hs
  clear hs hT HC Hm2 Hs2
  have hl3 : L2.length ≤ 100000 := by have q1 := HQ1.out.2.2; have q2 := HQ2.out.2.2; omega
  have HC := Lib.hid (fnums_any sb g L2 b2 2 2 (by decide) (by decide) w3 Hs3.out hl3)
  clear hl3
  go_wp2_with fail
  refine HC.out.mono ?_
  rintro e w4 ⟨v, t3, L3, b3, rfl, ho, hs, hq, hT⟩
  obtain ⟨ptr3, cap3, hv, hl⟩ := OwnI.lst (w' := w) ho (w.heap.size + 2) (by have := Hm3.out.b3.lt; omega)
  subst hv
  have HL3 := Lib.hid hl
  have HQ3 := Lib.hid hq
  clear ho hl hq
  have Hm4 := Lib.hid (Hm3.out.step hT)
  have Hs4 := Lib.hid hs
  clear hs hT HC Hm3 Hs3
  have hl4 : L3.length ≤ 100000 := by have q1 := HQ1.out.2.2; have q2 := HQ2.out.2.2; have q3 := HQ3.out.2.2; omega
  have HC := Lib.hid (frrow_any sb g L3 b3 w4 Hs4.out hl4)
  clear hl4
  go_wp2_with fail
  refine HC.out.mono ?_
  rintro e w5 ⟨v, t4, L4, b4, rfl, ho, hs, hq, hT⟩
  obtain ⟨ptr4, cap4, hv, hl⟩ := OwnC.lst (w' := w) ho (w.heap.size + 2) (by have := Hm4.out.b3.lt; omega)
  subst hv
  have HL4 := Lib.hid hl
  have HQ4 := Lib.hid hq
  clear ho hl hq
  have Hm5 := Lib.hid (Hm4.out.step hT)
  have Hs5 := Lib.hid hs
  have HL3 := Lib.hid ((SliceS.still IntU.still) _ _ _ _ _ _ HL3.out (Kept.touch hT (fun k hk hs => ⟨hs, fun e => by have hs' : w.heap.size + 2 ≤ k := hs; omega⟩)))
  clear hs hT HC Hm4 Hs4
  have hl5 : L4.length ≤ 100000 := by have q1 := HQ1.out.2.2; have q2 := HQ2.out.2.2; have q3 := HQ3.out.2.2; have q4 := HQ4.out.2.2; omega
  have HC := Lib.hid (fnums_any sb g L4 b4 2 2 (by decide) (by decide) w5 Hs5.out hl5)
  clear hl5
  go_wp2_with fail
  refine HC.out.mono ?_
  rintro e w6 ⟨v, t5, L5, b5, rfl, ho, hs, hq, hT⟩
  obtain ⟨ptr5, cap5, hv, hl⟩ := OwnI.lst (w' := w) ho (w.heap.size + 2) (by have := Hm5.out.b3.lt; omega)
  subst hv
  have HL5 := Lib.hid hl
  have HQ5 := Lib.hid hq
  clear ho hl hq
  have Hm6 := Lib.hid (Hm5.out.step hT)
  have Hs6 := Lib.hid hs
  have HL3 := Lib.hid ((SliceS.still IntU.still) _ _ _ _ _ _ HL3.out (Kept.touch hT (fun k hk hs => ⟨hs, fun e => by have hs' : w.heap.size + 2 ≤ k := hs; omega⟩)))
  have HL4 := Lib.hid ((SliceS.still CeS.still) _ _ _ _ _ _ HL4.out (Kept.touch hT (fun k hk hs => ⟨hs, fun e => by have hs' : w.heap.size + 2 ≤ k := hs; omega⟩)))
  clear hs hT HC Hm5 Hs5
  have c3 : ∀ i, w6.cell? ⟨w.heap.size + 1, i, none⟩ = (#[.int .u8 66, .int .u8 0, .string ⟨#[]⟩, .string ⟨#[]⟩, .string ⟨#[]⟩, .slice none 0 0, .slice none 0 0, .slice none 0 0, .slice none 0 0, .int .i64 0] : Array Value)[i]? := Hm6.out.b3.cell
  have f3 := Hm6.out.b3.frozen
  go_upto_region 17 with (fail)
  have hm6 := Hm6.out
  have hs6 := Hs6.out
  have hm7 := hm6.set 3 (.string t1) (f' := { foZero 66 with portal := t1 }) (a' := foNil) ⟨hm6.lst.lo, hm6.lst.lf, hm6.lst.lr, hm6.lst.lp⟩ rfl
  have hT := MsI.tset (w6) w.heap.size 3 (.string t1)
  have hs7 := hs6.touch hT (by omega) (fun hne e => by have := Hg.out ((fun x => HQ1.out.ne (HQ2.out.ne (HQ3.out.ne (HQ4.out.ne (HQ5.out.ne x))))) hne); omega)
  have HL3 := Lib.hid ((SliceS.still IntU.still) _ _ _ _ _ _ HL3.out (Kept.touch hT (fun k hk hs => ⟨hs, fun e => by have hs' : w.heap.size + 2 ≤ k := hs; omega⟩)))
  have HL4 := Lib.hid ((SliceS.still CeS.still) _ _ _ _ _ _ HL4.out (Kept.touch hT (fun k hk hs => ⟨hs, fun e => by have hs' : w.heap.size + 2 ≤ k := hs; omega⟩)))
  have HL5 := Lib.hid ((SliceS.still IntU.still) _ _ _ _ _ _ HL5.out (Kept.touch hT (fun k hk hs => ⟨hs, fun e => by have hs' : w.heap.size + 2 ≤ k := hs; omega⟩)))
  have hm8 := hm7.set 2 (.string t2) (f' := { foZero 66 with portal := t1, name := t2 }) (a' := foNil) ⟨hm7.lst.lo, hm7.lst.lf, hm7.lst.lr, hm7.lst.lp⟩ rfl
  have hT := MsI.tset ((w6.setCell ⟨w.heap.size + 1, 3, none⟩ (.string t1))) w.heap.size 2 (.string t2)
  have hs8 := hs7.touch hT (by omega) (fun hne e => by have := Hg.out ((fun x => HQ1.out.ne (HQ2.out.ne (HQ3.out.ne (HQ4.out.ne (HQ5.out.ne x))))) hne); omega)
  have HL3 := Lib.hid ((SliceS.still IntU.still) _ _ _ _ _ _ HL3.out (Kept.touch hT (fun k hk hs => ⟨hs, fun e => by have hs' : w.heap.size + 2 ≤ k := hs; omega⟩)))
  have HL4 := Lib.hid ((SliceS.still CeS.still) _ _ _ _ _ _ HL4.out (Kept.touch hT (fun k hk hs => ⟨hs, fun e => by have hs' : w.heap.size + 2 ≤ k := hs; omega⟩)))
  have HL5 := Lib.hid ((SliceS.still IntU.still) _ _ _ _ _ _ HL5.out (Kept.touch hT (fun k hk hs => ⟨hs, fun e => by have hs' : w.heap.size + 2 ≤ k := hs; omega⟩)))
  have hm9 := hm8.set 6 (.slice ptr3 t3.length cap3) (f' := { foZero 66 with portal := t1, name := t2, formats := t3 }) (a' := { foNil with pf := ptr3, cf := cap3 }) ⟨hm8.lst.lo, HL3.out, hm8.lst.lr, hm8.lst.lp⟩ rfl
  have hT := MsI.tset ((((w6.setCell ⟨w.heap.size + 1, 3, none⟩ (.string t1))).setCell ⟨w.heap.size + 1, 2, none⟩ (.string t2))) w.heap.size 6 (.slice ptr3 t3.length cap3)
  have hs9 := hs8.touch hT (by omega) (fun hne e => by have := Hg.out ((fun x => HQ1.out.ne (HQ2.out.ne (HQ3.out.ne (HQ4.out.ne (HQ5.out.ne x))))) hne); omega)
  have HL4 := Lib.hid ((SliceS.still CeS.still) _ _ _ _ _ _ HL4.out (Kept.touch hT (fun k hk hs => ⟨hs, fun e => by have hs' : w.heap.size + 2 ≤ k := hs; omega⟩)))
  have HL5 := Lib.hid ((SliceS.still IntU.still) _ _ _ _ _ _ HL5.out (Kept.touch hT (fun k hk hs => ⟨hs, fun e => by have hs' : w.heap.size + 2 ≤ k := hs; omega⟩)))
  have hm10 := hm9.set 8 (.slice ptr4 t4.length cap4) (f' := { foZero 66 with portal := t1, name := t2, formats := t3, params := t4 }) (a' := { foNil with pf := ptr3, cf := cap3, pp := ptr4, cp := cap4 }) ⟨hm9.lst.lo, hm9.lst.lf, hm9.lst.lr, HL4.out⟩ rfl
  have hT := MsI.tset ((((((w6.setCell ⟨w.heap.size + 1, 3, none⟩ (.string t1))).setCell ⟨w.heap.size + 1, 2, none⟩ (.string t2))).setCell ⟨w.heap.size + 1, 6, none⟩ (.slice ptr3 t3.length cap3))) w.heap.size 8 (.slice ptr4 t4.length cap4)
  have hs10 := hs9.touch hT (by omega) (fun hne e => by have := Hg.out ((fun x => HQ1.out.ne (HQ2.out.ne (HQ3.out.ne (HQ4.out.ne (HQ5.out.ne x))))) hne); omega)
  have HL5 := Lib.hid ((SliceS.still IntU.still) _ _ _ _ _ _ HL5.out (Kept.touch hT (fun k hk hs => ⟨hs, fun e => by have hs' : w.heap.size + 2 ≤ k := hs; omega⟩)))
  have hm11 := hm10.set 7 (.slice ptr5 t5.length cap5) (f' := { foZero 66 with portal := t1, name := t2, formats := t3, params := t4, results := t5 }) (a' := { foNil with pf := ptr3, cf := cap3, pp := ptr4, cp := cap4, pr := ptr5, cr := cap5 }) ⟨hm10.lst.lo, hm10.lst.lf, HL5.out, hm10.lst.lp⟩ rfl
  have hT := MsI.tset ((((((((w6.setCell ⟨w.heap.size + 1, 3, none⟩ (.string t1))).setCell ⟨w.heap.size + 1, 2, none⟩ (.string t2))).setCell ⟨w.heap.size + 1, 6, none⟩ (.slice ptr3 t3.length cap3))).setCell ⟨w.heap.size + 1, 8, none⟩ (.slice ptr4 t4.length cap4))) w.heap.size 7 (.slice ptr5 t5.length cap5)
  have hs11 := hs10.touch hT (by omega) (fun hne e => by have := Hg.out ((fun x => HQ1.out.ne (HQ2.out.ne (HQ3.out.ne (HQ4.out.ne (HQ5.out.ne x))))) hne); omega)
  clear c3 f3 hT hm6 hm7 hm8 hm9 hm10 hs6 hs7 hs8 hs9 hs10
  have Hm11 := Lib.hid hm11
  have Hs11 := Lib.hid hs11
  clear hm11 hs11
  generalize (((((((((w6.setCell ⟨w.heap.size + 1, 3, none⟩ (.string t1))).setCell ⟨w.heap.size + 1, 2, none⟩ (.string t2))).setCell ⟨w.heap.size + 1, 6, none⟩ (.slice ptr3 t3.length cap3))).setCell ⟨w.heap.size + 1, 8, none⟩ (.slice ptr4 t4.length cap4))).setCell ⟨w.heap.size + 1, 7, none⟩ (.slice ptr5 t5.length cap5)) = w11 at *
  have c3 : ∀ i, w11.cell? ⟨w.heap.size + 1, i, none⟩ = (#[.int .u8 66, .int .u8 0, .string t2, .string t1, .string ⟨#[]⟩, .slice none 0 0, .slice ptr3 t3.length cap3, .slice ptr5 t5.length cap5, .slice ptr4 t4.length cap4, .int .i64 0] : Array Value)[i]? := Hm11.out.b3.cell
  have c2 : ∀ i, w11.cell? ⟨w.heap.size, i, none⟩ = (#[.int .u8 0, .int .u8 0, .string ⟨#[]⟩, .string ⟨#[]⟩, .string ⟨#[]⟩, .slice none 0 0, .slice none 0 0, .slice none 0 0, .slice none 0 0, .int .i64 0] : Array Value)[i]? := Hm11.out.b2.cell
  have f2 := Hm11.out.b2.frozen
  go_wp2_with fail
  have hT := setTen_touch w11 w.heap.size (.int .u8 66) (.int .u8 0) (.string t2) (.string t1) (.string ⟨#[]⟩) (.slice none 0 0) (.slice ptr3 t3.length cap3) (.slice ptr5 t5.length cap5) (.slice ptr4 t4.length cap4) (.int .i64 0)
  have hbf := setTen_blk (.int .u8 66) (.int .u8 0) (.string t2) (.string t1) (.string ⟨#[]⟩) (.slice none 0 0) (.slice ptr3 t3.length cap3) (.slice ptr5 t5.length cap5) (.slice ptr4 t4.length cap4) (.int .i64 0) Hm11.out.b2
  have hl := Hm11.out.lst.keep (S' := fun k => w.heap.size ≤ k) (Kept.touch hT (fun k hk hs => by have hs' : w.heap.size + 2 ≤ k := hs; exact ⟨by omega, by omega⟩))
  have hs := Hs11.out.touch hT (by omega) (fun hne e => by have := Hg.out ((fun x => HQ1.out.ne (HQ2.out.ne (HQ3.out.ne (HQ4.out.ne (HQ5.out.ne x))))) hne); omega)
  have ht := Hm11.out.tch.then hT (fun k hk e => by omega)
  have HH := Lib.hid (And.intro hl (And.intro hs ht))
  unfold setTen at hbf HH
  have hcf := hbf.cell
  clear hT hbf hl hs ht c2 c3 f2
  refine bodyPost_ret (v := .agg #[.int .u8 66, .int .u8 0, .string t2, .string t1, .string ⟨#[]⟩, .slice none 0 0, .slice ptr3 t3.length cap3, .slice ptr5 t5.length cap5, .slice ptr4 t4.length cap4, .int .i64 0]) (by simp [results, Tryz.results60, go_sem, hcf]) rfl ?_
  exact ⟨{ foZero 66 with portal := t1, name := t2, formats := t3, params := t4, results := t5 }, { foNil with pf := ptr3, cf := cap3, pp := ptr4, cp := cap4, pr := ptr5, cr := cap5 }, L5, b5, rfl, HH.out.1, HH.out.2.1, readP_B HQ1.out HQ2.out HQ3.out HQ4.out HQ5.out, HH.out.2.2⟩

set_option maxRecDepth 100000 in
set_option maxHeartbeats 4000000 in
theorem frmsg_Q (sb g : Nat) (L : List UInt8) (bad : Bool) (w : World) (h : RefS w sb g L bad) (hL : L.length ≤ 100000) :
    Calls Tryz.prog 60 #[.pointer (some ⟨sb, 0, none⟩), .int .u8 81] w (frmsgR sb g L bad 81 w) := by
  have hsb := h.lt
  have Hg := Lib.hid (fun e : L ≠ [] => h.ltgF e)
  have hm := MsI.start sb w w 81 (Touch.refl _ w) hsb
  have hs := h.touch (p := fun _ => False) (((Touch.refl _ w).alloc (.cells foZ 46)).alloc (.cells (foCells (foZero 81) foNil) 46)) (fun e => e) (fun _ e => e)
  unfold foZ at hm hs
  rw [show foCells (foZero 81) foNil = #[.int .u8 81, .int .u8 0, .string ⟨#[]⟩, .string ⟨#[]⟩, .string ⟨#[]⟩, .slice none 0 0, .slice none 0 0, .slice none 0 0, .slice none 0 0, .int .i64 0] from rfl] at hm hs
  have Hm1 := Lib.hid hm
  have Hs1 := Lib.hid hs
  clear h hm hs
  go_enter Tryz.func60, Tryz.ntmps60
  go_upto_region 2 with (fail)
  generalize (w.alloc (.cells #[.int .u8 0, .int .u8 0, .string ⟨#[]⟩, .string ⟨#[]⟩, .string ⟨#[]⟩, .slice none 0 0, .slice none 0 0, .slice none 0 0, .slice none 0 0, .int .i64 0] 46)).alloc (.cells #[.int .u8 81, .int .u8 0, .string ⟨#[]⟩, .string ⟨#[]⟩, .string ⟨#[]⟩, .slice none 0 0, .slice none 0 0, .slice none 0 0, .slice none 0 0, .int .i64 0] 46) = w1 at *
  have hl1 : L.length ≤ 100000 := hL
  obtain ⟨t1, L1, b1, hq, hc⟩ := refText_o Hs1.out hl1
  have HQ1 := Lib.hid hq
  have HC := Lib.hid hc
  clear hq hc hl1
  go_wp2_with fail
  refine HC.out.mono ?_
  rintro e w2 ⟨rfl, hs, hT⟩
  have Hm2 := Lib.hid (Hm1.out.step hT)
  have Hs2 := Lib.hid hs
  clear hs hT HC Hm1 Hs1
  have c3 : ∀ i, w2.cell? ⟨w.heap.size + 1, i, none⟩ = (#[.int .u8 81, .int .u8 0, .string ⟨#[]⟩, .string ⟨#[]⟩, .string ⟨#[]⟩, .slice none 0 0, .slice none 0 0, .slice none 0 0, .slice none 0 0, .int .i64 0] : Array Value)[i]? := Hm2.out.b3.cell
  have f3 := Hm2.out.b3.frozen
  go_upto_region 17 with (fail)
  have hm2 := Hm2.out
  have hs2 := Hs2.out
  have hm3 := hm2.set 4 (.string t1) (f' := { foZero 81 with text := t1 }) (a' := foNil) ⟨hm2.lst.lo, hm2.lst.lf, hm2.lst.lr, hm2.lst.lp⟩ rfl
  have hT := MsI.tset (w2) w.heap.size 4 (.string t1)
  have hs3 := hs2.touch hT (by omega) (fun hne e => by have := Hg.out ((fun x => HQ1.out.ne x) hne); omega)
  clear c3 f3 hT hm2 hs2
  have Hm3 := Lib.hid hm3
  have Hs3 := Lib.hid hs3
  clear hm3 hs3
  generalize (w2.setCell ⟨w.heap.size + 1, 4, none⟩ (.string t1)) = w3 at *
  have c3 : ∀ i, w3.cell? ⟨w.heap.size + 1, i, none⟩ = (#[.int .u8 81, .int .u8 0, .string ⟨#[]⟩, .string ⟨#[]⟩, .string t1, .slice none 0 0, .slice none 0 0, .slice none 0 0, .slice none 0 0, .int .i64 0] : Array Value)[i]? := Hm3.out.b3.cell
  have c2 : ∀ i, w3.cell? ⟨w.heap.size, i, none⟩ = (#[.int .u8 0, .int .u8 0, .string ⟨#[]⟩, .string ⟨#[]⟩, .string ⟨#[]⟩, .slice none 0 0, .slice none 0 0, .slice none 0 0, .slice none 0 0, .int .i64 0] : Array Value)[i]? := Hm3.out.b2.cell
  have f2 := Hm3.out.b2.frozen
  go_wp2_with fail
  have hT := setTen_touch w3 w.heap.size (.int .u8 81) (.int .u8 0) (.string ⟨#[]⟩) (.string ⟨#[]⟩) (.string t1) (.slice none 0 0) (.slice none 0 0) (.slice none 0 0) (.slice none 0 0) (.int .i64 0)
  have hbf := setTen_blk (.int .u8 81) (.int .u8 0) (.string ⟨#[]⟩) (.string ⟨#[]⟩) (.string t1) (.slice none 0 0) (.slice none 0 0) (.slice none 0 0) (.slice none 0 0) (.int .i64 0) Hm3.out.b2
  have hl := Hm3.out.lst.keep (S' := fun k => w.heap.size ≤ k) (Kept.touch hT (fun k hk hs => by have hs' : w.heap.size + 2 ≤ k := hs; exact ⟨by omega, by omega⟩))
  have hs := Hs3.out.touch hT (by omega) (fun hne e => by have := Hg.out ((fun x => HQ1.out.ne x) hne); omega)
  have ht := Hm3.out.tch.then hT (fun k hk e => by omega)
  have HH := Lib.hid (And.intro hl (And.intro hs ht))
  unfold setTen at hbf HH
  have hcf := hbf.cell
  clear hT hbf hl hs ht c2 c3 f2
  refine bodyPost_ret (v := .agg #[.int .u8 81, .int .u8 0, .string ⟨#[]⟩, .string ⟨#[]⟩, .string t1, .slice none 0 0, .slice none 0 0, .slice none 0 0, .slice none 0 0, .int .i64 0]) (by simp [results, Tryz.results60, go_sem, hcf]) rfl ?_
  exact ⟨{ foZero 81 with text := t1 }, foNil, L1, b1, rfl, HH.out.1, HH.out.2.1, readP_Q HQ1.out, HH.out.2.2⟩

set_option maxRecDepth 100000 in
set_option maxHeartbeats 4000000 in
theorem frmsg_E (sb g : Nat) (L : List UInt8) (bad : Bool) (w : World) (h : RefS w sb g L bad) (hL : L.length ≤ 100000) :
    Calls Tryz.prog 60 #[.pointer (some ⟨sb, 0, none⟩), .int .u8 69] w (frmsgR sb g L bad 69 w) := by
  have hsb := h.lt
  have Hg := Lib.hid (fun e : L ≠ [] => h.ltgF e)
  have hm := MsI.start sb w w 69 (Touch.refl _ w) hsb
  have hs := h.touch (p := fun _ => False) (((Touch.refl _ w).alloc (.cells foZ 46)).alloc (.cells (foCells (foZero 69) foNil) 46)) (fun e => e) (fun _ e => e)
  unfold foZ at hm hs
  rw [show foCells (foZero 69) foNil = #[.int .u8 69, .int .u8 0, .string ⟨#[]⟩, .string ⟨#[]⟩, .string ⟨#[]⟩, .slice none 0 0, .slice none 0 0, .slice none 0 0, .slice none 0 0, .int .i64 0] from rfl] at hm hs
  have Hm1 := Lib.hid hm
  have Hs1 := Lib.hid hs
  clear h hm hs
  go_enter Tryz.func60, Tryz.ntmps60
  go_upto_region 2 with (fail)
  generalize (w.alloc (.cells #[.int .u8 0, .int .u8 0, .string ⟨#[]⟩, .string ⟨#[]⟩, .string ⟨#[]⟩, .slice none 0 0, .slice none 0 0, .slice none 0 0, .slice none 0 0, .int .i64 0] 46)).alloc (.cells #[.int .u8 69, .int .u8 0, .string ⟨#[]⟩, .string ⟨#[]⟩, .string ⟨#[]⟩, .slice none 0 0, .slice none 0 0, .slice none 0 0, .slice none 0 0, .int .i64 0] 46) = w1 at *
  have hl1 : L.length ≤ 100000 := hL
  obtain ⟨t1, L1, b1, hq, hc⟩ := refText_o Hs1.out hl1
  have HQ1 := Lib.hid hq
  have HC := Lib.hid hc
  clear hq hc hl1
  go_wp2_with fail
  refine HC.out.mono ?_
  rintro e w2 ⟨rfl, hs, hT⟩
  have Hm2 := Lib.hid (Hm1.out.step hT)
  have Hs2 := Lib.hid hs
  clear hs hT HC Hm1 Hs1
  have hl2 : L1.length ≤ 100000 := by have q1 := HQ1.out.2.2; omega
  obtain ⟨t2, L2, b2, hq, ht, hc⟩ := refNum_o Hs2.out 4 4 (by decide)
  have HG := Lib.hid (fun w => signedR_any t2 4 w)
  obtain ⟨sg, hsg⟩ : ∃ sg, signedV t2 4 = sg := ⟨_, rfl⟩
  rw [hsg] at HG
  have HSg := Lib.hid hsg
  clear hsg
  have HQ2 := Lib.hid hq
  have HC := Lib.hid hc
  clear hq hc hl2 ht
  go_wp2_with fail
  refine HC.out.mono ?_
  rintro e w3 ⟨rfl, hs, hT⟩
  have Hm3 := Lib.hid (Hm2.out.step hT)
  have Hs3 := Lib.hid hs
  clear hs hT HC Hm2 Hs2
  go_wp2_with fail
  refine (HG.out w3).mono ?_
  rintro e wx ⟨rfl, rfl⟩
  have c3 : ∀ i, w3.cell? ⟨w.heap.size + 1, i, none⟩ = (#[.int .u8 69, .int .u8 0, .string ⟨#[]⟩, .string ⟨#[]⟩, .string ⟨#[]⟩, .slice none 0 0, .slice none 0 0, .slice none 0 0, .slice none 0 0, .int .i64 0] : Array Value)[i]? := Hm3.out.b3.cell
  have f3 := Hm3.out.b3.frozen
  go_upto_region 17 with (fail)
  have hm3 := Hm3.out
  have hs3 := Hs3.out
  have hm4 := hm3.set 3 (.string t1) (f' := { foZero 69 with portal := t1 }) (a' := foNil) ⟨hm3.lst.lo, hm3.lst.lf, hm3.lst.lr, hm3.lst.lp⟩ rfl
  have hT := MsI.tset (w3) w.heap.size 3 (.string t1)
  have hs4 := hs3.touch hT (by omega) (fun hne e => by have := Hg.out ((fun x => HQ1.out.ne (HQ2.out.ne x)) hne); omega)
  have hm5 := hm4.set 9 (.int .i64 sg) (f' := { foZero 69 with portal := t1, max := sg }) (a' := foNil) ⟨hm4.lst.lo, hm4.lst.lf, hm4.lst.lr, hm4.lst.lp⟩ rfl
  have hT := MsI.tset ((w3.setCell ⟨w.heap.size + 1, 3, none⟩ (.string t1))) w.heap.size 9 (.int .i64 sg)
  have hs5 := hs4.touch hT (by omega) (fun hne e => by have := Hg.out ((fun x => HQ1.out.ne (HQ2.out.ne x)) hne); omega)
  clear c3 f3 hT hm3 hm4 hs3 hs4
  have Hm5 := Lib.hid hm5
  have Hs5 := Lib.hid hs5
  clear hm5 hs5
  generalize (((w3.setCell ⟨w.heap.size + 1, 3, none⟩ (.string t1))).setCell ⟨w.heap.size + 1, 9, none⟩ (.int .i64 sg)) = w5 at *
  have c3 : ∀ i, w5.cell? ⟨w.heap.size + 1, i, none⟩ = (#[.int .u8 69, .int .u8 0, .string ⟨#[]⟩, .string t1, .string ⟨#[]⟩, .slice none 0 0, .slice none 0 0, .slice none 0 0, .slice none 0 0, .int .i64 sg] : Array Value)[i]? := Hm5.out.b3.cell
  have c2 : ∀ i, w5.cell? ⟨w.heap.size, i, none⟩ = (#[.int .u8 0, .int .u8 0, .string ⟨#[]⟩, .string ⟨#[]⟩, .string ⟨#[]⟩, .slice none 0 0, .slice none 0 0, .slice none 0 0, .slice none 0 0, .int .i64 0] : Array Value)[i]? := Hm5.out.b2.cell
  have f2 := Hm5.out.b2.frozen
  go_wp2_with fail
  have hT := setTen_touch w5 w.heap.size (.int .u8 69) (.int .u8 0) (.string ⟨#[]⟩) (.string t1) (.string ⟨#[]⟩) (.slice none 0 0) (.slice none 0 0) (.slice none 0 0) (.slice none 0 0) (.int .i64 sg)
  have hbf := setTen_blk (.int .u8 69) (.int .u8 0) (.string ⟨#[]⟩) (.string t1) (.string ⟨#[]⟩) (.slice none 0 0) (.slice none 0 0) (.slice none 0 0) (.slice none 0 0) (.int .i64 sg) Hm5.out.b2
  have hl := Hm5.out.lst.keep (S' := fun k => w.heap.size ≤ k) (Kept.touch hT (fun k hk hs => by have hs' : w.heap.size + 2 ≤ k := hs; exact ⟨by omega, by omega⟩))
  have hs := Hs5.out.touch hT (by omega) (fun hne e => by have := Hg.out ((fun x => HQ1.out.ne (HQ2.out.ne x)) hne); omega)
  have ht := Hm5.out.tch.then hT (fun k hk e => by omega)
  have HH := Lib.hid (And.intro hl (And.intro hs ht))
  unfold setTen at hbf HH
  have hcf := hbf.cell
  clear hT hbf hl hs ht c2 c3 f2
  refine bodyPost_ret (v := .agg #[.int .u8 69, .int .u8 0, .string ⟨#[]⟩, .string t1, .string ⟨#[]⟩, .slice none 0 0, .slice none 0 0, .slice none 0 0, .slice none 0 0, .int .i64 sg]) (by simp [results, Tryz.results60, go_sem, hcf]) rfl ?_
  exact ⟨{ foZero 69 with portal := t1, max := sg }, foNil, L2, b2, rfl, HH.out.1, HH.out.2.1, (by rw [← HSg.out]; exact readP_E HQ1.out HQ2.out), HH.out.2.2⟩

set_option maxRecDepth 100000 in
set_option maxHeartbeats 4000000 in
theorem frmsg_67 (sb g : Nat) (L : List UInt8) (bad : Bool) (w : World) (h : RefS w sb g L bad) (hL : L.length ≤ 100000) :
    Calls Tryz.prog 60 #[.pointer (some ⟨sb, 0, none⟩), .int .u8 67] w (frmsgR sb g L bad 67 w) := by
  have hsb := h.lt
  have Hg := Lib.hid (fun e : L ≠ [] => h.ltgF e)
  have hm := MsI.start sb w w 67 (Touch.refl _ w) hsb
  have hs := h.touch (p := fun _ => False) (((Touch.refl _ w).alloc (.cells foZ 46)).alloc (.cells (foCells (foZero 67) foNil) 46)) (fun e => e) (fun _ e => e)
  unfold foZ at hm hs
  rw [show foCells (foZero 67) foNil = #[.int .u8 67, .int .u8 0, .string ⟨#[]⟩, .string ⟨#[]⟩, .string ⟨#[]⟩, .slice none 0 0, .slice none 0 0, .slice none 0 0, .slice none 0 0, .int .i64 0] from rfl] at hm hs
  have Hm1 := Lib.hid hm
  have Hs1 := Lib.hid hs
  clear h hm hs
  go_enter Tryz.func60, Tryz.ntmps60
  go_upto_region 2 with (fail)
  generalize (w.alloc (.cells #[.int .u8 0, .int .u8 0, .string ⟨#[]⟩, .string ⟨#[]⟩, .string ⟨#[]⟩, .slice none 0 0, .slice none 0 0, .slice none 0 0, .slice none 0 0, .int .i64 0] 46)).alloc (.cells #[.int .u8 67, .int .u8 0, .string ⟨#[]⟩, .string ⟨#[]⟩, .string ⟨#[]⟩, .slice none 0 0, .slice none 0 0, .slice none 0 0, .slice none 0 0, .int .i64 0] 46) = w1 at *
  have hl1 : L.length ≤ 100000 := hL
  obtain ⟨t1, L1, b1, hq, ht, hc⟩ := refNum_o Hs1.out 1 1 (by decide)
  have hwr : IntKind.u8.wrap t1 = t1 := by rw [ht]; exact num8w _ _
  have HQ1 := Lib.hid hq
  have HC := Lib.hid hc
  clear hq hc hl1 ht
  go_wp2_with fail
  refine HC.out.mono ?_
  rintro e w2 ⟨rfl, hs, hT⟩
  have Hm2 := Lib.hid (Hm1.out.step hT)
  have Hs2 := Lib.hid hs
  clear hs hT HC Hm1 Hs1
  have c3 : ∀ i, w2.cell? ⟨w.heap.size + 1, i, none⟩ = (#[.int .u8 67, .int .u8 0, .string ⟨#[]⟩, .string ⟨#[]⟩, .string ⟨#[]⟩, .slice none 0 0, .slice none 0 0, .slice none 0 0, .slice none 0 0, .int .i64 0] : Array Value)[i]? := Hm2.out.b3.cell
  have f3 := Hm2.out.b3.frozen
  go_upto_region 10 with (fail)
  try simp only [hwr]
  have hm2 := Hm2.out
  have hs2 := Hs2.out
  have hm3 := hm2.set 1 (.int .u8 t1) (f' := { foZero 67 with what := t1 }) (a' := foNil) ⟨hm2.lst.lo, hm2.lst.lf, hm2.lst.lr, hm2.lst.lp⟩ rfl
  have hT := MsI.tset (w2) w.heap.size 1 (.int .u8 t1)
  have hs3 := hs2.touch hT (by omega) (fun hne e => by have := Hg.out ((fun x => HQ1.out.ne x) hne); omega)
  clear c3 f3 hT hm2 hs2
  have Hm3 := Lib.hid hm3
  have Hs3 := Lib.hid hs3
  clear hm3 hs3
  generalize (w2.setCell ⟨w.heap.size + 1, 1, none⟩ (.int .u8 t1)) = w3 at *
  by_cases hx : t1 = 83
  · subst hx
    have c0 : ∀ i, w3.cell? ⟨w.heap.size + 1, i, none⟩ = (#[.int .u8 67, .int .u8 83, .string ⟨#[]⟩, .string ⟨#[]⟩, .string ⟨#[]⟩, .slice none 0 0, .slice none 0 0, .slice none 0 0, .slice none 0 0, .int .i64 0] : Array Value)[i]? := Hm3.out.b3.cell
    have hl2 : L1.length ≤ 100000 := by have q1 := HQ1.out.2.2; omega
    obtain ⟨t2, L2, b2, hq, hc⟩ := refText_o Hs3.out hl2
    have HQ2 := Lib.hid hq
    have HC := Lib.hid hc
    clear hq hc hl2
    go_wp2_with fail
    refine HC.out.mono ?_
    rintro e w4 ⟨rfl, hs, hT⟩
    have Hm4 := Lib.hid (Hm3.out.step hT)
    have Hs4 := Lib.hid hs
    clear hs hT HC Hm3 Hs3
    have c3 : ∀ i, w4.cell? ⟨w.heap.size + 1, i, none⟩ = (#[.int .u8 67, .int .u8 83, .string ⟨#[]⟩, .string ⟨#[]⟩, .string ⟨#[]⟩, .slice none 0 0, .slice none 0 0, .slice none 0 0, .slice none 0 0, .int .i64 0] : Array Value)[i]? := Hm4.out.b3.cell
    have f3 := Hm4.out.b3.frozen
    clear c0
    go_upto_region 17 with (fail)
    have hm4 := Hm4.out
    have hs4 := Hs4.out
    have hm5 := hm4.set 2 (.string t2) (f' := { foZero 67 with what := 83, name := t2 }) (a' := foNil) ⟨hm4.lst.lo, hm4.lst.lf, hm4.lst.lr, hm4.lst.lp⟩ rfl
    have hT := MsI.tset (w4) w.heap.size 2 (.string t2)
    have hs5 := hs4.touch hT (by omega) (fun hne e => by have := Hg.out ((fun x => HQ1.out.ne (HQ2.out.ne x)) hne); omega)
    clear c3 f3 hT hm4 hs4
    have Hm5 := Lib.hid hm5
    have Hs5 := Lib.hid hs5
    clear hm5 hs5
    generalize (w4.setCell ⟨w.heap.size + 1, 2, none⟩ (.string t2)) = w5 at *
    have c3 : ∀ i, w5.cell? ⟨w.heap.size + 1, i, none⟩ = (#[.int .u8 67, .int .u8 83, .string t2, .string ⟨#[]⟩, .string ⟨#[]⟩, .slice none 0 0, .slice none 0 0, .slice none 0 0, .slice none 0 0, .int .i64 0] : Array Value)[i]? := Hm5.out.b3.cell
    have c2 : ∀ i, w5.cell? ⟨w.heap.size, i, none⟩ = (#[.int .u8 0, .int .u8 0, .string ⟨#[]⟩, .string ⟨#[]⟩, .string ⟨#[]⟩, .slice none 0 0, .slice none 0 0, .slice none 0 0, .slice none 0 0, .int .i64 0] : Array Value)[i]? := Hm5.out.b2.cell
    have f2 := Hm5.out.b2.frozen
    go_wp2_with fail
    have hT := setTen_touch w5 w.heap.size (.int .u8 67) (.int .u8 83) (.string t2) (.string ⟨#[]⟩) (.string ⟨#[]⟩) (.slice none 0 0) (.slice none 0 0) (.slice none 0 0) (.slice none 0 0) (.int .i64 0)
    have hbf := setTen_blk (.int .u8 67) (.int .u8 83) (.string t2) (.string ⟨#[]⟩) (.string ⟨#[]⟩) (.slice none 0 0) (.slice none 0 0) (.slice none 0 0) (.slice none 0 0) (.int .i64 0) Hm5.out.b2
    have hl := Hm5.out.lst.keep (S' := fun k => w.heap.size ≤ k) (Kept.touch hT (fun k hk hs => by have hs' : w.heap.size + 2 ≤ k := hs; exact ⟨by omega, by omega⟩))
    have hs := Hs5.out.touch hT (by omega) (fun hne e => by have := Hg.out ((fun x => HQ1.out.ne (HQ2.out.ne x)) hne); omega)
    have ht := Hm5.out.tch.then hT (fun k hk e => by omega)
    have HH := Lib.hid (And.intro hl (And.intro hs ht))
    unfold setTen at hbf HH
    have hcf := hbf.cell
    clear hT hbf hl hs ht c2 c3 f2
    refine bodyPost_ret (v := .agg #[.int .u8 67, .int .u8 83, .string t2, .string ⟨#[]⟩, .string ⟨#[]⟩, .slice none 0 0, .slice none 0 0, .slice none 0 0, .slice none 0 0, .int .i64 0]) (by simp [results, Tryz.results60, go_sem, hcf]) rfl ?_
    exact ⟨{ foZero 67 with what := 83, name := t2 }, foNil, L2, b2, rfl, HH.out.1, HH.out.2.1, (by have h := readP_C (k := 67) (.inl rfl) HQ1.out HQ2.out; rw [if_pos rfl] at h; exact h), HH.out.2.2⟩
  · have gx : (t1 == 83) = false := by simpa using hx
    have Hx := Lib.hid hx
    clear hx
    have c0 : ∀ i, w3.cell? ⟨w.heap.size + 1, i, none⟩ = (#[.int .u8 67, .int .u8 t1, .string ⟨#[]⟩, .string ⟨#[]⟩, .string ⟨#[]⟩, .slice none 0 0, .slice none 0 0, .slice none 0 0, .slice none 0 0, .int .i64 0] : Array Value)[i]? := Hm3.out.b3.cell
    have hl2 : L1.length ≤ 100000 := by have q1 := HQ1.out.2.2; omega
    obtain ⟨t2, L2, b2, hq, hc⟩ := refText_o Hs3.out hl2
    have HQ2 := Lib.hid hq
    have HC := Lib.hid hc
    clear hq hc hl2
    go_wp2_with fail
    refine HC.out.mono ?_
    rintro e w4 ⟨rfl, hs, hT⟩
    have Hm4 := Lib.hid (Hm3.out.step hT)
    have Hs4 := Lib.hid hs
    clear hs hT HC Hm3 Hs3
    have c3 : ∀ i, w4.cell? ⟨w.heap.size + 1, i, none⟩ = (#[.int .u8 67, .int .u8 t1, .string ⟨#[]⟩, .string ⟨#[]⟩, .string ⟨#[]⟩, .slice none 0 0, .slice none 0 0, .slice none 0 0, .slice none 0 0, .int .i64 0] : Array Value)[i]? := Hm4.out.b3.cell
    have f3 := Hm4.out.b3.frozen
    clear c0
    go_upto_region 17 with (fail)
    have hm4 := Hm4.out
    have hs4 := Hs4.out
    have hm5 := hm4.set 3 (.string t2) (f' := { foZero 67 with what := t1, portal := t2 }) (a' := foNil) ⟨hm4.lst.lo, hm4.lst.lf, hm4.lst.lr, hm4.lst.lp⟩ rfl
    have hT := MsI.tset (w4) w.heap.size 3 (.string t2)
    have hs5 := hs4.touch hT (by omega) (fun hne e => by have := Hg.out ((fun x => HQ1.out.ne (HQ2.out.ne x)) hne); omega)
    clear c3 f3 hT hm4 hs4
    have Hm5 := Lib.hid hm5
    have Hs5 := Lib.hid hs5
    clear hm5 hs5
    generalize (w4.setCell ⟨w.heap.size + 1, 3, none⟩ (.string t2)) = w5 at *
    have c3 : ∀ i, w5.cell? ⟨w.heap.size + 1, i, none⟩ = (#[.int .u8 67, .int .u8 t1, .string ⟨#[]⟩, .string t2, .string ⟨#[]⟩, .slice none 0 0, .slice none 0 0, .slice none 0 0, .slice none 0 0, .int .i64 0] : Array Value)[i]? := Hm5.out.b3.cell
    have c2 : ∀ i, w5.cell? ⟨w.heap.size, i, none⟩ = (#[.int .u8 0, .int .u8 0, .string ⟨#[]⟩, .string ⟨#[]⟩, .string ⟨#[]⟩, .slice none 0 0, .slice none 0 0, .slice none 0 0, .slice none 0 0, .int .i64 0] : Array Value)[i]? := Hm5.out.b2.cell
    have f2 := Hm5.out.b2.frozen
    go_wp2_with fail
    have hT := setTen_touch w5 w.heap.size (.int .u8 67) (.int .u8 t1) (.string ⟨#[]⟩) (.string t2) (.string ⟨#[]⟩) (.slice none 0 0) (.slice none 0 0) (.slice none 0 0) (.slice none 0 0) (.int .i64 0)
    have hbf := setTen_blk (.int .u8 67) (.int .u8 t1) (.string ⟨#[]⟩) (.string t2) (.string ⟨#[]⟩) (.slice none 0 0) (.slice none 0 0) (.slice none 0 0) (.slice none 0 0) (.int .i64 0) Hm5.out.b2
    have hl := Hm5.out.lst.keep (S' := fun k => w.heap.size ≤ k) (Kept.touch hT (fun k hk hs => by have hs' : w.heap.size + 2 ≤ k := hs; exact ⟨by omega, by omega⟩))
    have hs := Hs5.out.touch hT (by omega) (fun hne e => by have := Hg.out ((fun x => HQ1.out.ne (HQ2.out.ne x)) hne); omega)
    have ht := Hm5.out.tch.then hT (fun k hk e => by omega)
    have HH := Lib.hid (And.intro hl (And.intro hs ht))
    unfold setTen at hbf HH
    have hcf := hbf.cell
    clear hT hbf hl hs ht c2 c3 f2
    refine bodyPost_ret (v := .agg #[.int .u8 67, .int .u8 t1, .string ⟨#[]⟩, .string t2, .string ⟨#[]⟩, .slice none 0 0, .slice none 0 0, .slice none 0 0, .slice none 0 0, .int .i64 0]) (by simp [results, Tryz.results60, go_sem, hcf]) rfl ?_
    exact ⟨{ foZero 67 with what := t1, portal := t2 }, foNil, L2, b2, rfl, HH.out.1, HH.out.2.1, (by have h := readP_C (k := 67) (.inl rfl) HQ1.out HQ2.out; rw [if_neg Hx.out] at h; exact h), HH.out.2.2⟩

set_option maxRecDepth 100000 in
set_option maxHeartbeats 4000000 in
theorem frmsg_68 (sb g : Nat) (L : List UInt8) (bad : Bool) (w : World) (h : RefS w sb g L bad) (hL : L.length ≤ 100000) :
    Calls Tryz.prog 60 #[.pointer (some ⟨sb, 0, none⟩), .int .u8 68] w (frmsgR sb g L bad 68 w) := by
  have hsb := h.lt
  have Hg := Lib.hid (fun e : L ≠ [] => h.ltgF e)
  have hm := MsI.start sb w w 68 (Touch.refl _ w) hsb
  have hs := h.touch (p := fun _ => False) (((Touch.refl _ w).alloc (.cells foZ 46)).alloc (.cells (foCells (foZero 68) foNil) 46)) (fun e => e) (fun _ e => e)
  unfold foZ at hm hs
  rw [show foCells (foZero 68) foNil = #[.int .u8 68, .int .u8 0, .string ⟨#[]⟩, .string ⟨#[]⟩, .string ⟨#[]⟩, .slice none 0 0, .slice none 0 0, .slice none 0 0, .slice none 0 0, .int .i64 0] from rfl] at hm hs
  have Hm1 := Lib.hid hm
  have Hs1 := Lib.hid hs
  clear h hm hs
  go_enter Tryz.func60, Tryz.ntmps60
  go_upto_region 2 with (fail)
  generalize (w.alloc (.cells #[.int .u8 0, .int .u8 0, .string ⟨#[]⟩, .string ⟨#[]⟩, .string ⟨#[]⟩, .slice none 0 0, .slice none 0 0, .slice none 0 0, .slice none 0 0, .int .i64 0] 46)).alloc (.cells #[.int .u8 68, .int .u8 0, .string ⟨#[]⟩, .string ⟨#[]⟩, .string ⟨#[]⟩, .slice none 0 0, .slice none 0 0, .slice none 0 0, .slice none 0 0, .int .i64 0] 46) = w1 at *
  have hl1 : L.length ≤ 100000 := hL
  obtain ⟨t1, L1, b1, hq, ht, hc⟩ := refNum_o Hs1.out 1 1 (by decide)
  have hwr : IntKind.u8.wrap t1 = t1 := by rw [ht]; exact num8w _ _
  have HQ1 := Lib.hid hq
  have HC := Lib.hid hc
  clear hq hc hl1 ht
  go_wp2_with fail
  refine HC.out.mono ?_
  rintro e w2 ⟨rfl, hs, hT⟩
  have Hm2 := Lib.hid (Hm1.out.step hT)
  have Hs2 := Lib.hid hs
  clear hs hT HC Hm1 Hs1
  have c3 : ∀ i, w2.cell? ⟨w.heap.size + 1, i, none⟩ = (#[.int .u8 68, .int .u8 0, .string ⟨#[]⟩, .string ⟨#[]⟩, .string ⟨#[]⟩, .slice none 0 0, .slice none 0 0, .slice none 0 0, .slice none 0 0, .int .i64 0] : Array Value)[i]? := Hm2.out.b3.cell
  have f3 := Hm2.out.b3.frozen
  go_upto_region 10 with (fail)
  try simp only [hwr]
  have hm2 := Hm2.out
  have hs2 := Hs2.out
  have hm3 := hm2.set 1 (.int .u8 t1) (f' := { foZero 68 with what := t1 }) (a' := foNil) ⟨hm2.lst.lo, hm2.lst.lf, hm2.lst.lr, hm2.lst.lp⟩ rfl
  have hT := MsI.tset (w2) w.heap.size 1 (.int .u8 t1)
  have hs3 := hs2.touch hT (by omega) (fun hne e => by have := Hg.out ((fun x => HQ1.out.ne x) hne); omega)
  clear c3 f3 hT hm2 hs2
  have Hm3 := Lib.hid hm3
  have Hs3 := Lib.hid hs3
  clear hm3 hs3
  generalize (w2.setCell ⟨w.heap.size + 1, 1, none⟩ (.int .u8 t1)) = w3 at *
  by_cases hx : t1 = 83
  · subst hx
    have c0 : ∀ i, w3.cell? ⟨w.heap.size + 1, i, none⟩ = (#[.int .u8 68, .int .u8 83, .string ⟨#[]⟩, .string ⟨#[]⟩, .string ⟨#[]⟩, .slice none 0 0, .slice none 0 0, .slice none 0 0, .slice none 0 0, .int .i64 0] : Array Value)[i]? := Hm3.out.b3.cell
    have hl2 : L1.length ≤ 100000 := by have q1 := HQ1.out.2.2; omega
    obtain ⟨t2, L2, b2, hq, hc⟩ := refText_o Hs3.out hl2
    have HQ2 := Lib.hid hq
    have HC := Lib.hid hc
    clear hq hc hl2
    go_wp2_with fail
    refine HC.out.mono ?_
    rintro e w4 ⟨rfl, hs, hT⟩
    have Hm4 := Lib.hid (Hm3.out.step hT)
    have Hs4 := Lib.hid hs
    clear hs hT HC Hm3 Hs3
    have c3 : ∀ i, w4.cell? ⟨w.heap.size + 1, i, none⟩ = (#[.int .u8 68, .int .u8 83, .string ⟨#[]⟩, .string ⟨#[]⟩, .string ⟨#[]⟩, .slice none 0 0, .slice none 0 0, .slice none 0 0, .slice none 0 0, .int .i64 0] : Array Value)[i]? := Hm4.out.b3.cell
    have f3 := Hm4.out.b3.frozen
    clear c0
    go_upto_region 17 with (fail)
    have hm4 := Hm4.out
    have hs4 := Hs4.out
    have hm5 := hm4.set 2 (.string t2) (f' := { foZero 68 with what := 83, name := t2 }) (a' := foNil) ⟨hm4.lst.lo, hm4.lst.lf, hm4.lst.lr, hm4.lst.lp⟩ rfl
    have hT := MsI.tset (w4) w.heap.size 2 (.string t2)
    have hs5 := hs4.touch hT (by omega) (fun hne e => by have := Hg.out ((fun x => HQ1.out.ne (HQ2.out.ne x)) hne); omega)
    clear c3 f3 hT hm4 hs4
    have Hm5 := Lib.hid hm5
    have Hs5 := Lib.hid hs5
    clear hm5 hs5
    generalize (w4.setCell ⟨w.heap.size + 1, 2, none⟩ (.string t2)) = w5 at *
    have c3 : ∀ i, w5.cell? ⟨w.heap.size + 1, i, none⟩ = (#[.int .u8 68, .int .u8 83, .string t2, .string ⟨#[]⟩, .string ⟨#[]⟩, .slice none 0 0, .slice none 0 0, .slice none 0 0, .slice none 0 0, .int .i64 0] : Array Value)[i]? := Hm5.out.b3.cell
    have c2 : ∀ i, w5.cell? ⟨w.heap.size, i, none⟩ = (#[.int .u8 0, .int .u8 0, .string ⟨#[]⟩, .string ⟨#[]⟩, .string ⟨#[]⟩, .slice none 0 0, .slice none 0 0, .slice none 0 0, .slice none 0 0, .int .i64 0] : Array Value)[i]? := Hm5.out.b2.cell
    have f2 := Hm5.out.b2.frozen
    go_wp2_with fail
    have hT := setTen_touch w5 w.heap.size (.int .u8 68) (.int .u8 83) (.string t2) (.string ⟨#[]⟩) (.string ⟨#[]⟩) (.slice none 0 0) (.slice none 0 0) (.slice none 0 0) (.slice none 0 0) (.int .i64 0)
    have hbf := setTen_blk (.int .u8 68) (.int .u8 83) (.string t2) (.string ⟨#[]⟩) (.string ⟨#[]⟩) (.slice none 0 0) (.slice none 0 0) (.slice none 0 0) (.slice none 0 0) (.int .i64 0) Hm5.out.b2
    have hl := Hm5.out.lst.keep (S' := fun k => w.heap.size ≤ k) (Kept.touch hT (fun k hk hs => by have hs' : w.heap.size + 2 ≤ k := hs; exact ⟨by omega, by omega⟩))
    have hs := Hs5.out.touch hT (by omega) (fun hne e => by have := Hg.out ((fun x => HQ1.out.ne (HQ2.out.ne x)) hne); omega)
    have ht := Hm5.out.tch.then hT (fun k hk e => by omega)
    have HH := Lib.hid (And.intro hl (And.intro hs ht))
    unfold setTen at hbf HH
    have hcf := hbf.cell
    clear hT hbf hl hs ht c2 c3 f2
    refine bodyPost_ret (v := .agg #[.int .u8 68, .int .u8 83, .string t2, .string ⟨#[]⟩, .string ⟨#[]⟩, .slice none 0 0, .slice none 0 0, .slice none 0 0, .slice none 0 0, .int .i64 0]) (by simp [results, Tryz.results60, go_sem, hcf]) rfl ?_
    exact ⟨{ foZero 68 with what := 83, name := t2 }, foNil, L2, b2, rfl, HH.out.1, HH.out.2.1, (by have h := readP_C (k := 68) (.inr rfl) HQ1.out HQ2.out; rw [if_pos rfl] at h; exact h), HH.out.2.2⟩
  · have gx : (t1 == 83) = false := by simpa using hx
    have Hx := Lib.hid hx
    clear hx
    have c0 : ∀ i, w3.cell? ⟨w.heap.size + 1, i, none⟩ = (#[.int .u8 68, .int .u8 t1, .string ⟨#[]⟩, .string ⟨#[]⟩, .string ⟨#[]⟩, .slice none 0 0, .slice none 0 0, .slice none 0 0, .slice none 0 0, .int .i64 0] : Array Value)[i]? := Hm3.out.b3.cell
    have hl2 : L1.length ≤ 100000 := by have q1 := HQ1.out.2.2; omega
    obtain ⟨t2, L2, b2, hq, hc⟩ := refText_o Hs3.out hl2
    have HQ2 := Lib.hid hq
    have HC := Lib.hid hc
    clear hq hc hl2
    go_wp2_with fail
    refine HC.out.mono ?_
    rintro e w4 ⟨rfl, hs, hT⟩
    have Hm4 := Lib.hid (Hm3.out.step hT)
    have Hs4 := Lib.hid hs
    clear hs hT HC Hm3 Hs3
    have c3 : ∀ i, w4.cell? ⟨w.heap.size + 1, i, none⟩ = (#[.int .u8 68, .int .u8 t1, .string ⟨#[]⟩, .string ⟨#[]⟩, .string ⟨#[]⟩, .slice none 0 0, .slice none 0 0, .slice none 0 0, .slice none 0 0, .int .i64 0] : Array Value)[i]? := Hm4.out.b3.cell
    have f3 := Hm4.out.b3.frozen
    clear c0
    go_upto_region 17 with (fail)
    have hm4 := Hm4.out
    have hs4 := Hs4.out
    have hm5 := hm4.set 3 (.string t2) (f' := { foZero 68 with what := t1, portal := t2 }) (a' := foNil) ⟨hm4.lst.lo, hm4.lst.lf, hm4.lst.lr, hm4.lst.lp⟩ rfl
    have hT := MsI.tset (w4) w.heap.size 3 (.string t2)
    have hs5 := hs4.touch hT (by omega) (fun hne e => by have := Hg.out ((fun x => HQ1.out.ne (HQ2.out.ne x)) hne); omega)
    clear c3 f3 hT hm4 hs4
    have Hm5 := Lib.hid hm5
    have Hs5 := Lib.hid hs5
    clear hm5 hs5
    generalize (w4.setCell ⟨w.heap.size + 1, 3, none⟩ (.string t2)) = w5 at *
    have c3 : ∀ i, w5.cell? ⟨w.heap.size + 1, i, none⟩ = (#[.int .u8 68, .int .u8 t1, .string ⟨#[]⟩, .string t2, .string ⟨#[]⟩, .slice none 0 0, .slice none 0 0, .slice none 0 0, .slice none 0 0, .int .i64 0] : Array Value)[i]? := Hm5.out.b3.cell
    have c2 : ∀ i, w5.cell? ⟨w.heap.size, i, none⟩ = (#[.int .u8 0, .int .u8 0, .string ⟨#[]⟩, .string ⟨#[]⟩, .string ⟨#[]⟩, .slice none 0 0, .slice none 0 0, .slice none 0 0, .slice none 0 0, .int .i64 0] : Array Value)[i]? := Hm5.out.b2.cell
    have f2 := Hm5.out.b2.frozen
    go_wp2_with fail
    have hT := setTen_touch w5 w.heap.size (.int .u8 68) (.int .u8 t1) (.string ⟨#[]⟩) (.string t2) (.string ⟨#[]⟩) (.slice none 0 0) (.slice none 0 0) (.slice none 0 0) (.slice none 0 0) (.int .i64 0)
    have hbf := setTen_blk (.int .u8 68) (.int .u8 t1) (.string ⟨#[]⟩) (.string t2) (.string ⟨#[]⟩) (.slice none 0 0) (.slice none 0 0) (.slice none 0 0) (.slice none 0 0) (.int .i64 0) Hm5.out.b2
    have hl := Hm5.out.lst.keep (S' := fun k => w.heap.size ≤ k) (Kept.touch hT (fun k hk hs => by have hs' : w.heap.size + 2 ≤ k := hs; exact ⟨by omega, by omega⟩))
    have hs := Hs5.out.touch hT (by omega) (fun hne e => by have := Hg.out ((fun x => HQ1.out.ne (HQ2.out.ne x)) hne); omega)
    have ht := Hm5.out.tch.then hT (fun k hk e => by omega)
    have HH := Lib.hid (And.intro hl (And.intro hs ht))
    unfold setTen at hbf HH
    have hcf := hbf.cell
    clear hT hbf hl hs ht c2 c3 f2
    refine bodyPost_ret (v := .agg #[.int .u8 68, .int .u8 t1, .string ⟨#[]⟩, .string t2, .string ⟨#[]⟩, .slice none 0 0, .slice none 0 0, .slice none 0 0, .slice none 0 0, .int .i64 0]) (by simp [results, Tryz.results60, go_sem, hcf]) rfl ?_
    exact ⟨{ foZero 68 with what := t1, portal := t2 }, foNil, L2, b2, rfl, HH.out.1, HH.out.2.1, (by have h := readP_C (k := 68) (.inr rfl) HQ1.out HQ2.out; rw [if_neg Hx.out] at h; exact h), HH.out.2.2⟩

set_option maxRecDepth 100000 in
set_option maxHeartbeats 4000000 in
theorem frmsg_other (sb g : Nat) (L : List UInt8) (bad : Bool) (w : World) (h : RefS w sb g L bad) (k : Int) (h1 : k ≠ 80) (h2 : k ≠ 66) (h3 : ¬ (k = 67 ∨ k = 68)) (h4 : k ≠ 69) (h5 : k ≠ 81) :
    Calls Tryz.prog 60 #[.pointer (some ⟨sb, 0, none⟩), .int .u8 k] w (frmsgR sb g L bad k w) := by
  have hsb := h.lt
  have HQ := Lib.hid (readP_other (L := L) (bad := bad) h1 h2 h3 h4 h5)
  have g0 : (k == 80) = false := by simp; omega
  have g1 : (k == 66) = false := by simp; omega
  have g2 : (k == 67) = false := by simp; omega
  have g3 : (k == 68) = false := by simp; omega
  have g4 : (k == 69) = false := by simp; omega
  have g5 : (k == 81) = false := by simp; omega
  clear h1 h2 h3 h4 h5
  have Hg := Lib.hid (fun e : L ≠ [] => h.ltgF e)
  have hm := MsI.start sb w w k (Touch.refl _ w) hsb
  have hs := h.touch (p := fun _ => False) (((Touch.refl _ w).alloc (.cells foZ 46)).alloc (.cells (foCells (foZero k) foNil) 46)) (fun e => e) (fun _ e => e)
  unfold foZ at hm hs
  rw [show foCells (foZero k) foNil = #[.int .u8 k, .int .u8 0, .string ⟨#[]⟩, .string ⟨#[]⟩, .string ⟨#[]⟩, .slice none 0 0, .slice none 0 0, .slice none 0 0, .slice none 0 0, .int .i64 0] from rfl] at hm hs
  have Hm1 := Lib.hid hm
  have Hs1 := Lib.hid hs
  clear h hm hs
  go_enter Tryz.func60, Tryz.ntmps60
  go_upto_region 2 with (fail)
  generalize (w.alloc (.cells #[.int .u8 0, .int .u8 0, .string ⟨#[]⟩, .string ⟨#[]⟩, .string ⟨#[]⟩, .slice none 0 0, .slice none 0 0, .slice none 0 0, .slice none 0 0, .int .i64 0] 46)).alloc (.cells #[.int .u8 k, .int .u8 0, .string ⟨#[]⟩, .string ⟨#[]⟩, .string ⟨#[]⟩, .slice none 0 0, .slice none 0 0, .slice none 0 0, .slice none 0 0, .int .i64 0] 46) = w1 at *
  have c3 : ∀ i, w1.cell? ⟨w.heap.size + 1, i, none⟩ = (#[.int .u8 k, .int .u8 0, .string ⟨#[]⟩, .string ⟨#[]⟩, .string ⟨#[]⟩, .slice none 0 0, .slice none 0 0, .slice none 0 0, .slice none 0 0, .int .i64 0] : Array Value)[i]? := Hm1.out.b3.cell
  have c2 : ∀ i, w1.cell? ⟨w.heap.size, i, none⟩ = (#[.int .u8 0, .int .u8 0, .string ⟨#[]⟩, .string ⟨#[]⟩, .string ⟨#[]⟩, .slice none 0 0, .slice none 0 0, .slice none 0 0, .slice none 0 0, .int .i64 0] : Array Value)[i]? := Hm1.out.b2.cell
  have f2 := Hm1.out.b2.frozen
  go_wp2_with fail
  have hT := setTen_touch w1 w.heap.size (.int .u8 k) (.int .u8 0) (.string ⟨#[]⟩) (.string ⟨#[]⟩) (.string ⟨#[]⟩) (.slice none 0 0) (.slice none 0 0) (.slice none 0 0) (.slice none 0 0) (.int .i64 0)
  have hbf := setTen_blk (.int .u8 k) (.int .u8 0) (.string ⟨#[]⟩) (.string ⟨#[]⟩) (.string ⟨#[]⟩) (.slice none 0 0) (.slice none 0 0) (.slice none 0 0) (.slice none 0 0) (.int .i64 0) Hm1.out.b2
  have hl := Hm1.out.lst.keep (S' := fun k => w.heap.size ≤ k) (Kept.touch hT (fun k hk hs => by have hs' : w.heap.size + 2 ≤ k := hs; exact ⟨by omega, by omega⟩))
  have hs := Hs1.out.touch hT (by omega) (fun hne e => by have := Hg.out ((fun x => x) hne); omega)
  have ht := Hm1.out.tch.then hT (fun k hk e => by omega)
  have HH := Lib.hid (And.intro hl (And.intro hs ht))
  unfold setTen at hbf HH
  have hcf := hbf.cell
  clear hT hbf hl hs ht c2 c3 f2
  refine bodyPost_ret (v := .agg #[.int .u8 k, .int .u8 0, .string ⟨#[]⟩, .string ⟨#[]⟩, .string ⟨#[]⟩, .slice none 0 0, .slice none 0 0, .slice none 0 0, .slice none 0 0, .int .i64 0]) (by simp [results, Tryz.results60, go_sem, hcf]) rfl ?_
  exact ⟨foZero k, foNil, L, bad, rfl, HH.out.1, HH.out.2.1, HQ.out, HH.out.2.2⟩

theorem frmsg_any (sb g : Nat) (L : List UInt8) (bad : Bool) (w : World) (h : RefS w sb g L bad) (hL : L.length ≤ 100000) (k : Int) :
    Calls Tryz.prog 60 #[.pointer (some ⟨sb, 0, none⟩), .int .u8 k] w (frmsgR sb g L bad k w) := by
  by_cases h1 : k = 80
  · subst h1; exact frmsg_P sb g L bad w h hL
  by_cases h2 : k = 66
  · subst h2; exact frmsg_B sb g L bad w h hL
  by_cases h3 : k = 67
  · subst h3; exact frmsg_67 sb g L bad w h hL
  by_cases h4 : k = 68
  · subst h4; exact frmsg_68 sb g L bad w h hL
  by_cases h5 : k = 69
  · subst h5; exact frmsg_E sb g L bad w h hL
  by_cases h6 : k = 81
  · subst h6; exact frmsg_Q sb g L bad w h hL
  exact frmsg_other sb g L bad w h k h1 h2 (by omega) h5 h6

end Go.Proofs.YtacnmdlefonjmaaGreat

/-
  Messages of clients (layer 6): what is read is small: a plain law.
-/
namespace Go.Proofs.YtacnmdlefonjmaaGreat
open Go.RowKit
set_option linter.unusedVariables false
set_option linter.unusedSimpArgs false

theorem textQ_size {L T : List UInt8} {t : ByteArray} (h : textQ L = some (t, T)) : t.size ≤ L.length ∧ T.length ≤ L.length := by
  unfold textQ at h
  split at h
  · rename_i hok
    injection h with h
    injection h with h1 h2
    subst h1 h2
    refine ⟨?_, by rw [List.length_drop]; omega⟩
    unfold textV
    rw [if_pos hok]
    simp only [strOf, ByteArray.size]
    simp
    omega
  · cases h
theorem numP_size {z : Nat} {L T : List UInt8} {n : Int} (h : numP z L = some (n, T)) : n = numV L false z ∧ T.length ≤ L.length := by
  unfold numP at h
  split at h
  · injection h with h
    injection h with h1 h2
    subst h1 h2
    exact ⟨rfl, by rw [List.length_drop]; omega⟩
  · cases h

/-- What was read is small. -/
structure ReadS (k : Int) (L : List UInt8) (f : FoV) : Prop where
  kind : f.kind = k
  what : 0 ≤ f.what ∧ f.what < 256
  name : f.name.size ≤ L.length
  portal : f.portal.size ≤ L.length
  text : f.text.size ≤ L.length
theorem ReadS.zero (k : Int) (L : List UInt8) : ReadS k L (foZero k) := ⟨rfl, ⟨Int.le_refl 0, show (0 : Int) < 256 by decide⟩, Nat.zero_le _, Nat.zero_le _, Nat.zero_le _⟩
theorem bind_some {α β : Type} {o : Option α} {f : α → Option β} {y : β} (h : o.bind f = some y) : ∃ a, o = some a ∧ f a = some y := by
  cases o with
  | none => cases h
  | some a => exact ⟨a, rfl, h⟩
theorem readP_small {k : Int} {L T : List UInt8} {f : FoV} (h : readP k L = some (f, T)) : ReadS k L f := by
  unfold readP at h
  split at h
  · obtain ⟨⟨n, L1⟩, e1, h⟩ := bind_some h
    obtain ⟨⟨t, L2⟩, e2, h⟩ := bind_some h
    obtain ⟨⟨o, L3⟩, e3, h⟩ := bind_some h
    injection h with h; injection h with h h'; subst h
    have q1 := textQ_size e1
    have q2 := textQ_size e2
    dsimp only at q2
    exact ⟨rfl, ⟨Int.le_refl 0, show (0 : Int) < 256 by decide⟩, q1.1, Nat.zero_le _, Nat.le_trans q2.1 q1.2⟩
  split at h
  · obtain ⟨⟨p, L1⟩, e1, h⟩ := bind_some h
    obtain ⟨⟨n, L2⟩, e2, h⟩ := bind_some h
    obtain ⟨⟨fs, L3⟩, e3, h⟩ := bind_some h
    obtain ⟨⟨cs, L4⟩, e4, h⟩ := bind_some h
    obtain ⟨⟨rs, L5⟩, e5, h⟩ := bind_some h
    injection h with h; injection h with h h'; subst h
    have q1 := textQ_size e1
    have q2 := textQ_size e2
    dsimp only at q2
    exact ⟨rfl, ⟨Int.le_refl 0, show (0 : Int) < 256 by decide⟩, Nat.le_trans q2.1 q1.2, q1.1, Nat.zero_le _⟩
  split at h
  · obtain ⟨⟨x, L1⟩, e1, h⟩ := bind_some h
    obtain ⟨⟨n, L2⟩, e2, h⟩ := bind_some h
    have q1 := numP_size e1
    have q2 := textQ_size e2
    have q8 := num8 L false
    have hx : 0 ≤ x ∧ x < 256 := by rw [q1.1]; exact q8
    injection h with h; injection h with h h'; subst h
    dsimp only at q2 ⊢
    split
    · exact ⟨rfl, hx, Nat.le_trans q2.1 q1.2, Nat.zero_le _, Nat.zero_le _⟩
    · exact ⟨rfl, hx, Nat.zero_le _, Nat.le_trans q2.1 q1.2, Nat.zero_le _⟩
  split at h
  · obtain ⟨⟨n, L1⟩, e1, h⟩ := bind_some h
    obtain ⟨⟨x, L2⟩, e2, h⟩ := bind_some h
    injection h with h; injection h with h h'; subst h
    have q1 := textQ_size e1
    exact ⟨rfl, ⟨Int.le_refl 0, show (0 : Int) < 256 by decide⟩, Nat.zero_le _, q1.1, Nat.zero_le _⟩
  split at h
  · obtain ⟨⟨n, L1⟩, e1, h⟩ := bind_some h
    injection h with h; injection h with h h'; subst h
    have q1 := textQ_size e1
    exact ⟨rfl, ⟨Int.le_refl 0, show (0 : Int) < 256 by decide⟩, Nat.zero_le _, Nat.zero_le _, q1.1⟩
  · injection h with h; injection h with h h'; subst h
    exact ReadS.zero k L

end Go.Proofs.YtacnmdlefonjmaaGreat

/-
  Messages of clients (layer 6): Decode as a plain law, and what it leaves.
-/
namespace Go.Proofs.YtacnmdlefonjmaaGreat
open Go.RowKit
set_option linter.unusedVariables false
set_option linter.unusedSimpArgs false

/-- Decode: the message and the error. -/
def decF (k : Int) (L : List UInt8) : FoV × Int :=
  if knownV k = 0 then (foZero 0, 4)
  else if knownV k = 2 then (foZero 0, 9)
  else match readP k L with
    | some (f, []) => if checkF f = 0 then (f, 0) else (foZero 0, 4)
    | _ => (foZero 0, 4)
/-- What Decode leaves. -/
def DecR (k : Int) (L : List UInt8) (w : World) (e : Ending) (w' : World) : Prop :=
  ∃ a, e = .returned (.tuple #[foArg (decF k L).1 a, .int .i64 (decF k L).2]) ∧ FoL (fun j => w.heap.size ≤ j) w' (decF k L).1 a ∧ Below w.heap.size w w'
theorem dec_unknown {k : Int} {L : List UInt8} (h : knownV k = 0) : decF k L = (foZero 0, 4) := by unfold decF; rw [if_pos h]
theorem dec_other {k : Int} {L : List UInt8} (h : knownV k = 2) : decF k L = (foZero 0, 9) := by unfold decF; rw [if_neg (by omega), if_pos h]
/-- A scan that ended badly, or with something left. -/
theorem dec_bad {k : Int} {L L' : List UInt8} {f : FoV} {b : Bool} (h : knownV k = 1) (hs : StepO L false (readP k) f L' b) (hb : (!b && L'.isEmpty) = false) : decF k L = (foZero 0, 4) := by
  unfold decF
  rw [if_neg (by omega), if_neg (by omega)]
  cases b with
  | true =>
    rcases hs.2.1 rfl with e | e
    · cases e
    · rw [e]
  | false =>
    rw [(hs.1 rfl).2]
    cases L' with
    | nil => cases hb
    | cons x T => rfl
theorem dec_ok {k : Int} {L : List UInt8} {f : FoV} (h : knownV k = 1) (hs : StepO L false (readP k) f [] false) : decF k L = (if checkF f = 0 then (f, 0) else (foZero 0, 4)) := by
  unfold decF
  rw [if_neg (by omega), if_neg (by omega), (hs.1 rfl).2]

end Go.Proofs.YtacnmdlefonjmaaGreat

