/-
  Messages of clients (layer 6): a message that is read, by its kinds: the program's.
-/
import Derived.Test.YtacnmdlefonjmaaGreatPdZP6
namespace Go.Proofs.YtacnmdlefonjmaaGreat
open Go.RowKit
set_option linter.unusedVariables false
set_option linter.unusedSimpArgs false
/-- A number of one byte is a byte. -/
theorem num8 (L : List UInt8) (bad : Bool) : 0 ≤ numV L bad 1 ∧ numV L bad 1 < 256 := by
  unfold numV
  split
  · have hb := be_bd (L.take (1 : Int).toNat)
    have hl : (L.take (1 : Int).toNat).length ≤ 1 := by rw [List.length_take]; exact Nat.min_le_left _ _
    refine ⟨hb.1, ?_⟩
    have h3 : (256 : Int) ^ (L.take (1 : Int).toNat).length ≤ 256 := by
      generalize (L.take (1 : Int).toNat).length = q at hl
      have : q = 0 ∨ q = 1 := by omega
      rcases this with rfl | rfl <;> decide
    omega
  · decide
theorem num8w (L : List UInt8) (bad : Bool) : IntKind.u8.wrap (numV L bad 1) = numV L bad 1 := by
  have h := num8 L bad
  rw [show IntKind.u8.wrap (numV L bad 1) = (numV L bad 1) % 256 by simp [IntKind.wrap, IntKind.bits, IntKind.signed]]
  omega

set_option maxRecDepth 100000 in
set_option maxHeartbeats 4000000 in
theorem fmsg_P (sb g : Nat) (L : List UInt8) (bad : Bool) (w : World) (h : ScanO w sb g L bad) (hL : L.length ≤ 100000) :
    Calls Tryz.prog 89 #[.agg #[.pointer (some ⟨sb, 0, none⟩)], .int .u8 80] w (fmsgR sb g L bad 80 w) := by
  have hsb := h.lt
  have Hg := Lib.hid (fun e : L ≠ [] => h.ltg e)
  have hA : Below w.heap.size w (w.alloc (.cells #[.pointer (some ⟨sb, 0, none⟩)] 140)) := (Below.refl _ _).alloc (Nat.le_refl _) _
  have hm := MsI.start sb w (w.alloc (.cells #[.pointer (some ⟨sb, 0, none⟩)] 140)) 80 (Touch.of_below hA) hsb
  rw [show (w.alloc (.cells #[.pointer (some ⟨sb, 0, none⟩)] 140)).heap.size = w.heap.size + 1 by simp] at hm
  have hk := ((Blk.new w 140 #[.pointer (some ⟨sb, 0, none⟩)]).alloc (.cells foZ 46)).alloc (.cells (foCells (foZero 80) foNil) 46)
  have hs := h.touch (p := fun _ => False) ((((Touch.refl _ w).alloc (.cells #[.pointer (some ⟨sb, 0, none⟩)] 140)).alloc (.cells foZ 46)).alloc (.cells (foCells (foZero 80) foNil) 46)) (fun e => e) (fun _ e => e)
  unfold foZ at hm hk hs
  rw [show foCells (foZero 80) foNil = #[.int .u8 80, .int .u8 0, .string ⟨#[]⟩, .string ⟨#[]⟩, .string ⟨#[]⟩, .slice none 0 0, .slice none 0 0, .slice none 0 0, .slice none 0 0, .int .i64 0] from rfl] at hm hk hs
  have Hm1 := Lib.hid hm
  have HK1 := Lib.hid hk
  have Hs1 := Lib.hid hs
  clear h hA hm hk hs
  go_enter Tryz.func89, Tryz.ntmps89
  go_upto_region 2 with (fail)
  generalize ((w.alloc (.cells #[.pointer (some ⟨sb, 0, none⟩)] 140)).alloc (.cells #[.int .u8 0, .int .u8 0, .string ⟨#[]⟩, .string ⟨#[]⟩, .string ⟨#[]⟩, .slice none 0 0, .slice none 0 0, .slice none 0 0, .slice none 0 0, .int .i64 0] 46)).alloc (.cells #[.int .u8 80, .int .u8 0, .string ⟨#[]⟩, .string ⟨#[]⟩, .string ⟨#[]⟩, .slice none 0 0, .slice none 0 0, .slice none 0 0, .slice none 0 0, .int .i64 0] 46) = w1 at *
  have c1 : ∀ i, w1.cell? ⟨w.heap.size, i, none⟩ = (#[.pointer (some ⟨sb, 0, none⟩)] : Array Value)[i]? := HK1.out.cell
  obtain ⟨t1, L1, b1, hq, hc⟩ := scanText_o Hs1.out
  have HQ1 := Lib.hid hq
  have HC := Lib.hid hc
  clear hq hc
  go_upto_region 5 with (go_at_call 98; refine HC.out.mono ?_; rintro e w2 ⟨rfl, hs, hT⟩; have hz2 := hT.size; have Hm2 := Lib.hid (Hm1.out.step hT); have HK2 := Lib.hid (hT.blk HK1.out (by omega)); have Hs2 := Lib.hid hs; have c3 : ∀ i, w2.cell? ⟨w.heap.size + 1 + 1, i, none⟩ = (#[.int .u8 80, .int .u8 0, .string ⟨#[]⟩, .string ⟨#[]⟩, .string ⟨#[]⟩, .slice none 0 0, .slice none 0 0, .slice none 0 0, .slice none 0 0, .int .i64 0] : Array Value)[i]? := Hm2.out.b3.cell; have f3 := Hm2.out.b3.frozen; clear hs hT HC c1 Hm1 HK1 Hs1)
  have hm := Hm2.out.set 2 (.string t1) (f' := { foZero 80 with name := t1 }) (a' := foNil) ⟨Hm2.out.lst.lo, Hm2.out.lst.lf, Hm2.out.lst.lr, Hm2.out.lst.lp⟩ rfl
  have hT := MsI.tset w2 (w.heap.size + 1) 2 (.string t1)
  have hk := hT.blk HK2.out (by omega)
  have hs := Hs2.out.touch hT (by omega) (fun hne e => by have := Hg.out ((fun x => HQ1.out.ne x) hne); omega)
  have Hm3 := Lib.hid hm
  have HK3 := Lib.hid hk
  have Hs3 := Lib.hid hs
  clear hm hT hk hs Hm2 HK2 Hs2 c3 f3
  generalize w2.setCell ⟨w.heap.size + 1 + 1, 2, none⟩ (.string t1) = w3 at *
  have c1 : ∀ i, w3.cell? ⟨w.heap.size, i, none⟩ = (#[.pointer (some ⟨sb, 0, none⟩)] : Array Value)[i]? := HK3.out.cell
  obtain ⟨t2, L2, b2, hq, hc⟩ := scanText_o Hs3.out
  have HQ2 := Lib.hid hq
  have HC := Lib.hid hc
  clear hq hc
  go_upto_region 6 with (go_at_call 98; refine HC.out.mono ?_; rintro e w4 ⟨rfl, hs, hT⟩; have hz4 := hT.size; have Hm4 := Lib.hid (Hm3.out.step hT); have HK4 := Lib.hid (hT.blk HK3.out (by omega)); have Hs4 := Lib.hid hs; have c3 : ∀ i, w4.cell? ⟨w.heap.size + 1 + 1, i, none⟩ = (#[.int .u8 80, .int .u8 0, .string t1, .string ⟨#[]⟩, .string ⟨#[]⟩, .slice none 0 0, .slice none 0 0, .slice none 0 0, .slice none 0 0, .int .i64 0] : Array Value)[i]? := Hm4.out.b3.cell; have f3 := Hm4.out.b3.frozen; clear hs hT HC c1 Hm3 HK3 Hs3)
  have hm := Hm4.out.set 4 (.string t2) (f' := { foZero 80 with name := t1, text := t2 }) (a' := foNil) ⟨Hm4.out.lst.lo, Hm4.out.lst.lf, Hm4.out.lst.lr, Hm4.out.lst.lp⟩ rfl
  have hT := MsI.tset w4 (w.heap.size + 1) 4 (.string t2)
  have hk := hT.blk HK4.out (by omega)
  have hs := Hs4.out.touch hT (by omega) (fun hne e => by have := Hg.out ((fun x => HQ1.out.ne (HQ2.out.ne x)) hne); omega)
  have Hm5 := Lib.hid hm
  have HK5 := Lib.hid hk
  have Hs5 := Lib.hid hs
  clear hm hT hk hs Hm4 HK4 Hs4 c3 f3
  generalize w4.setCell ⟨w.heap.size + 1 + 1, 4, none⟩ (.string t2) = w5 at *
  have c1 : ∀ i, w5.cell? ⟨w.heap.size, i, none⟩ = (#[.pointer (some ⟨sb, 0, none⟩)] : Array Value)[i]? := HK5.out.cell
  have hl3 : L2.length ≤ 100000 := by have q1 := HQ1.out.2.2; have q2 := HQ2.out.2.2; omega
  have HC := Lib.hid (flist_any sb g L2 b2 4 4 (by decide) (by decide) w5 Hs5.out hl3)
  clear hl3
  go_upto_region 25 with (go_at_call 99; refine HC.out.mono ?_; rintro e w6 ⟨v, t3, L3, b3, rfl, ho, hs, hq, hT⟩; obtain ⟨ptr3, cap3, hv, hl⟩ := OwnI.lst (w' := w) ho (w.heap.size + 1 + 2) (by have := Hm5.out.b3.lt; omega); subst hv; have HL3 := Lib.hid hl; have HQ3 := Lib.hid hq; have hz6 := hT.size; have Hm6 := Lib.hid (Hm5.out.step hT); have HK6 := Lib.hid (hT.blk HK5.out (by omega)); have Hs6 := Lib.hid hs; have c3 : ∀ i, w6.cell? ⟨w.heap.size + 1 + 1, i, none⟩ = (#[.int .u8 80, .int .u8 0, .string t1, .string ⟨#[]⟩, .string t2, .slice none 0 0, .slice none 0 0, .slice none 0 0, .slice none 0 0, .int .i64 0] : Array Value)[i]? := Hm6.out.b3.cell; have f3 := Hm6.out.b3.frozen; clear ho hl hq hs hT HC c1 Hm5 HK5 Hs5)
  have hm := Hm6.out.set 5 (.slice ptr3 t3.length cap3) (f' := { foZero 80 with name := t1, text := t2, oids := t3 }) (a' := { foNil with po := ptr3, co := cap3 }) ⟨HL3.out, Hm6.out.lst.lf, Hm6.out.lst.lr, Hm6.out.lst.lp⟩ rfl
  have hT := MsI.tset w6 (w.heap.size + 1) 5 (.slice ptr3 t3.length cap3)
  have hk := hT.blk HK6.out (by omega)
  have hs := Hs6.out.touch hT (by omega) (fun hne e => by have := Hg.out ((fun x => HQ1.out.ne (HQ2.out.ne (HQ3.out.ne x))) hne); omega)
  have Hm7 := Lib.hid hm
  have HK7 := Lib.hid hk
  have Hs7 := Lib.hid hs
  clear hm hT hk hs Hm6 HK6 Hs6 c3 f3
  generalize w6.setCell ⟨w.heap.size + 1 + 1, 5, none⟩ (.slice ptr3 t3.length cap3) = w7 at *
  have c1 : ∀ i, w7.cell? ⟨w.heap.size, i, none⟩ = (#[.pointer (some ⟨sb, 0, none⟩)] : Array Value)[i]? := HK7.out.cell
  have c3 : ∀ i, w7.cell? ⟨w.heap.size + 1 + 1, i, none⟩ = (#[.int .u8 80, .int .u8 0, .string t1, .string ⟨#[]⟩, .string t2, .slice ptr3 t3.length cap3, .slice none 0 0, .slice none 0 0, .slice none 0 0, .int .i64 0] : Array Value)[i]? := Hm7.out.b3.cell
  have c2 : ∀ i, w7.cell? ⟨w.heap.size + 1, i, none⟩ = (#[.int .u8 0, .int .u8 0, .string ⟨#[]⟩, .string ⟨#[]⟩, .string ⟨#[]⟩, .slice none 0 0, .slice none 0 0, .slice none 0 0, .slice none 0 0, .int .i64 0] : Array Value)[i]? := Hm7.out.b2.cell
  have f2 := Hm7.out.b2.frozen
  go_wp2_with fail
  have hT := setTen_touch w7 (w.heap.size + 1) (.int .u8 80) (.int .u8 0) (.string t1) (.string ⟨#[]⟩) (.string t2) (.slice ptr3 t3.length cap3) (.slice none 0 0) (.slice none 0 0) (.slice none 0 0) (.int .i64 0)
  have hbf := setTen_blk (.int .u8 80) (.int .u8 0) (.string t1) (.string ⟨#[]⟩) (.string t2) (.slice ptr3 t3.length cap3) (.slice none 0 0) (.slice none 0 0) (.slice none 0 0) (.int .i64 0) Hm7.out.b2
  have hl := Hm7.out.lst.keep (S' := fun k => w.heap.size ≤ k) (Kept.touch hT (fun k hk hs => by have hs' : w.heap.size + 1 + 2 ≤ k := hs; exact ⟨by omega, by omega⟩))
  have hs := Hs7.out.touch hT (by omega) (fun hne e => by have := Hg.out ((fun x => HQ1.out.ne (HQ2.out.ne (HQ3.out.ne x))) hne); omega)
  have ht := Hm7.out.tch.then hT (fun k hk e => by omega)
  have HH := Lib.hid (And.intro hl (And.intro hs ht))
  unfold setTen at hbf HH
  have hcf := hbf.cell
  clear hT hbf hl hs ht c1 c2 c3 f2
  refine bodyPost_ret (v := .agg #[.int .u8 80, .int .u8 0, .string t1, .string ⟨#[]⟩, .string t2, .slice ptr3 t3.length cap3, .slice none 0 0, .slice none 0 0, .slice none 0 0, .int .i64 0]) (by simp [results, Tryz.results89, go_sem, hcf]) rfl ?_
  exact ⟨{ foZero 80 with name := t1, text := t2, oids := t3 }, { foNil with po := ptr3, co := cap3 }, L3, b3, rfl, HH.out.1, HH.out.2.1, readP_P HQ1.out HQ2.out HQ3.out, HH.out.2.2⟩

set_option maxRecDepth 100000 in
set_option maxHeartbeats 4000000 in
theorem fmsg_B (sb g : Nat) (L : List UInt8) (bad : Bool) (w : World) (h : ScanO w sb g L bad) (hL : L.length ≤ 100000) :
    Calls Tryz.prog 89 #[.agg #[.pointer (some ⟨sb, 0, none⟩)], .int .u8 66] w (fmsgR sb g L bad 66 w) := by
  have hsb := h.lt
  have Hg := Lib.hid (fun e : L ≠ [] => h.ltg e)
  have hA : Below w.heap.size w (w.alloc (.cells #[.pointer (some ⟨sb, 0, none⟩)] 140)) := (Below.refl _ _).alloc (Nat.le_refl _) _
  have hm := MsI.start sb w (w.alloc (.cells #[.pointer (some ⟨sb, 0, none⟩)] 140)) 66 (Touch.of_below hA) hsb
  rw [show (w.alloc (.cells #[.pointer (some ⟨sb, 0, none⟩)] 140)).heap.size = w.heap.size + 1 by simp] at hm
  have hk := ((Blk.new w 140 #[.pointer (some ⟨sb, 0, none⟩)]).alloc (.cells foZ 46)).alloc (.cells (foCells (foZero 66) foNil) 46)
  have hs := h.touch (p := fun _ => False) ((((Touch.refl _ w).alloc (.cells #[.pointer (some ⟨sb, 0, none⟩)] 140)).alloc (.cells foZ 46)).alloc (.cells (foCells (foZero 66) foNil) 46)) (fun e => e) (fun _ e => e)
  unfold foZ at hm hk hs
  rw [show foCells (foZero 66) foNil = #[.int .u8 66, .int .u8 0, .string ⟨#[]⟩, .string ⟨#[]⟩, .string ⟨#[]⟩, .slice none 0 0, .slice none 0 0, .slice none 0 0, .slice none 0 0, .int .i64 0] from rfl] at hm hk hs
  have Hm1 := Lib.hid hm
  have HK1 := Lib.hid hk
  have Hs1 := Lib.hid hs
  clear h hA hm hk hs
  go_enter Tryz.func89, Tryz.ntmps89
  go_upto_region 2 with (fail)
  generalize ((w.alloc (.cells #[.pointer (some ⟨sb, 0, none⟩)] 140)).alloc (.cells #[.int .u8 0, .int .u8 0, .string ⟨#[]⟩, .string ⟨#[]⟩, .string ⟨#[]⟩, .slice none 0 0, .slice none 0 0, .slice none 0 0, .slice none 0 0, .int .i64 0] 46)).alloc (.cells #[.int .u8 66, .int .u8 0, .string ⟨#[]⟩, .string ⟨#[]⟩, .string ⟨#[]⟩, .slice none 0 0, .slice none 0 0, .slice none 0 0, .slice none 0 0, .int .i64 0] 46) = w1 at *
  have c1 : ∀ i, w1.cell? ⟨w.heap.size, i, none⟩ = (#[.pointer (some ⟨sb, 0, none⟩)] : Array Value)[i]? := HK1.out.cell
  obtain ⟨t1, L1, b1, hq, hc⟩ := scanText_o Hs1.out
  have HQ1 := Lib.hid hq
  have HC := Lib.hid hc
  clear hq hc
  go_upto_region 9 with (go_at_call 98; refine HC.out.mono ?_; rintro e w2 ⟨rfl, hs, hT⟩; have hz2 := hT.size; have Hm2 := Lib.hid (Hm1.out.step hT); have HK2 := Lib.hid (hT.blk HK1.out (by omega)); have Hs2 := Lib.hid hs; have c3 : ∀ i, w2.cell? ⟨w.heap.size + 1 + 1, i, none⟩ = (#[.int .u8 66, .int .u8 0, .string ⟨#[]⟩, .string ⟨#[]⟩, .string ⟨#[]⟩, .slice none 0 0, .slice none 0 0, .slice none 0 0, .slice none 0 0, .int .i64 0] : Array Value)[i]? := Hm2.out.b3.cell; have f3 := Hm2.out.b3.frozen; clear hs hT HC c1 Hm1 HK1 Hs1)
  have hm := Hm2.out.set 3 (.string t1) (f' := { foZero 66 with portal := t1 }) (a' := foNil) ⟨Hm2.out.lst.lo, Hm2.out.lst.lf, Hm2.out.lst.lr, Hm2.out.lst.lp⟩ rfl
  have hT := MsI.tset w2 (w.heap.size + 1) 3 (.string t1)
  have hk := hT.blk HK2.out (by omega)
  have hs := Hs2.out.touch hT (by omega) (fun hne e => by have := Hg.out ((fun x => HQ1.out.ne x) hne); omega)
  have Hm3 := Lib.hid hm
  have HK3 := Lib.hid hk
  have Hs3 := Lib.hid hs
  clear hm hT hk hs Hm2 HK2 Hs2 c3 f3
  generalize w2.setCell ⟨w.heap.size + 1 + 1, 3, none⟩ (.string t1) = w3 at *
  have c1 : ∀ i, w3.cell? ⟨w.heap.size, i, none⟩ = (#[.pointer (some ⟨sb, 0, none⟩)] : Array Value)[i]? := HK3.out.cell
  obtain ⟨t2, L2, b2, hq, hc⟩ := scanText_o Hs3.out
  have HQ2 := Lib.hid hq
  have HC := Lib.hid hc
  clear hq hc
  go_upto_region 10 with (go_at_call 98; refine HC.out.mono ?_; rintro e w4 ⟨rfl, hs, hT⟩; have hz4 := hT.size; have Hm4 := Lib.hid (Hm3.out.step hT); have HK4 := Lib.hid (hT.blk HK3.out (by omega)); have Hs4 := Lib.hid hs; have c3 : ∀ i, w4.cell? ⟨w.heap.size + 1 + 1, i, none⟩ = (#[.int .u8 66, .int .u8 0, .string ⟨#[]⟩, .string t1, .string ⟨#[]⟩, .slice none 0 0, .slice none 0 0, .slice none 0 0, .slice none 0 0, .int .i64 0] : Array Value)[i]? := Hm4.out.b3.cell; have f3 := Hm4.out.b3.frozen; clear hs hT HC c1 Hm3 HK3 Hs3)
  have hm := Hm4.out.set 2 (.string t2) (f' := { foZero 66 with portal := t1, name := t2 }) (a' := foNil) ⟨Hm4.out.lst.lo, Hm4.out.lst.lf, Hm4.out.lst.lr, Hm4.out.lst.lp⟩ rfl
  have hT := MsI.tset w4 (w.heap.size + 1) 2 (.string t2)
  have hk := hT.blk HK4.out (by omega)
  have hs := Hs4.out.touch hT (by omega) (fun hne e => by have := Hg.out ((fun x => HQ1.out.ne (HQ2.out.ne x)) hne); omega)
  have Hm5 := Lib.hid hm
  have HK5 := Lib.hid hk
  have Hs5 := Lib.hid hs
  clear hm hT hk hs Hm4 HK4 Hs4 c3 f3
  generalize w4.setCell ⟨w.heap.size + 1 + 1, 2, none⟩ (.string t2) = w5 at *
  have c1 : ∀ i, w5.cell? ⟨w.heap.size, i, none⟩ = (#[.pointer (some ⟨sb, 0, none⟩)] : Array Value)[i]? := HK5.out.cell
  have hl3 : L2.length ≤ 100000 := by have q1 := HQ1.out.2.2; have q2 := HQ2.out.2.2; omega
  have HC := Lib.hid (flist_any sb g L2 b2 2 2 (by decide) (by decide) w5 Hs5.out hl3)
  clear hl3
  go_upto_region 11 with (go_at_call 99; refine HC.out.mono ?_; rintro e w6 ⟨v, t3, L3, b3, rfl, ho, hs, hq, hT⟩; obtain ⟨ptr3, cap3, hv, hl⟩ := OwnI.lst (w' := w) ho (w.heap.size + 1 + 2) (by have := Hm5.out.b3.lt; omega); subst hv; have HL3 := Lib.hid hl; have HQ3 := Lib.hid hq; have hz6 := hT.size; have Hm6 := Lib.hid (Hm5.out.step hT); have HK6 := Lib.hid (hT.blk HK5.out (by omega)); have Hs6 := Lib.hid hs; have c3 : ∀ i, w6.cell? ⟨w.heap.size + 1 + 1, i, none⟩ = (#[.int .u8 66, .int .u8 0, .string t2, .string t1, .string ⟨#[]⟩, .slice none 0 0, .slice none 0 0, .slice none 0 0, .slice none 0 0, .int .i64 0] : Array Value)[i]? := Hm6.out.b3.cell; have f3 := Hm6.out.b3.frozen; clear ho hl hq hs hT HC c1 Hm5 HK5 Hs5)
  have hm := Hm6.out.set 6 (.slice ptr3 t3.length cap3) (f' := { foZero 66 with portal := t1, name := t2, formats := t3 }) (a' := { foNil with pf := ptr3, cf := cap3 }) ⟨Hm6.out.lst.lo, HL3.out, Hm6.out.lst.lr, Hm6.out.lst.lp⟩ rfl
  have hT := MsI.tset w6 (w.heap.size + 1) 6 (.slice ptr3 t3.length cap3)
  have hk := hT.blk HK6.out (by omega)
  have hs := Hs6.out.touch hT (by omega) (fun hne e => by have := Hg.out ((fun x => HQ1.out.ne (HQ2.out.ne (HQ3.out.ne x))) hne); omega)
  have Hm7 := Lib.hid hm
  have HK7 := Lib.hid hk
  have Hs7 := Lib.hid hs
  clear hm hT hk hs Hm6 HK6 Hs6 c3 f3
  generalize w6.setCell ⟨w.heap.size + 1 + 1, 6, none⟩ (.slice ptr3 t3.length cap3) = w7 at *
  have c1 : ∀ i, w7.cell? ⟨w.heap.size, i, none⟩ = (#[.pointer (some ⟨sb, 0, none⟩)] : Array Value)[i]? := HK7.out.cell
  have hl4 : L3.length ≤ 100000 := by have q1 := HQ1.out.2.2; have q2 := HQ2.out.2.2; have q3 := HQ3.out.2.2; omega
  have HC := Lib.hid (frow_any sb g L3 b3 w7 Hs7.out hl4)
  clear hl4
  go_upto_region 12 with (go_at_call 100; refine HC.out.mono ?_; rintro e w8 ⟨v, t4, L4, b4, rfl, ho, hs, hq, hT⟩; obtain ⟨ptr4, cap4, hv, hl⟩ := OwnC.lst (w' := w) ho (w.heap.size + 1 + 2) (by have := Hm7.out.b3.lt; omega); subst hv; have HL4 := Lib.hid hl; have HQ4 := Lib.hid hq; have hz8 := hT.size; have Hm8 := Lib.hid (Hm7.out.step hT); have HK8 := Lib.hid (hT.blk HK7.out (by omega)); have Hs8 := Lib.hid hs; have c3 : ∀ i, w8.cell? ⟨w.heap.size + 1 + 1, i, none⟩ = (#[.int .u8 66, .int .u8 0, .string t2, .string t1, .string ⟨#[]⟩, .slice none 0 0, .slice ptr3 t3.length cap3, .slice none 0 0, .slice none 0 0, .int .i64 0] : Array Value)[i]? := Hm8.out.b3.cell; have f3 := Hm8.out.b3.frozen; clear ho hl hq hs hT HC c1 Hm7 HK7 Hs7)
  have hm := Hm8.out.set 8 (.slice ptr4 t4.length cap4) (f' := { foZero 66 with portal := t1, name := t2, formats := t3, params := t4 }) (a' := { foNil with pf := ptr3, cf := cap3, pp := ptr4, cp := cap4 }) ⟨Hm8.out.lst.lo, Hm8.out.lst.lf, Hm8.out.lst.lr, HL4.out⟩ rfl
  have hT := MsI.tset w8 (w.heap.size + 1) 8 (.slice ptr4 t4.length cap4)
  have hk := hT.blk HK8.out (by omega)
  have hs := Hs8.out.touch hT (by omega) (fun hne e => by have := Hg.out ((fun x => HQ1.out.ne (HQ2.out.ne (HQ3.out.ne (HQ4.out.ne x)))) hne); omega)
  have Hm9 := Lib.hid hm
  have HK9 := Lib.hid hk
  have Hs9 := Lib.hid hs
  clear hm hT hk hs Hm8 HK8 Hs8 c3 f3
  generalize w8.setCell ⟨w.heap.size + 1 + 1, 8, none⟩ (.slice ptr4 t4.length cap4) = w9 at *
  have c1 : ∀ i, w9.cell? ⟨w.heap.size, i, none⟩ = (#[.pointer (some ⟨sb, 0, none⟩)] : Array Value)[i]? := HK9.out.cell
  have hl5 : L4.length ≤ 100000 := by have q1 := HQ1.out.2.2; have q2 := HQ2.out.2.2; have q3 := HQ3.out.2.2; have q4 := HQ4.out.2.2; omega
  have HC := Lib.hid (flist_any sb g L4 b4 2 2 (by decide) (by decide) w9 Hs9.out hl5)
  clear hl5
  go_upto_region 25 with (go_at_call 99; refine HC.out.mono ?_; rintro e w10 ⟨v, t5, L5, b5, rfl, ho, hs, hq, hT⟩; obtain ⟨ptr5, cap5, hv, hl⟩ := OwnI.lst (w' := w) ho (w.heap.size + 1 + 2) (by have := Hm9.out.b3.lt; omega); subst hv; have HL5 := Lib.hid hl; have HQ5 := Lib.hid hq; have hz10 := hT.size; have Hm10 := Lib.hid (Hm9.out.step hT); have HK10 := Lib.hid (hT.blk HK9.out (by omega)); have Hs10 := Lib.hid hs; have c3 : ∀ i, w10.cell? ⟨w.heap.size + 1 + 1, i, none⟩ = (#[.int .u8 66, .int .u8 0, .string t2, .string t1, .string ⟨#[]⟩, .slice none 0 0, .slice ptr3 t3.length cap3, .slice none 0 0, .slice ptr4 t4.length cap4, .int .i64 0] : Array Value)[i]? := Hm10.out.b3.cell; have f3 := Hm10.out.b3.frozen; clear ho hl hq hs hT HC c1 Hm9 HK9 Hs9)
  have hm := Hm10.out.set 7 (.slice ptr5 t5.length cap5) (f' := { foZero 66 with portal := t1, name := t2, formats := t3, params := t4, results := t5 }) (a' := { foNil with pf := ptr3, cf := cap3, pp := ptr4, cp := cap4, pr := ptr5, cr := cap5 }) ⟨Hm10.out.lst.lo, Hm10.out.lst.lf, HL5.out, Hm10.out.lst.lp⟩ rfl
  have hT := MsI.tset w10 (w.heap.size + 1) 7 (.slice ptr5 t5.length cap5)
  have hk := hT.blk HK10.out (by omega)
  have hs := Hs10.out.touch hT (by omega) (fun hne e => by have := Hg.out ((fun x => HQ1.out.ne (HQ2.out.ne (HQ3.out.ne (HQ4.out.ne (HQ5.out.ne x))))) hne); omega)
  have Hm11 := Lib.hid hm
  have HK11 := Lib.hid hk
  have Hs11 := Lib.hid hs
  clear hm hT hk hs Hm10 HK10 Hs10 c3 f3
  generalize w10.setCell ⟨w.heap.size + 1 + 1, 7, none⟩ (.slice ptr5 t5.length cap5) = w11 at *
  have c1 : ∀ i, w11.cell? ⟨w.heap.size, i, none⟩ = (#[.pointer (some ⟨sb, 0, none⟩)] : Array Value)[i]? := HK11.out.cell
  have c3 : ∀ i, w11.cell? ⟨w.heap.size + 1 + 1, i, none⟩ = (#[.int .u8 66, .int .u8 0, .string t2, .string t1, .string ⟨#[]⟩, .slice none 0 0, .slice ptr3 t3.length cap3, .slice ptr5 t5.length cap5, .slice ptr4 t4.length cap4, .int .i64 0] : Array Value)[i]? := Hm11.out.b3.cell
  have c2 : ∀ i, w11.cell? ⟨w.heap.size + 1, i, none⟩ = (#[.int .u8 0, .int .u8 0, .string ⟨#[]⟩, .string ⟨#[]⟩, .string ⟨#[]⟩, .slice none 0 0, .slice none 0 0, .slice none 0 0, .slice none 0 0, .int .i64 0] : Array Value)[i]? := Hm11.out.b2.cell
  have f2 := Hm11.out.b2.frozen
  go_wp2_with fail
  have hT := setTen_touch w11 (w.heap.size + 1) (.int .u8 66) (.int .u8 0) (.string t2) (.string t1) (.string ⟨#[]⟩) (.slice none 0 0) (.slice ptr3 t3.length cap3) (.slice ptr5 t5.length cap5) (.slice ptr4 t4.length cap4) (.int .i64 0)
  have hbf := setTen_blk (.int .u8 66) (.int .u8 0) (.string t2) (.string t1) (.string ⟨#[]⟩) (.slice none 0 0) (.slice ptr3 t3.length cap3) (.slice ptr5 t5.length cap5) (.slice ptr4 t4.length cap4) (.int .i64 0) Hm11.out.b2
  have hl := Hm11.out.lst.keep (S' := fun k => w.heap.size ≤ k) (Kept.touch hT (fun k hk hs => by have hs' : w.heap.size + 1 + 2 ≤ k := hs; exact ⟨by omega, by omega⟩))
  have hs := Hs11.out.touch hT (by omega) (fun hne e => by have := Hg.out ((fun x => HQ1.out.ne (HQ2.out.ne (HQ3.out.ne (HQ4.out.ne (HQ5.out.ne x))))) hne); omega)
  have ht := Hm11.out.tch.then hT (fun k hk e => by omega)
  have HH := Lib.hid (And.intro hl (And.intro hs ht))
  unfold setTen at hbf HH
  have hcf := hbf.cell
  clear hT hbf hl hs ht c1 c2 c3 f2
  refine bodyPost_ret (v := .agg #[.int .u8 66, .int .u8 0, .string t2, .string t1, .string ⟨#[]⟩, .slice none 0 0, .slice ptr3 t3.length cap3, .slice ptr5 t5.length cap5, .slice ptr4 t4.length cap4, .int .i64 0]) (by simp [results, Tryz.results89, go_sem, hcf]) rfl ?_
  exact ⟨{ foZero 66 with portal := t1, name := t2, formats := t3, params := t4, results := t5 }, { foNil with pf := ptr3, cf := cap3, pp := ptr4, cp := cap4, pr := ptr5, cr := cap5 }, L5, b5, rfl, HH.out.1, HH.out.2.1, readP_B HQ1.out HQ2.out HQ3.out HQ4.out HQ5.out, HH.out.2.2⟩

set_option maxRecDepth 100000 in
set_option maxHeartbeats 4000000 in
theorem fmsg_Q (sb g : Nat) (L : List UInt8) (bad : Bool) (w : World) (h : ScanO w sb g L bad) (hL : L.length ≤ 100000) :
    Calls Tryz.prog 89 #[.agg #[.pointer (some ⟨sb, 0, none⟩)], .int .u8 81] w (fmsgR sb g L bad 81 w) := by
  have hsb := h.lt
  have Hg := Lib.hid (fun e : L ≠ [] => h.ltg e)
  have hA : Below w.heap.size w (w.alloc (.cells #[.pointer (some ⟨sb, 0, none⟩)] 140)) := (Below.refl _ _).alloc (Nat.le_refl _) _
  have hm := MsI.start sb w (w.alloc (.cells #[.pointer (some ⟨sb, 0, none⟩)] 140)) 81 (Touch.of_below hA) hsb
  rw [show (w.alloc (.cells #[.pointer (some ⟨sb, 0, none⟩)] 140)).heap.size = w.heap.size + 1 by simp] at hm
  have hk := ((Blk.new w 140 #[.pointer (some ⟨sb, 0, none⟩)]).alloc (.cells foZ 46)).alloc (.cells (foCells (foZero 81) foNil) 46)
  have hs := h.touch (p := fun _ => False) ((((Touch.refl _ w).alloc (.cells #[.pointer (some ⟨sb, 0, none⟩)] 140)).alloc (.cells foZ 46)).alloc (.cells (foCells (foZero 81) foNil) 46)) (fun e => e) (fun _ e => e)
  unfold foZ at hm hk hs
  rw [show foCells (foZero 81) foNil = #[.int .u8 81, .int .u8 0, .string ⟨#[]⟩, .string ⟨#[]⟩, .string ⟨#[]⟩, .slice none 0 0, .slice none 0 0, .slice none 0 0, .slice none 0 0, .int .i64 0] from rfl] at hm hk hs
  have Hm1 := Lib.hid hm
  have HK1 := Lib.hid hk
  have Hs1 := Lib.hid hs
  clear h hA hm hk hs
  go_enter Tryz.func89, Tryz.ntmps89
  go_upto_region 2 with (fail)
  generalize ((w.alloc (.cells #[.pointer (some ⟨sb, 0, none⟩)] 140)).alloc (.cells #[.int .u8 0, .int .u8 0, .string ⟨#[]⟩, .string ⟨#[]⟩, .string ⟨#[]⟩, .slice none 0 0, .slice none 0 0, .slice none 0 0, .slice none 0 0, .int .i64 0] 46)).alloc (.cells #[.int .u8 81, .int .u8 0, .string ⟨#[]⟩, .string ⟨#[]⟩, .string ⟨#[]⟩, .slice none 0 0, .slice none 0 0, .slice none 0 0, .slice none 0 0, .int .i64 0] 46) = w1 at *
  have c1 : ∀ i, w1.cell? ⟨w.heap.size, i, none⟩ = (#[.pointer (some ⟨sb, 0, none⟩)] : Array Value)[i]? := HK1.out.cell
  obtain ⟨t1, L1, b1, hq, hc⟩ := scanText_o Hs1.out
  have HQ1 := Lib.hid hq
  have HC := Lib.hid hc
  clear hq hc
  go_upto_region 25 with (go_at_call 98; refine HC.out.mono ?_; rintro e w2 ⟨rfl, hs, hT⟩; have hz2 := hT.size; have Hm2 := Lib.hid (Hm1.out.step hT); have HK2 := Lib.hid (hT.blk HK1.out (by omega)); have Hs2 := Lib.hid hs; have c3 : ∀ i, w2.cell? ⟨w.heap.size + 1 + 1, i, none⟩ = (#[.int .u8 81, .int .u8 0, .string ⟨#[]⟩, .string ⟨#[]⟩, .string ⟨#[]⟩, .slice none 0 0, .slice none 0 0, .slice none 0 0, .slice none 0 0, .int .i64 0] : Array Value)[i]? := Hm2.out.b3.cell; have f3 := Hm2.out.b3.frozen; clear hs hT HC c1 Hm1 HK1 Hs1)
  have hm := Hm2.out.set 4 (.string t1) (f' := { foZero 81 with text := t1 }) (a' := foNil) ⟨Hm2.out.lst.lo, Hm2.out.lst.lf, Hm2.out.lst.lr, Hm2.out.lst.lp⟩ rfl
  have hT := MsI.tset w2 (w.heap.size + 1) 4 (.string t1)
  have hk := hT.blk HK2.out (by omega)
  have hs := Hs2.out.touch hT (by omega) (fun hne e => by have := Hg.out ((fun x => HQ1.out.ne x) hne); omega)
  have Hm3 := Lib.hid hm
  have HK3 := Lib.hid hk
  have Hs3 := Lib.hid hs
  clear hm hT hk hs Hm2 HK2 Hs2 c3 f3
  generalize w2.setCell ⟨w.heap.size + 1 + 1, 4, none⟩ (.string t1) = w3 at *
  have c1 : ∀ i, w3.cell? ⟨w.heap.size, i, none⟩ = (#[.pointer (some ⟨sb, 0, none⟩)] : Array Value)[i]? := HK3.out.cell
  have c3 : ∀ i, w3.cell? ⟨w.heap.size + 1 + 1, i, none⟩ = (#[.int .u8 81, .int .u8 0, .string ⟨#[]⟩, .string ⟨#[]⟩, .string t1, .slice none 0 0, .slice none 0 0, .slice none 0 0, .slice none 0 0, .int .i64 0] : Array Value)[i]? := Hm3.out.b3.cell
  have c2 : ∀ i, w3.cell? ⟨w.heap.size + 1, i, none⟩ = (#[.int .u8 0, .int .u8 0, .string ⟨#[]⟩, .string ⟨#[]⟩, .string ⟨#[]⟩, .slice none 0 0, .slice none 0 0, .slice none 0 0, .slice none 0 0, .int .i64 0] : Array Value)[i]? := Hm3.out.b2.cell
  have f2 := Hm3.out.b2.frozen
  go_wp2_with fail
  have hT := setTen_touch w3 (w.heap.size + 1) (.int .u8 81) (.int .u8 0) (.string ⟨#[]⟩) (.string ⟨#[]⟩) (.string t1) (.slice none 0 0) (.slice none 0 0) (.slice none 0 0) (.slice none 0 0) (.int .i64 0)
  have hbf := setTen_blk (.int .u8 81) (.int .u8 0) (.string ⟨#[]⟩) (.string ⟨#[]⟩) (.string t1) (.slice none 0 0) (.slice none 0 0) (.slice none 0 0) (.slice none 0 0) (.int .i64 0) Hm3.out.b2
  have hl := Hm3.out.lst.keep (S' := fun k => w.heap.size ≤ k) (Kept.touch hT (fun k hk hs => by have hs' : w.heap.size + 1 + 2 ≤ k := hs; exact ⟨by omega, by omega⟩))
  have hs := Hs3.out.touch hT (by omega) (fun hne e => by have := Hg.out ((fun x => HQ1.out.ne x) hne); omega)
  have ht := Hm3.out.tch.then hT (fun k hk e => by omega)
  have HH := Lib.hid (And.intro hl (And.intro hs ht))
  unfold setTen at hbf HH
  have hcf := hbf.cell
  clear hT hbf hl hs ht c1 c2 c3 f2
  refine bodyPost_ret (v := .agg #[.int .u8 81, .int .u8 0, .string ⟨#[]⟩, .string ⟨#[]⟩, .string t1, .slice none 0 0, .slice none 0 0, .slice none 0 0, .slice none 0 0, .int .i64 0]) (by simp [results, Tryz.results89, go_sem, hcf]) rfl ?_
  exact ⟨{ foZero 81 with text := t1 }, foNil, L1, b1, rfl, HH.out.1, HH.out.2.1, readP_Q HQ1.out, HH.out.2.2⟩

set_option maxRecDepth 100000 in
set_option maxHeartbeats 4000000 in
theorem fmsg_E (sb g : Nat) (L : List UInt8) (bad : Bool) (w : World) (h : ScanO w sb g L bad) (hL : L.length ≤ 100000) :
    Calls Tryz.prog 89 #[.agg #[.pointer (some ⟨sb, 0, none⟩)], .int .u8 69] w (fmsgR sb g L bad 69 w) := by
  have hsb := h.lt
  have Hg := Lib.hid (fun e : L ≠ [] => h.ltg e)
  have hA : Below w.heap.size w (w.alloc (.cells #[.pointer (some ⟨sb, 0, none⟩)] 140)) := (Below.refl _ _).alloc (Nat.le_refl _) _
  have hm := MsI.start sb w (w.alloc (.cells #[.pointer (some ⟨sb, 0, none⟩)] 140)) 69 (Touch.of_below hA) hsb
  rw [show (w.alloc (.cells #[.pointer (some ⟨sb, 0, none⟩)] 140)).heap.size = w.heap.size + 1 by simp] at hm
  have hk := ((Blk.new w 140 #[.pointer (some ⟨sb, 0, none⟩)]).alloc (.cells foZ 46)).alloc (.cells (foCells (foZero 69) foNil) 46)
  have hs := h.touch (p := fun _ => False) ((((Touch.refl _ w).alloc (.cells #[.pointer (some ⟨sb, 0, none⟩)] 140)).alloc (.cells foZ 46)).alloc (.cells (foCells (foZero 69) foNil) 46)) (fun e => e) (fun _ e => e)
  unfold foZ at hm hk hs
  rw [show foCells (foZero 69) foNil = #[.int .u8 69, .int .u8 0, .string ⟨#[]⟩, .string ⟨#[]⟩, .string ⟨#[]⟩, .slice none 0 0, .slice none 0 0, .slice none 0 0, .slice none 0 0, .int .i64 0] from rfl] at hm hk hs
  have Hm1 := Lib.hid hm
  have HK1 := Lib.hid hk
  have Hs1 := Lib.hid hs
  clear h hA hm hk hs
  go_enter Tryz.func89, Tryz.ntmps89
  go_upto_region 2 with (fail)
  generalize ((w.alloc (.cells #[.pointer (some ⟨sb, 0, none⟩)] 140)).alloc (.cells #[.int .u8 0, .int .u8 0, .string ⟨#[]⟩, .string ⟨#[]⟩, .string ⟨#[]⟩, .slice none 0 0, .slice none 0 0, .slice none 0 0, .slice none 0 0, .int .i64 0] 46)).alloc (.cells #[.int .u8 69, .int .u8 0, .string ⟨#[]⟩, .string ⟨#[]⟩, .string ⟨#[]⟩, .slice none 0 0, .slice none 0 0, .slice none 0 0, .slice none 0 0, .int .i64 0] 46) = w1 at *
  have c1 : ∀ i, w1.cell? ⟨w.heap.size, i, none⟩ = (#[.pointer (some ⟨sb, 0, none⟩)] : Array Value)[i]? := HK1.out.cell
  obtain ⟨t1, L1, b1, hq, hc⟩ := scanText_o Hs1.out
  have HQ1 := Lib.hid hq
  have HC := Lib.hid hc
  clear hq hc
  go_upto_region 22 with (go_at_call 98; refine HC.out.mono ?_; rintro e w2 ⟨rfl, hs, hT⟩; have hz2 := hT.size; have Hm2 := Lib.hid (Hm1.out.step hT); have HK2 := Lib.hid (hT.blk HK1.out (by omega)); have Hs2 := Lib.hid hs; have c3 : ∀ i, w2.cell? ⟨w.heap.size + 1 + 1, i, none⟩ = (#[.int .u8 69, .int .u8 0, .string ⟨#[]⟩, .string ⟨#[]⟩, .string ⟨#[]⟩, .slice none 0 0, .slice none 0 0, .slice none 0 0, .slice none 0 0, .int .i64 0] : Array Value)[i]? := Hm2.out.b3.cell; have f3 := Hm2.out.b3.frozen; clear hs hT HC c1 Hm1 HK1 Hs1)
  have hm := Hm2.out.set 3 (.string t1) (f' := { foZero 69 with portal := t1 }) (a' := foNil) ⟨Hm2.out.lst.lo, Hm2.out.lst.lf, Hm2.out.lst.lr, Hm2.out.lst.lp⟩ rfl
  have hT := MsI.tset w2 (w.heap.size + 1) 3 (.string t1)
  have hk := hT.blk HK2.out (by omega)
  have hs := Hs2.out.touch hT (by omega) (fun hne e => by have := Hg.out ((fun x => HQ1.out.ne x) hne); omega)
  have Hm3 := Lib.hid hm
  have HK3 := Lib.hid hk
  have Hs3 := Lib.hid hs
  clear hm hT hk hs Hm2 HK2 Hs2 c3 f3
  generalize w2.setCell ⟨w.heap.size + 1 + 1, 3, none⟩ (.string t1) = w3 at *
  have c1 : ∀ i, w3.cell? ⟨w.heap.size, i, none⟩ = (#[.pointer (some ⟨sb, 0, none⟩)] : Array Value)[i]? := HK3.out.cell
  obtain ⟨t2, L2, b2, hq, ht, hc⟩ := scanNum_o Hs3.out 4 4 (by decide)
  have HQ2 := Lib.hid hq
  have HC := Lib.hid hc
  have HG := Lib.hid (fun w => signed_any t2 4 w)
  obtain ⟨sg, hsg⟩ : ∃ sg, signedV t2 4 = sg := ⟨_, rfl⟩
  rw [hsg] at HG
  have HSg := Lib.hid hsg
  clear hq hc hsg ht
  go_wp2_with fail
  refine HC.out.mono ?_
  rintro e w4 ⟨rfl, hs, hT⟩
  have hz4 := hT.size; have Hm4 := Lib.hid (Hm3.out.step hT); have HK4 := Lib.hid (hT.blk HK3.out (by omega)); have Hs4 := Lib.hid hs; have c3 : ∀ i, w4.cell? ⟨w.heap.size + 1 + 1, i, none⟩ = (#[.int .u8 69, .int .u8 0, .string ⟨#[]⟩, .string t1, .string ⟨#[]⟩, .slice none 0 0, .slice none 0 0, .slice none 0 0, .slice none 0 0, .int .i64 0] : Array Value)[i]? := Hm4.out.b3.cell; have f3 := Hm4.out.b3.frozen
  clear hs hT HC c1 Hm3 HK3 Hs3
  go_wp2_with fail
  refine (HG.out w4).mono ?_
  rintro e wx ⟨rfl, rfl⟩
  go_upto_region 25 with (fail)
  have hm := Hm4.out.set 9 (.int .i64 sg) (f' := { foZero 69 with portal := t1, max := sg }) (a' := foNil) ⟨Hm4.out.lst.lo, Hm4.out.lst.lf, Hm4.out.lst.lr, Hm4.out.lst.lp⟩ rfl
  have hT := MsI.tset w4 (w.heap.size + 1) 9 (.int .i64 sg)
  have hk := hT.blk HK4.out (by omega)
  have hs := Hs4.out.touch hT (by omega) (fun hne e => by have := Hg.out ((fun x => HQ1.out.ne (HQ2.out.ne x)) hne); omega)
  have Hm5 := Lib.hid hm
  have HK5 := Lib.hid hk
  have Hs5 := Lib.hid hs
  clear hm hT hk hs Hm4 HK4 Hs4 c3 f3
  generalize w4.setCell ⟨w.heap.size + 1 + 1, 9, none⟩ (.int .i64 sg) = w5 at *
  have c1 : ∀ i, w5.cell? ⟨w.heap.size, i, none⟩ = (#[.pointer (some ⟨sb, 0, none⟩)] : Array Value)[i]? := HK5.out.cell
  have c3 : ∀ i, w5.cell? ⟨w.heap.size + 1 + 1, i, none⟩ = (#[.int .u8 69, .int .u8 0, .string ⟨#[]⟩, .string t1, .string ⟨#[]⟩, .slice none 0 0, .slice none 0 0, .slice none 0 0, .slice none 0 0, .int .i64 sg] : Array Value)[i]? := Hm5.out.b3.cell
  have c2 : ∀ i, w5.cell? ⟨w.heap.size + 1, i, none⟩ = (#[.int .u8 0, .int .u8 0, .string ⟨#[]⟩, .string ⟨#[]⟩, .string ⟨#[]⟩, .slice none 0 0, .slice none 0 0, .slice none 0 0, .slice none 0 0, .int .i64 0] : Array Value)[i]? := Hm5.out.b2.cell
  have f2 := Hm5.out.b2.frozen
  go_wp2_with fail
  have hT := setTen_touch w5 (w.heap.size + 1) (.int .u8 69) (.int .u8 0) (.string ⟨#[]⟩) (.string t1) (.string ⟨#[]⟩) (.slice none 0 0) (.slice none 0 0) (.slice none 0 0) (.slice none 0 0) (.int .i64 sg)
  have hbf := setTen_blk (.int .u8 69) (.int .u8 0) (.string ⟨#[]⟩) (.string t1) (.string ⟨#[]⟩) (.slice none 0 0) (.slice none 0 0) (.slice none 0 0) (.slice none 0 0) (.int .i64 sg) Hm5.out.b2
  have hl := Hm5.out.lst.keep (S' := fun k => w.heap.size ≤ k) (Kept.touch hT (fun k hk hs => by have hs' : w.heap.size + 1 + 2 ≤ k := hs; exact ⟨by omega, by omega⟩))
  have hs := Hs5.out.touch hT (by omega) (fun hne e => by have := Hg.out ((fun x => HQ1.out.ne (HQ2.out.ne x)) hne); omega)
  have ht := Hm5.out.tch.then hT (fun k hk e => by omega)
  have HH := Lib.hid (And.intro hl (And.intro hs ht))
  unfold setTen at hbf HH
  have hcf := hbf.cell
  clear hT hbf hl hs ht c1 c2 c3 f2
  refine bodyPost_ret (v := .agg #[.int .u8 69, .int .u8 0, .string ⟨#[]⟩, .string t1, .string ⟨#[]⟩, .slice none 0 0, .slice none 0 0, .slice none 0 0, .slice none 0 0, .int .i64 sg]) (by simp [results, Tryz.results89, go_sem, hcf]) rfl ?_
  exact ⟨{ foZero 69 with portal := t1, max := sg }, foNil, L2, b2, rfl, HH.out.1, HH.out.2.1, (by rw [← HSg.out]; exact readP_E HQ1.out HQ2.out), HH.out.2.2⟩

set_option maxRecDepth 100000 in
set_option maxHeartbeats 4000000 in
theorem fmsg_67 (sb g : Nat) (L : List UInt8) (bad : Bool) (w : World) (h : ScanO w sb g L bad) (hL : L.length ≤ 100000) :
    Calls Tryz.prog 89 #[.agg #[.pointer (some ⟨sb, 0, none⟩)], .int .u8 67] w (fmsgR sb g L bad 67 w) := by
  have hsb := h.lt
  have Hg := Lib.hid (fun e : L ≠ [] => h.ltg e)
  have hA : Below w.heap.size w (w.alloc (.cells #[.pointer (some ⟨sb, 0, none⟩)] 140)) := (Below.refl _ _).alloc (Nat.le_refl _) _
  have hm := MsI.start sb w (w.alloc (.cells #[.pointer (some ⟨sb, 0, none⟩)] 140)) 67 (Touch.of_below hA) hsb
  rw [show (w.alloc (.cells #[.pointer (some ⟨sb, 0, none⟩)] 140)).heap.size = w.heap.size + 1 by simp] at hm
  have hk := ((Blk.new w 140 #[.pointer (some ⟨sb, 0, none⟩)]).alloc (.cells foZ 46)).alloc (.cells (foCells (foZero 67) foNil) 46)
  have hs := h.touch (p := fun _ => False) ((((Touch.refl _ w).alloc (.cells #[.pointer (some ⟨sb, 0, none⟩)] 140)).alloc (.cells foZ 46)).alloc (.cells (foCells (foZero 67) foNil) 46)) (fun e => e) (fun _ e => e)
  unfold foZ at hm hk hs
  rw [show foCells (foZero 67) foNil = #[.int .u8 67, .int .u8 0, .string ⟨#[]⟩, .string ⟨#[]⟩, .string ⟨#[]⟩, .slice none 0 0, .slice none 0 0, .slice none 0 0, .slice none 0 0, .int .i64 0] from rfl] at hm hk hs
  have Hm1 := Lib.hid hm
  have HK1 := Lib.hid hk
  have Hs1 := Lib.hid hs
  clear h hA hm hk hs
  go_enter Tryz.func89, Tryz.ntmps89
  go_upto_region 2 with (fail)
  generalize ((w.alloc (.cells #[.pointer (some ⟨sb, 0, none⟩)] 140)).alloc (.cells #[.int .u8 0, .int .u8 0, .string ⟨#[]⟩, .string ⟨#[]⟩, .string ⟨#[]⟩, .slice none 0 0, .slice none 0 0, .slice none 0 0, .slice none 0 0, .int .i64 0] 46)).alloc (.cells #[.int .u8 67, .int .u8 0, .string ⟨#[]⟩, .string ⟨#[]⟩, .string ⟨#[]⟩, .slice none 0 0, .slice none 0 0, .slice none 0 0, .slice none 0 0, .int .i64 0] 46) = w1 at *
  have c1 : ∀ i, w1.cell? ⟨w.heap.size, i, none⟩ = (#[.pointer (some ⟨sb, 0, none⟩)] : Array Value)[i]? := HK1.out.cell
  obtain ⟨t1, L1, b1, hq, ht, hc⟩ := scanNum_o Hs1.out 1 1 (by decide)
  have hwr : IntKind.u8.wrap t1 = t1 := by rw [ht]; exact num8w _ _
  have HQ1 := Lib.hid hq
  have HC := Lib.hid hc
  clear hq hc ht
  go_upto_region 16 with (go_at_call 92; refine HC.out.mono ?_; rintro e w2 ⟨rfl, hs, hT⟩; have hz2 := hT.size; have Hm2 := Lib.hid (Hm1.out.step hT); have HK2 := Lib.hid (hT.blk HK1.out (by omega)); have Hs2 := Lib.hid hs; have c3 : ∀ i, w2.cell? ⟨w.heap.size + 1 + 1, i, none⟩ = (#[.int .u8 67, .int .u8 0, .string ⟨#[]⟩, .string ⟨#[]⟩, .string ⟨#[]⟩, .slice none 0 0, .slice none 0 0, .slice none 0 0, .slice none 0 0, .int .i64 0] : Array Value)[i]? := Hm2.out.b3.cell; have f3 := Hm2.out.b3.frozen; clear hs hT HC c1 Hm1 HK1 Hs1)
  try simp only [hwr]
  have hm := Hm2.out.set 1 (.int .u8 t1) (f' := { foZero 67 with what := t1 }) (a' := foNil) ⟨Hm2.out.lst.lo, Hm2.out.lst.lf, Hm2.out.lst.lr, Hm2.out.lst.lp⟩ rfl
  have hT := MsI.tset w2 (w.heap.size + 1) 1 (.int .u8 t1)
  have hk := hT.blk HK2.out (by omega)
  have hs := Hs2.out.touch hT (by omega) (fun hne e => by have := Hg.out ((fun x => HQ1.out.ne x) hne); omega)
  have Hm3 := Lib.hid hm
  have HK3 := Lib.hid hk
  have Hs3 := Lib.hid hs
  clear hm hT hk hs Hm2 HK2 Hs2 c3 f3
  generalize w2.setCell ⟨w.heap.size + 1 + 1, 1, none⟩ (.int .u8 t1) = w3 at *
  have c1 : ∀ i, w3.cell? ⟨w.heap.size, i, none⟩ = (#[.pointer (some ⟨sb, 0, none⟩)] : Array Value)[i]? := HK3.out.cell
  by_cases hx : t1 = 83
  · subst hx
    obtain ⟨t2, L2, b2, hq, hc⟩ := scanText_o Hs3.out
    have HQ2 := Lib.hid hq
    have HC := Lib.hid hc
    clear hq hc
    go_upto_region 25 with (go_at_call 98; refine HC.out.mono ?_; rintro e w4 ⟨rfl, hs, hT⟩; have hz4 := hT.size; have Hm4 := Lib.hid (Hm3.out.step hT); have HK4 := Lib.hid (hT.blk HK3.out (by omega)); have Hs4 := Lib.hid hs; have c3 : ∀ i, w4.cell? ⟨w.heap.size + 1 + 1, i, none⟩ = (#[.int .u8 67, .int .u8 83, .string ⟨#[]⟩, .string ⟨#[]⟩, .string ⟨#[]⟩, .slice none 0 0, .slice none 0 0, .slice none 0 0, .slice none 0 0, .int .i64 0] : Array Value)[i]? := Hm4.out.b3.cell; have f3 := Hm4.out.b3.frozen; clear hs hT HC c1 Hm3 HK3 Hs3)
    have hm := Hm4.out.set 2 (.string t2) (f' := { foZero 67 with what := 83, name := t2 }) (a' := foNil) ⟨Hm4.out.lst.lo, Hm4.out.lst.lf, Hm4.out.lst.lr, Hm4.out.lst.lp⟩ rfl
    have hT := MsI.tset w4 (w.heap.size + 1) 2 (.string t2)
    have hk := hT.blk HK4.out (by omega)
    have hs := Hs4.out.touch hT (by omega) (fun hne e => by have := Hg.out ((fun x => HQ1.out.ne (HQ2.out.ne x)) hne); omega)
    have Hm5 := Lib.hid hm
    have HK5 := Lib.hid hk
    have Hs5 := Lib.hid hs
    clear hm hT hk hs Hm4 HK4 Hs4 c3 f3
    generalize w4.setCell ⟨w.heap.size + 1 + 1, 2, none⟩ (.string t2) = w5 at *
    have c1 : ∀ i, w5.cell? ⟨w.heap.size, i, none⟩ = (#[.pointer (some ⟨sb, 0, none⟩)] : Array Value)[i]? := HK5.out.cell
    have c3 : ∀ i, w5.cell? ⟨w.heap.size + 1 + 1, i, none⟩ = (#[.int .u8 67, .int .u8 83, .string t2, .string ⟨#[]⟩, .string ⟨#[]⟩, .slice none 0 0, .slice none 0 0, .slice none 0 0, .slice none 0 0, .int .i64 0] : Array Value)[i]? := Hm5.out.b3.cell
    have c2 : ∀ i, w5.cell? ⟨w.heap.size + 1, i, none⟩ = (#[.int .u8 0, .int .u8 0, .string ⟨#[]⟩, .string ⟨#[]⟩, .string ⟨#[]⟩, .slice none 0 0, .slice none 0 0, .slice none 0 0, .slice none 0 0, .int .i64 0] : Array Value)[i]? := Hm5.out.b2.cell
    have f2 := Hm5.out.b2.frozen
    go_wp2_with fail
    have hT := setTen_touch w5 (w.heap.size + 1) (.int .u8 67) (.int .u8 83) (.string t2) (.string ⟨#[]⟩) (.string ⟨#[]⟩) (.slice none 0 0) (.slice none 0 0) (.slice none 0 0) (.slice none 0 0) (.int .i64 0)
    have hbf := setTen_blk (.int .u8 67) (.int .u8 83) (.string t2) (.string ⟨#[]⟩) (.string ⟨#[]⟩) (.slice none 0 0) (.slice none 0 0) (.slice none 0 0) (.slice none 0 0) (.int .i64 0) Hm5.out.b2
    have hl := Hm5.out.lst.keep (S' := fun k => w.heap.size ≤ k) (Kept.touch hT (fun k hk hs => by have hs' : w.heap.size + 1 + 2 ≤ k := hs; exact ⟨by omega, by omega⟩))
    have hs := Hs5.out.touch hT (by omega) (fun hne e => by have := Hg.out ((fun x => HQ1.out.ne (HQ2.out.ne x)) hne); omega)
    have ht := Hm5.out.tch.then hT (fun k hk e => by omega)
    have HH := Lib.hid (And.intro hl (And.intro hs ht))
    unfold setTen at hbf HH
    have hcf := hbf.cell
    clear hT hbf hl hs ht c1 c2 c3 f2
    refine bodyPost_ret (v := .agg #[.int .u8 67, .int .u8 83, .string t2, .string ⟨#[]⟩, .string ⟨#[]⟩, .slice none 0 0, .slice none 0 0, .slice none 0 0, .slice none 0 0, .int .i64 0]) (by simp [results, Tryz.results89, go_sem, hcf]) rfl ?_
    exact ⟨{ foZero 67 with what := 83, name := t2 }, foNil, L2, b2, rfl, HH.out.1, HH.out.2.1, (by have h := readP_C (k := 67) (.inl rfl) HQ1.out HQ2.out; rw [if_pos rfl] at h; exact h), HH.out.2.2⟩
  · have gx : (t1 == 83) = false := by simpa using hx
    have Hx := Lib.hid hx
    clear hx
    obtain ⟨t2, L2, b2, hq, hc⟩ := scanText_o Hs3.out
    have HQ2 := Lib.hid hq
    have HC := Lib.hid hc
    clear hq hc
    go_upto_region 25 with (go_at_call 98; refine HC.out.mono ?_; rintro e w4 ⟨rfl, hs, hT⟩; have hz4 := hT.size; have Hm4 := Lib.hid (Hm3.out.step hT); have HK4 := Lib.hid (hT.blk HK3.out (by omega)); have Hs4 := Lib.hid hs; have c3 : ∀ i, w4.cell? ⟨w.heap.size + 1 + 1, i, none⟩ = (#[.int .u8 67, .int .u8 t1, .string ⟨#[]⟩, .string ⟨#[]⟩, .string ⟨#[]⟩, .slice none 0 0, .slice none 0 0, .slice none 0 0, .slice none 0 0, .int .i64 0] : Array Value)[i]? := Hm4.out.b3.cell; have f3 := Hm4.out.b3.frozen; clear hs hT HC c1 Hm3 HK3 Hs3)
    have hm := Hm4.out.set 3 (.string t2) (f' := { foZero 67 with what := t1, portal := t2 }) (a' := foNil) ⟨Hm4.out.lst.lo, Hm4.out.lst.lf, Hm4.out.lst.lr, Hm4.out.lst.lp⟩ rfl
    have hT := MsI.tset w4 (w.heap.size + 1) 3 (.string t2)
    have hk := hT.blk HK4.out (by omega)
    have hs := Hs4.out.touch hT (by omega) (fun hne e => by have := Hg.out ((fun x => HQ1.out.ne (HQ2.out.ne x)) hne); omega)
    have Hm5 := Lib.hid hm
    have HK5 := Lib.hid hk
    have Hs5 := Lib.hid hs
    clear hm hT hk hs Hm4 HK4 Hs4 c3 f3
    generalize w4.setCell ⟨w.heap.size + 1 + 1, 3, none⟩ (.string t2) = w5 at *
    have c1 : ∀ i, w5.cell? ⟨w.heap.size, i, none⟩ = (#[.pointer (some ⟨sb, 0, none⟩)] : Array Value)[i]? := HK5.out.cell
    have c3 : ∀ i, w5.cell? ⟨w.heap.size + 1 + 1, i, none⟩ = (#[.int .u8 67, .int .u8 t1, .string ⟨#[]⟩, .string t2, .string ⟨#[]⟩, .slice none 0 0, .slice none 0 0, .slice none 0 0, .slice none 0 0, .int .i64 0] : Array Value)[i]? := Hm5.out.b3.cell
    have c2 : ∀ i, w5.cell? ⟨w.heap.size + 1, i, none⟩ = (#[.int .u8 0, .int .u8 0, .string ⟨#[]⟩, .string ⟨#[]⟩, .string ⟨#[]⟩, .slice none 0 0, .slice none 0 0, .slice none 0 0, .slice none 0 0, .int .i64 0] : Array Value)[i]? := Hm5.out.b2.cell
    have f2 := Hm5.out.b2.frozen
    go_wp2_with fail
    have hT := setTen_touch w5 (w.heap.size + 1) (.int .u8 67) (.int .u8 t1) (.string ⟨#[]⟩) (.string t2) (.string ⟨#[]⟩) (.slice none 0 0) (.slice none 0 0) (.slice none 0 0) (.slice none 0 0) (.int .i64 0)
    have hbf := setTen_blk (.int .u8 67) (.int .u8 t1) (.string ⟨#[]⟩) (.string t2) (.string ⟨#[]⟩) (.slice none 0 0) (.slice none 0 0) (.slice none 0 0) (.slice none 0 0) (.int .i64 0) Hm5.out.b2
    have hl := Hm5.out.lst.keep (S' := fun k => w.heap.size ≤ k) (Kept.touch hT (fun k hk hs => by have hs' : w.heap.size + 1 + 2 ≤ k := hs; exact ⟨by omega, by omega⟩))
    have hs := Hs5.out.touch hT (by omega) (fun hne e => by have := Hg.out ((fun x => HQ1.out.ne (HQ2.out.ne x)) hne); omega)
    have ht := Hm5.out.tch.then hT (fun k hk e => by omega)
    have HH := Lib.hid (And.intro hl (And.intro hs ht))
    unfold setTen at hbf HH
    have hcf := hbf.cell
    clear hT hbf hl hs ht c1 c2 c3 f2
    refine bodyPost_ret (v := .agg #[.int .u8 67, .int .u8 t1, .string ⟨#[]⟩, .string t2, .string ⟨#[]⟩, .slice none 0 0, .slice none 0 0, .slice none 0 0, .slice none 0 0, .int .i64 0]) (by simp [results, Tryz.results89, go_sem, hcf]) rfl ?_
    exact ⟨{ foZero 67 with what := t1, portal := t2 }, foNil, L2, b2, rfl, HH.out.1, HH.out.2.1, (by have h := readP_C (k := 67) (.inl rfl) HQ1.out HQ2.out; rw [if_neg Hx.out] at h; exact h), HH.out.2.2⟩

set_option maxRecDepth 100000 in
set_option maxHeartbeats 4000000 in
theorem fmsg_68 (sb g : Nat) (L : List UInt8) (bad : Bool) (w : World) (h : ScanO w sb g L bad) (hL : L.length ≤ 100000) :
    Calls Tryz.prog 89 #[.agg #[.pointer (some ⟨sb, 0, none⟩)], .int .u8 68] w (fmsgR sb g L bad 68 w) := by
  have hsb := h.lt
  have Hg := Lib.hid (fun e : L ≠ [] => h.ltg e)
  have hA : Below w.heap.size w (w.alloc (.cells #[.pointer (some ⟨sb, 0, none⟩)] 140)) := (Below.refl _ _).alloc (Nat.le_refl _) _
  have hm := MsI.start sb w (w.alloc (.cells #[.pointer (some ⟨sb, 0, none⟩)] 140)) 68 (Touch.of_below hA) hsb
  rw [show (w.alloc (.cells #[.pointer (some ⟨sb, 0, none⟩)] 140)).heap.size = w.heap.size + 1 by simp] at hm
  have hk := ((Blk.new w 140 #[.pointer (some ⟨sb, 0, none⟩)]).alloc (.cells foZ 46)).alloc (.cells (foCells (foZero 68) foNil) 46)
  have hs := h.touch (p := fun _ => False) ((((Touch.refl _ w).alloc (.cells #[.pointer (some ⟨sb, 0, none⟩)] 140)).alloc (.cells foZ 46)).alloc (.cells (foCells (foZero 68) foNil) 46)) (fun e => e) (fun _ e => e)
  unfold foZ at hm hk hs
  rw [show foCells (foZero 68) foNil = #[.int .u8 68, .int .u8 0, .string ⟨#[]⟩, .string ⟨#[]⟩, .string ⟨#[]⟩, .slice none 0 0, .slice none 0 0, .slice none 0 0, .slice none 0 0, .int .i64 0] from rfl] at hm hk hs
  have Hm1 := Lib.hid hm
  have HK1 := Lib.hid hk
  have Hs1 := Lib.hid hs
  clear h hA hm hk hs
  go_enter Tryz.func89, Tryz.ntmps89
  go_upto_region 2 with (fail)
  generalize ((w.alloc (.cells #[.pointer (some ⟨sb, 0, none⟩)] 140)).alloc (.cells #[.int .u8 0, .int .u8 0, .string ⟨#[]⟩, .string ⟨#[]⟩, .string ⟨#[]⟩, .slice none 0 0, .slice none 0 0, .slice none 0 0, .slice none 0 0, .int .i64 0] 46)).alloc (.cells #[.int .u8 68, .int .u8 0, .string ⟨#[]⟩, .string ⟨#[]⟩, .string ⟨#[]⟩, .slice none 0 0, .slice none 0 0, .slice none 0 0, .slice none 0 0, .int .i64 0] 46) = w1 at *
  have c1 : ∀ i, w1.cell? ⟨w.heap.size, i, none⟩ = (#[.pointer (some ⟨sb, 0, none⟩)] : Array Value)[i]? := HK1.out.cell
  obtain ⟨t1, L1, b1, hq, ht, hc⟩ := scanNum_o Hs1.out 1 1 (by decide)
  have hwr : IntKind.u8.wrap t1 = t1 := by rw [ht]; exact num8w _ _
  have HQ1 := Lib.hid hq
  have HC := Lib.hid hc
  clear hq hc ht
  go_upto_region 16 with (go_at_call 92; refine HC.out.mono ?_; rintro e w2 ⟨rfl, hs, hT⟩; have hz2 := hT.size; have Hm2 := Lib.hid (Hm1.out.step hT); have HK2 := Lib.hid (hT.blk HK1.out (by omega)); have Hs2 := Lib.hid hs; have c3 : ∀ i, w2.cell? ⟨w.heap.size + 1 + 1, i, none⟩ = (#[.int .u8 68, .int .u8 0, .string ⟨#[]⟩, .string ⟨#[]⟩, .string ⟨#[]⟩, .slice none 0 0, .slice none 0 0, .slice none 0 0, .slice none 0 0, .int .i64 0] : Array Value)[i]? := Hm2.out.b3.cell; have f3 := Hm2.out.b3.frozen; clear hs hT HC c1 Hm1 HK1 Hs1)
  try simp only [hwr]
  have hm := Hm2.out.set 1 (.int .u8 t1) (f' := { foZero 68 with what := t1 }) (a' := foNil) ⟨Hm2.out.lst.lo, Hm2.out.lst.lf, Hm2.out.lst.lr, Hm2.out.lst.lp⟩ rfl
  have hT := MsI.tset w2 (w.heap.size + 1) 1 (.int .u8 t1)
  have hk := hT.blk HK2.out (by omega)
  have hs := Hs2.out.touch hT (by omega) (fun hne e => by have := Hg.out ((fun x => HQ1.out.ne x) hne); omega)
  have Hm3 := Lib.hid hm
  have HK3 := Lib.hid hk
  have Hs3 := Lib.hid hs
  clear hm hT hk hs Hm2 HK2 Hs2 c3 f3
  generalize w2.setCell ⟨w.heap.size + 1 + 1, 1, none⟩ (.int .u8 t1) = w3 at *
  have c1 : ∀ i, w3.cell? ⟨w.heap.size, i, none⟩ = (#[.pointer (some ⟨sb, 0, none⟩)] : Array Value)[i]? := HK3.out.cell
  by_cases hx : t1 = 83
  · subst hx
    obtain ⟨t2, L2, b2, hq, hc⟩ := scanText_o Hs3.out
    have HQ2 := Lib.hid hq
    have HC := Lib.hid hc
    clear hq hc
    go_upto_region 25 with (go_at_call 98; refine HC.out.mono ?_; rintro e w4 ⟨rfl, hs, hT⟩; have hz4 := hT.size; have Hm4 := Lib.hid (Hm3.out.step hT); have HK4 := Lib.hid (hT.blk HK3.out (by omega)); have Hs4 := Lib.hid hs; have c3 : ∀ i, w4.cell? ⟨w.heap.size + 1 + 1, i, none⟩ = (#[.int .u8 68, .int .u8 83, .string ⟨#[]⟩, .string ⟨#[]⟩, .string ⟨#[]⟩, .slice none 0 0, .slice none 0 0, .slice none 0 0, .slice none 0 0, .int .i64 0] : Array Value)[i]? := Hm4.out.b3.cell; have f3 := Hm4.out.b3.frozen; clear hs hT HC c1 Hm3 HK3 Hs3)
    have hm := Hm4.out.set 2 (.string t2) (f' := { foZero 68 with what := 83, name := t2 }) (a' := foNil) ⟨Hm4.out.lst.lo, Hm4.out.lst.lf, Hm4.out.lst.lr, Hm4.out.lst.lp⟩ rfl
    have hT := MsI.tset w4 (w.heap.size + 1) 2 (.string t2)
    have hk := hT.blk HK4.out (by omega)
    have hs := Hs4.out.touch hT (by omega) (fun hne e => by have := Hg.out ((fun x => HQ1.out.ne (HQ2.out.ne x)) hne); omega)
    have Hm5 := Lib.hid hm
    have HK5 := Lib.hid hk
    have Hs5 := Lib.hid hs
    clear hm hT hk hs Hm4 HK4 Hs4 c3 f3
    generalize w4.setCell ⟨w.heap.size + 1 + 1, 2, none⟩ (.string t2) = w5 at *
    have c1 : ∀ i, w5.cell? ⟨w.heap.size, i, none⟩ = (#[.pointer (some ⟨sb, 0, none⟩)] : Array Value)[i]? := HK5.out.cell
    have c3 : ∀ i, w5.cell? ⟨w.heap.size + 1 + 1, i, none⟩ = (#[.int .u8 68, .int .u8 83, .string t2, .string ⟨#[]⟩, .string ⟨#[]⟩, .slice none 0 0, .slice none 0 0, .slice none 0 0, .slice none 0 0, .int .i64 0] : Array Value)[i]? := Hm5.out.b3.cell
    have c2 : ∀ i, w5.cell? ⟨w.heap.size + 1, i, none⟩ = (#[.int .u8 0, .int .u8 0, .string ⟨#[]⟩, .string ⟨#[]⟩, .string ⟨#[]⟩, .slice none 0 0, .slice none 0 0, .slice none 0 0, .slice none 0 0, .int .i64 0] : Array Value)[i]? := Hm5.out.b2.cell
    have f2 := Hm5.out.b2.frozen
    go_wp2_with fail
    have hT := setTen_touch w5 (w.heap.size + 1) (.int .u8 68) (.int .u8 83) (.string t2) (.string ⟨#[]⟩) (.string ⟨#[]⟩) (.slice none 0 0) (.slice none 0 0) (.slice none 0 0) (.slice none 0 0) (.int .i64 0)
    have hbf := setTen_blk (.int .u8 68) (.int .u8 83) (.string t2) (.string ⟨#[]⟩) (.string ⟨#[]⟩) (.slice none 0 0) (.slice none 0 0) (.slice none 0 0) (.slice none 0 0) (.int .i64 0) Hm5.out.b2
    have hl := Hm5.out.lst.keep (S' := fun k => w.heap.size ≤ k) (Kept.touch hT (fun k hk hs => by have hs' : w.heap.size + 1 + 2 ≤ k := hs; exact ⟨by omega, by omega⟩))
    have hs := Hs5.out.touch hT (by omega) (fun hne e => by have := Hg.out ((fun x => HQ1.out.ne (HQ2.out.ne x)) hne); omega)
    have ht := Hm5.out.tch.then hT (fun k hk e => by omega)
    have HH := Lib.hid (And.intro hl (And.intro hs ht))
    unfold setTen at hbf HH
    have hcf := hbf.cell
    clear hT hbf hl hs ht c1 c2 c3 f2
    refine bodyPost_ret (v := .agg #[.int .u8 68, .int .u8 83, .string t2, .string ⟨#[]⟩, .string ⟨#[]⟩, .slice none 0 0, .slice none 0 0, .slice none 0 0, .slice none 0 0, .int .i64 0]) (by simp [results, Tryz.results89, go_sem, hcf]) rfl ?_
    exact ⟨{ foZero 68 with what := 83, name := t2 }, foNil, L2, b2, rfl, HH.out.1, HH.out.2.1, (by have h := readP_C (k := 68) (.inr rfl) HQ1.out HQ2.out; rw [if_pos rfl] at h; exact h), HH.out.2.2⟩
  · have gx : (t1 == 83) = false := by simpa using hx
    have Hx := Lib.hid hx
    clear hx
    obtain ⟨t2, L2, b2, hq, hc⟩ := scanText_o Hs3.out
    have HQ2 := Lib.hid hq
    have HC := Lib.hid hc
    clear hq hc
    go_upto_region 25 with (go_at_call 98; refine HC.out.mono ?_; rintro e w4 ⟨rfl, hs, hT⟩; have hz4 := hT.size; have Hm4 := Lib.hid (Hm3.out.step hT); have HK4 := Lib.hid (hT.blk HK3.out (by omega)); have Hs4 := Lib.hid hs; have c3 : ∀ i, w4.cell? ⟨w.heap.size + 1 + 1, i, none⟩ = (#[.int .u8 68, .int .u8 t1, .string ⟨#[]⟩, .string ⟨#[]⟩, .string ⟨#[]⟩, .slice none 0 0, .slice none 0 0, .slice none 0 0, .slice none 0 0, .int .i64 0] : Array Value)[i]? := Hm4.out.b3.cell; have f3 := Hm4.out.b3.frozen; clear hs hT HC c1 Hm3 HK3 Hs3)
    have hm := Hm4.out.set 3 (.string t2) (f' := { foZero 68 with what := t1, portal := t2 }) (a' := foNil) ⟨Hm4.out.lst.lo, Hm4.out.lst.lf, Hm4.out.lst.lr, Hm4.out.lst.lp⟩ rfl
    have hT := MsI.tset w4 (w.heap.size + 1) 3 (.string t2)
    have hk := hT.blk HK4.out (by omega)
    have hs := Hs4.out.touch hT (by omega) (fun hne e => by have := Hg.out ((fun x => HQ1.out.ne (HQ2.out.ne x)) hne); omega)
    have Hm5 := Lib.hid hm
    have HK5 := Lib.hid hk
    have Hs5 := Lib.hid hs
    clear hm hT hk hs Hm4 HK4 Hs4 c3 f3
    generalize w4.setCell ⟨w.heap.size + 1 + 1, 3, none⟩ (.string t2) = w5 at *
    have c1 : ∀ i, w5.cell? ⟨w.heap.size, i, none⟩ = (#[.pointer (some ⟨sb, 0, none⟩)] : Array Value)[i]? := HK5.out.cell
    have c3 : ∀ i, w5.cell? ⟨w.heap.size + 1 + 1, i, none⟩ = (#[.int .u8 68, .int .u8 t1, .string ⟨#[]⟩, .string t2, .string ⟨#[]⟩, .slice none 0 0, .slice none 0 0, .slice none 0 0, .slice none 0 0, .int .i64 0] : Array Value)[i]? := Hm5.out.b3.cell
    have c2 : ∀ i, w5.cell? ⟨w.heap.size + 1, i, none⟩ = (#[.int .u8 0, .int .u8 0, .string ⟨#[]⟩, .string ⟨#[]⟩, .string ⟨#[]⟩, .slice none 0 0, .slice none 0 0, .slice none 0 0, .slice none 0 0, .int .i64 0] : Array Value)[i]? := Hm5.out.b2.cell
    have f2 := Hm5.out.b2.frozen
    go_wp2_with fail
    have hT := setTen_touch w5 (w.heap.size + 1) (.int .u8 68) (.int .u8 t1) (.string ⟨#[]⟩) (.string t2) (.string ⟨#[]⟩) (.slice none 0 0) (.slice none 0 0) (.slice none 0 0) (.slice none 0 0) (.int .i64 0)
    have hbf := setTen_blk (.int .u8 68) (.int .u8 t1) (.string ⟨#[]⟩) (.string t2) (.string ⟨#[]⟩) (.slice none 0 0) (.slice none 0 0) (.slice none 0 0) (.slice none 0 0) (.int .i64 0) Hm5.out.b2
    have hl := Hm5.out.lst.keep (S' := fun k => w.heap.size ≤ k) (Kept.touch hT (fun k hk hs => by have hs' : w.heap.size + 1 + 2 ≤ k := hs; exact ⟨by omega, by omega⟩))
    have hs := Hs5.out.touch hT (by omega) (fun hne e => by have := Hg.out ((fun x => HQ1.out.ne (HQ2.out.ne x)) hne); omega)
    have ht := Hm5.out.tch.then hT (fun k hk e => by omega)
    have HH := Lib.hid (And.intro hl (And.intro hs ht))
    unfold setTen at hbf HH
    have hcf := hbf.cell
    clear hT hbf hl hs ht c1 c2 c3 f2
    refine bodyPost_ret (v := .agg #[.int .u8 68, .int .u8 t1, .string ⟨#[]⟩, .string t2, .string ⟨#[]⟩, .slice none 0 0, .slice none 0 0, .slice none 0 0, .slice none 0 0, .int .i64 0]) (by simp [results, Tryz.results89, go_sem, hcf]) rfl ?_
    exact ⟨{ foZero 68 with what := t1, portal := t2 }, foNil, L2, b2, rfl, HH.out.1, HH.out.2.1, (by have h := readP_C (k := 68) (.inr rfl) HQ1.out HQ2.out; rw [if_neg Hx.out] at h; exact h), HH.out.2.2⟩

set_option maxRecDepth 100000 in
set_option maxHeartbeats 4000000 in
theorem fmsg_other (sb g : Nat) (L : List UInt8) (bad : Bool) (w : World) (h : ScanO w sb g L bad) (k : Int) (h1 : k ≠ 80) (h2 : k ≠ 66) (h3 : ¬ (k = 67 ∨ k = 68)) (h4 : k ≠ 69) (h5 : k ≠ 81) :
    Calls Tryz.prog 89 #[.agg #[.pointer (some ⟨sb, 0, none⟩)], .int .u8 k] w (fmsgR sb g L bad k w) := by
  have hsb := h.lt
  have HQ := Lib.hid (readP_other (L := L) (bad := bad) h1 h2 h3 h4 h5)
  have g0 : (k == 80) = false := by simp; omega
  have g1 : (k == 66) = false := by simp; omega
  have g2 : (k == 67) = false := by simp; omega
  have g3 : (k == 68) = false := by simp; omega
  have g4 : (k == 69) = false := by simp; omega
  have g5 : (k == 81) = false := by simp; omega
  clear h1 h2 h3 h4 h5
  have Hg := Lib.hid (fun e : L ≠ [] => h.ltg e)
  have hA : Below w.heap.size w (w.alloc (.cells #[.pointer (some ⟨sb, 0, none⟩)] 140)) := (Below.refl _ _).alloc (Nat.le_refl _) _
  have hm := MsI.start sb w (w.alloc (.cells #[.pointer (some ⟨sb, 0, none⟩)] 140)) k (Touch.of_below hA) hsb
  rw [show (w.alloc (.cells #[.pointer (some ⟨sb, 0, none⟩)] 140)).heap.size = w.heap.size + 1 by simp] at hm
  have hk := ((Blk.new w 140 #[.pointer (some ⟨sb, 0, none⟩)]).alloc (.cells foZ 46)).alloc (.cells (foCells (foZero k) foNil) 46)
  have hs := h.touch (p := fun _ => False) ((((Touch.refl _ w).alloc (.cells #[.pointer (some ⟨sb, 0, none⟩)] 140)).alloc (.cells foZ 46)).alloc (.cells (foCells (foZero k) foNil) 46)) (fun e => e) (fun _ e => e)
  unfold foZ at hm hk hs
  rw [show foCells (foZero k) foNil = #[.int .u8 k, .int .u8 0, .string ⟨#[]⟩, .string ⟨#[]⟩, .string ⟨#[]⟩, .slice none 0 0, .slice none 0 0, .slice none 0 0, .slice none 0 0, .int .i64 0] from rfl] at hm hk hs
  have Hm1 := Lib.hid hm
  have HK1 := Lib.hid hk
  have Hs1 := Lib.hid hs
  clear h hA hm hk hs
  go_enter Tryz.func89, Tryz.ntmps89
  go_upto_region 2 with (fail)
  generalize ((w.alloc (.cells #[.pointer (some ⟨sb, 0, none⟩)] 140)).alloc (.cells #[.int .u8 0, .int .u8 0, .string ⟨#[]⟩, .string ⟨#[]⟩, .string ⟨#[]⟩, .slice none 0 0, .slice none 0 0, .slice none 0 0, .slice none 0 0, .int .i64 0] 46)).alloc (.cells #[.int .u8 k, .int .u8 0, .string ⟨#[]⟩, .string ⟨#[]⟩, .string ⟨#[]⟩, .slice none 0 0, .slice none 0 0, .slice none 0 0, .slice none 0 0, .int .i64 0] 46) = w1 at *
  have c1 : ∀ i, w1.cell? ⟨w.heap.size, i, none⟩ = (#[.pointer (some ⟨sb, 0, none⟩)] : Array Value)[i]? := HK1.out.cell
  have c3 : ∀ i, w1.cell? ⟨w.heap.size + 1 + 1, i, none⟩ = (#[.int .u8 k, .int .u8 0, .string ⟨#[]⟩, .string ⟨#[]⟩, .string ⟨#[]⟩, .slice none 0 0, .slice none 0 0, .slice none 0 0, .slice none 0 0, .int .i64 0] : Array Value)[i]? := Hm1.out.b3.cell
  have c2 : ∀ i, w1.cell? ⟨w.heap.size + 1, i, none⟩ = (#[.int .u8 0, .int .u8 0, .string ⟨#[]⟩, .string ⟨#[]⟩, .string ⟨#[]⟩, .slice none 0 0, .slice none 0 0, .slice none 0 0, .slice none 0 0, .int .i64 0] : Array Value)[i]? := Hm1.out.b2.cell
  have f2 := Hm1.out.b2.frozen
  go_wp2_with fail
  have hT := setTen_touch w1 (w.heap.size + 1) (.int .u8 k) (.int .u8 0) (.string ⟨#[]⟩) (.string ⟨#[]⟩) (.string ⟨#[]⟩) (.slice none 0 0) (.slice none 0 0) (.slice none 0 0) (.slice none 0 0) (.int .i64 0)
  have hbf := setTen_blk (.int .u8 k) (.int .u8 0) (.string ⟨#[]⟩) (.string ⟨#[]⟩) (.string ⟨#[]⟩) (.slice none 0 0) (.slice none 0 0) (.slice none 0 0) (.slice none 0 0) (.int .i64 0) Hm1.out.b2
  have hl := Hm1.out.lst.keep (S' := fun k => w.heap.size ≤ k) (Kept.touch hT (fun k hk hs => by have hs' : w.heap.size + 1 + 2 ≤ k := hs; exact ⟨by omega, by omega⟩))
  have hs := Hs1.out.touch hT (by omega) (fun hne e => by have := Hg.out ((fun x => x) hne); omega)
  have ht := Hm1.out.tch.then hT (fun k hk e => by omega)
  have HH := Lib.hid (And.intro hl (And.intro hs ht))
  unfold setTen at hbf HH
  have hcf := hbf.cell
  clear hT hbf hl hs ht c1 c2 c3 f2
  refine bodyPost_ret (v := .agg #[.int .u8 k, .int .u8 0, .string ⟨#[]⟩, .string ⟨#[]⟩, .string ⟨#[]⟩, .slice none 0 0, .slice none 0 0, .slice none 0 0, .slice none 0 0, .int .i64 0]) (by simp [results, Tryz.results89, go_sem, hcf]) rfl ?_
  exact ⟨foZero k, foNil, L, bad, rfl, HH.out.1, HH.out.2.1, HQ.out, HH.out.2.2⟩

theorem fmsg_any (sb g : Nat) (L : List UInt8) (bad : Bool) (w : World) (h : ScanO w sb g L bad) (hL : L.length ≤ 100000) (k : Int) :
    Calls Tryz.prog 89 #[.agg #[.pointer (some ⟨sb, 0, none⟩)], .int .u8 k] w (fmsgR sb g L bad k w) := by
  by_cases h1 : k = 80
  · subst h1; exact fmsg_P sb g L bad w h hL
  by_cases h2 : k = 66
  · subst h2; exact fmsg_B sb g L bad w h hL
  by_cases h3 : k = 67
  · subst h3; exact fmsg_67 sb g L bad w h hL
  by_cases h4 : k = 68
  · subst h4; exact fmsg_68 sb g L bad w h hL
  by_cases h5 : k = 69
  · subst h5; exact fmsg_E sb g L bad w h hL
  by_cases h6 : k = 81
  · subst h6; exact fmsg_Q sb g L bad w h hL
  exact fmsg_other sb g L bad w h k h1 h2 (by omega) h5 h6

end Go.Proofs.YtacnmdlefonjmaaGreat
