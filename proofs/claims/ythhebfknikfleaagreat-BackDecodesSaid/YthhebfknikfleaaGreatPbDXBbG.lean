/-
  Messages of servers (layer 7): a message that is read, by its kinds: the program's.
-/
import Derived.Test.YthhebfknikfleaaGreatPbDXBbF
namespace Go.Proofs.YthhebfknikfleaaGreat
open Go.RowKit
set_option linter.unusedVariables false
set_option linter.unusedSimpArgs false

/-- A list that a call made, behind the message's blocks. -/
theorem OwnI.lstB {w : World} {v : Value} {xs : List Int} {B : Nat} (h : OwnI B w v xs) (n : Nat) (hn : n ≤ B) : ∃ p c, v = .slice p xs.length c ∧ SliceS 1 IntU (fun k => n ≤ k) w [.slice p xs.length c] xs :=
  h.slice IntU.still (fun k _ hk => by have hk' : B ≤ k := hk; omega) (fun k hk => by have := (h.row k hk).1; omega)
theorem OwnC.lstB {w : World} {v : Value} {xs : List CeV} {B : Nat} (h : OwnC B w v xs) (n : Nat) (hn : n ≤ B) : ∃ p c, v = .slice p xs.length c ∧ SliceS 2 CeS (fun k => n ≤ k) w [.slice p xs.length c] xs :=
  h.slice CeS.still (fun k _ hk => by have hk' : B ≤ k := hk; omega) (fun k hk => by have := (h.row k hk).1; omega)
theorem OwnCo.lstB {w : World} {v : Value} {xs : List CoV} {B : Nat} (h : OwnCo B w v xs) (n : Nat) (hn : n ≤ B) : ∃ p c, v = .slice p xs.length c ∧ SliceS 7 CoS (fun k => n ≤ k) w [.slice p xs.length c] xs :=
  h.slice CoS.still (fun k _ hk => by have hk' : B ≤ k := hk; omega) (fun k hk => by have := (h.row k hk).1; omega)
theorem OwnFd.lstB {w : World} {v : Value} {xs : List FdV} {B : Nat} (h : OwnFd B w v xs) (n : Nat) (hn : n ≤ B) : ∃ p c, v = .slice p xs.length c ∧ SliceS 2 FdS (fun k => n ≤ k) w [.slice p xs.length c] xs :=
  h.slice FdS.still (fun k _ hk => by have hk' : B ≤ k := hk; omega) (fun k hk => by have := (h.row k hk).1; omega)
/-- What is read of a message. -/
def bmsgR (sb g : Nat) (L : List UInt8) (bad : Bool) (k : Int) (w : World) (e : Ending) (w' : World) : Prop :=
  ∃ f a L' bad' srv, e = .returned (.tuple #[baArg f a, .bool srv]) ∧ BaL (fun k => w.heap.size ≤ k) w' f a ∧ ScanO w' sb g L' bad' ∧ StepO L bad (readB k) f L' (bad' || !srv) ∧ Touch (fun i => i = sb) w w'
theorem StepO.orf {α : Type} {L L' : List UInt8} {bad b' : Bool} {P : List UInt8 → Option (α × List UInt8)} {x : α} (h : StepO L bad P x L' b') : StepO L bad P x L' (b' || !true) := by
  simpa using h
theorem StepO.toRow {L L' : List UInt8} {bad b' : Bool} {x : List CeV} (h : StepO L bad (countP cellP) x L' b') : StepO L bad rowQ x L' b' := h.of_eq fun l => (countP_cell l).symm
theorem StepO.toList {L L' : List UInt8} {bad b' : Bool} {x : List Int} (h : StepO L bad (countP (numP 4)) x L' b') : StepO L bad (listQ 4) x L' b' := h.of_eq fun l => (countP_num 4 l).symm

set_option maxRecDepth 100000 in
set_option maxHeartbeats 4000000 in
theorem bmsg_S (sb g : Nat) (L : List UInt8) (bad : Bool) (w : World) (h : ScanO w sb g L bad) (hL : L.length ≤ 100000) :
    Calls Tryz.prog 82 #[.agg #[.pointer (some ⟨sb, 0, none⟩)], .int .u8 83] w (bmsgR sb g L bad 83 w) := by
  have hsb := h.lt
  have Hg := Lib.hid (fun e : L ≠ [] => h.ltg e)
  have hA : Below w.heap.size w (w.alloc (.cells #[.pointer (some ⟨sb, 0, none⟩)] 124)) := (Below.refl _ _).alloc (Nat.le_refl _) _
  have hm := BmI.start sb w (w.alloc (.cells #[.pointer (some ⟨sb, 0, none⟩)] 124)) 83 (Touch.of_below hA) hsb
  rw [show (w.alloc (.cells #[.pointer (some ⟨sb, 0, none⟩)] 124)).heap.size = w.heap.size + 1 by simp] at hm
  have hk := ((Blk.new w 124 #[.pointer (some ⟨sb, 0, none⟩)]).alloc (.cells baZ 39)).alloc (.cells (baCells (baZero 83) baNil) 39)
  have hs := h.touch (p := fun _ => False) ((((Touch.refl _ w).alloc (.cells #[.pointer (some ⟨sb, 0, none⟩)] 124)).alloc (.cells baZ 39)).alloc (.cells (baCells (baZero 83) baNil) 39)) (fun e => e) (fun _ e => e)
  unfold baZ at hm hk hs
  rw [show baCells (baZero 83) baNil = #[.int .u8 83, .int .u8 0, .string ⟨#[]⟩, .string ⟨#[]⟩, .string ⟨#[]⟩, .int .i64 0, .int .i64 0, .slice none 0 0, .slice none 0 0, .slice none 0 0, .slice none 0 0] from rfl] at hm hk hs
  have Hm1 := Lib.hid hm
  have HK1 := Lib.hid hk
  have Hs1 := Lib.hid hs
  clear h hA hm hk hs
  go_enter Tryz.func82, Tryz.ntmps82
  go_upto_region 2 with (fail)
  generalize ((w.alloc (.cells #[.pointer (some ⟨sb, 0, none⟩)] 124)).alloc (.cells #[.int .u8 0, .int .u8 0, .string ⟨#[]⟩, .string ⟨#[]⟩, .string ⟨#[]⟩, .int .i64 0, .int .i64 0, .slice none 0 0, .slice none 0 0, .slice none 0 0, .slice none 0 0] 39)).alloc (.cells #[.int .u8 83, .int .u8 0, .string ⟨#[]⟩, .string ⟨#[]⟩, .string ⟨#[]⟩, .int .i64 0, .int .i64 0, .slice none 0 0, .slice none 0 0, .slice none 0 0, .slice none 0 0] 39) = w1 at *
  have c1 : ∀ i, w1.cell? ⟨w.heap.size, i, none⟩ = (#[.pointer (some ⟨sb, 0, none⟩)] : Array Value)[i]? := HK1.out.cell
  obtain ⟨t1, L1, b1, hq, -, hc⟩ := bsText_o Hs1.out
  have HQ1 := Lib.hid hq
  have HC := Lib.hid hc
  clear hq hc
  go_upto_region 7 with (go_at_call 111; refine HC.out.mono ?_; rintro e w2 ⟨rfl, hs, hT⟩; have hz2 := hT.size; have Hm2 := Lib.hid (Hm1.out.step hT); have HK2 := Lib.hid (hT.blk HK1.out (by omega)); have Hs2 := Lib.hid hs; have c3 : ∀ i, w2.cell? ⟨w.heap.size + 1 + 1, i, none⟩ = (#[.int .u8 83, .int .u8 0, .string ⟨#[]⟩, .string ⟨#[]⟩, .string ⟨#[]⟩, .int .i64 0, .int .i64 0, .slice none 0 0, .slice none 0 0, .slice none 0 0, .slice none 0 0] : Array Value)[i]? := Hm2.out.b3.cell; have f3 := Hm2.out.b3.frozen; clear hs hT HC c1 Hm1 HK1 Hs1)
  have hm := Hm2.out.set 3 (.string t1) (f' := { baZero 83 with name := t1 }) (a' := baNil) ⟨Hm2.out.lst.lo, Hm2.out.lst.lc, Hm2.out.lst.lr, Hm2.out.lst.lf⟩ rfl
  have hT := BmI.tset w2 (w.heap.size + 1) 3 (.string t1)
  have hk := hT.blk HK2.out (by omega)
  have hs := Hs2.out.touch hT (by omega) (fun hne e => by have := Hg.out ((fun x => HQ1.out.neB x) hne); omega)
  have Hm3 := Lib.hid hm
  have HK3 := Lib.hid hk
  have Hs3 := Lib.hid hs
  clear hm hT hk hs Hm2 HK2 Hs2 c3 f3
  generalize w2.setCell ⟨w.heap.size + 1 + 1, 3, none⟩ (.string t1) = w3 at *
  have c1 : ∀ i, w3.cell? ⟨w.heap.size, i, none⟩ = (#[.pointer (some ⟨sb, 0, none⟩)] : Array Value)[i]? := HK3.out.cell
  obtain ⟨t2, L2, b2, hq, -, hc⟩ := bsText_o Hs3.out
  have HQ2 := Lib.hid hq
  have HC := Lib.hid hc
  clear hq hc
  go_upto_region 24 with (go_at_call 111; refine HC.out.mono ?_; rintro e w4 ⟨rfl, hs, hT⟩; have hz4 := hT.size; have Hm4 := Lib.hid (Hm3.out.step hT); have HK4 := Lib.hid (hT.blk HK3.out (by omega)); have Hs4 := Lib.hid hs; have c3 : ∀ i, w4.cell? ⟨w.heap.size + 1 + 1, i, none⟩ = (#[.int .u8 83, .int .u8 0, .string ⟨#[]⟩, .string t1, .string ⟨#[]⟩, .int .i64 0, .int .i64 0, .slice none 0 0, .slice none 0 0, .slice none 0 0, .slice none 0 0] : Array Value)[i]? := Hm4.out.b3.cell; have f3 := Hm4.out.b3.frozen; clear hs hT HC c1 Hm3 HK3 Hs3)
  have hm := Hm4.out.set 4 (.string t2) (f' := { baZero 83 with name := t1, value := t2 }) (a' := baNil) ⟨Hm4.out.lst.lo, Hm4.out.lst.lc, Hm4.out.lst.lr, Hm4.out.lst.lf⟩ rfl
  have hT := BmI.tset w4 (w.heap.size + 1) 4 (.string t2)
  have hk := hT.blk HK4.out (by omega)
  have hs := Hs4.out.touch hT (by omega) (fun hne e => by have := Hg.out ((fun x => HQ1.out.neB (HQ2.out.neB x)) hne); omega)
  have Hm5 := Lib.hid hm
  have HK5 := Lib.hid hk
  have Hs5 := Lib.hid hs
  clear hm hT hk hs Hm4 HK4 Hs4 c3 f3
  generalize w4.setCell ⟨w.heap.size + 1 + 1, 4, none⟩ (.string t2) = w5 at *
  have c1 : ∀ i, w5.cell? ⟨w.heap.size, i, none⟩ = (#[.pointer (some ⟨sb, 0, none⟩)] : Array Value)[i]? := HK5.out.cell
  have c3 : ∀ i, w5.cell? ⟨w.heap.size + 1 + 1, i, none⟩ = (#[.int .u8 83, .int .u8 0, .string ⟨#[]⟩, .string t1, .string t2, .int .i64 0, .int .i64 0, .slice none 0 0, .slice none 0 0, .slice none 0 0, .slice none 0 0] : Array Value)[i]? := Hm5.out.b3.cell
  have c2 : ∀ i, w5.cell? ⟨w.heap.size + 1, i, none⟩ = (#[.int .u8 0, .int .u8 0, .string ⟨#[]⟩, .string ⟨#[]⟩, .string ⟨#[]⟩, .int .i64 0, .int .i64 0, .slice none 0 0, .slice none 0 0, .slice none 0 0, .slice none 0 0] : Array Value)[i]? := Hm5.out.b2.cell
  have f2 := Hm5.out.b2.frozen
  go_wp2_with fail
  have hT := setEl_touch w5 (w.heap.size + 1) (.int .u8 83) (.int .u8 0) (.string ⟨#[]⟩) (.string t1) (.string t2) (.int .i64 0) (.int .i64 0) (.slice none 0 0) (.slice none 0 0) (.slice none 0 0) (.slice none 0 0)
  have hbf := setEl_blk (.int .u8 83) (.int .u8 0) (.string ⟨#[]⟩) (.string t1) (.string t2) (.int .i64 0) (.int .i64 0) (.slice none 0 0) (.slice none 0 0) (.slice none 0 0) (.slice none 0 0) Hm5.out.b2
  have hl := Hm5.out.lst.keep (S' := fun k => w.heap.size ≤ k) (Kept.touch hT (fun k hk hs => by have hs' : w.heap.size + 1 + 2 ≤ k := hs; exact ⟨by omega, by omega⟩))
  have hs := Hs5.out.touch hT (by omega) (fun hne e => by have := Hg.out ((fun x => HQ1.out.neB (HQ2.out.neB x)) hne); omega)
  have ht := Hm5.out.tch.then hT (fun k hk e => by omega)
  have HH := Lib.hid (And.intro hl (And.intro hs ht))
  unfold setEl at hbf HH
  have hcf := hbf.cell
  clear hT hbf hl hs ht c1 c2 c3 f2
  refine bodyPost_ret (v := .tuple #[.agg #[.int .u8 83, .int .u8 0, .string ⟨#[]⟩, .string t1, .string t2, .int .i64 0, .int .i64 0, .slice none 0 0, .slice none 0 0, .slice none 0 0, .slice none 0 0], .bool true]) (by simp [results, Tryz.results82, go_sem, hcf]) rfl ?_
  exact ⟨{ baZero 83 with name := t1, value := t2 }, baNil, L2, b2, true, rfl, HH.out.1, HH.out.2.1, (readB_S HQ1.out HQ2.out).orf, HH.out.2.2⟩

set_option maxRecDepth 100000 in
set_option maxHeartbeats 4000000 in
theorem bmsg_K (sb g : Nat) (L : List UInt8) (bad : Bool) (w : World) (h : ScanO w sb g L bad) (hL : L.length ≤ 100000) :
    Calls Tryz.prog 82 #[.agg #[.pointer (some ⟨sb, 0, none⟩)], .int .u8 75] w (bmsgR sb g L bad 75 w) := by
  have hsb := h.lt
  have Hg := Lib.hid (fun e : L ≠ [] => h.ltg e)
  have hA : Below w.heap.size w (w.alloc (.cells #[.pointer (some ⟨sb, 0, none⟩)] 124)) := (Below.refl _ _).alloc (Nat.le_refl _) _
  have hm := BmI.start sb w (w.alloc (.cells #[.pointer (some ⟨sb, 0, none⟩)] 124)) 75 (Touch.of_below hA) hsb
  rw [show (w.alloc (.cells #[.pointer (some ⟨sb, 0, none⟩)] 124)).heap.size = w.heap.size + 1 by simp] at hm
  have hk := ((Blk.new w 124 #[.pointer (some ⟨sb, 0, none⟩)]).alloc (.cells baZ 39)).alloc (.cells (baCells (baZero 75) baNil) 39)
  have hs := h.touch (p := fun _ => False) ((((Touch.refl _ w).alloc (.cells #[.pointer (some ⟨sb, 0, none⟩)] 124)).alloc (.cells baZ 39)).alloc (.cells (baCells (baZero 75) baNil) 39)) (fun e => e) (fun _ e => e)
  unfold baZ at hm hk hs
  rw [show baCells (baZero 75) baNil = #[.int .u8 75, .int .u8 0, .string ⟨#[]⟩, .string ⟨#[]⟩, .string ⟨#[]⟩, .int .i64 0, .int .i64 0, .slice none 0 0, .slice none 0 0, .slice none 0 0, .slice none 0 0] from rfl] at hm hk hs
  have Hm1 := Lib.hid hm
  have HK1 := Lib.hid hk
  have Hs1 := Lib.hid hs
  clear h hA hm hk hs
  go_enter Tryz.func82, Tryz.ntmps82
  go_upto_region 2 with (fail)
  generalize ((w.alloc (.cells #[.pointer (some ⟨sb, 0, none⟩)] 124)).alloc (.cells #[.int .u8 0, .int .u8 0, .string ⟨#[]⟩, .string ⟨#[]⟩, .string ⟨#[]⟩, .int .i64 0, .int .i64 0, .slice none 0 0, .slice none 0 0, .slice none 0 0, .slice none 0 0] 39)).alloc (.cells #[.int .u8 75, .int .u8 0, .string ⟨#[]⟩, .string ⟨#[]⟩, .string ⟨#[]⟩, .int .i64 0, .int .i64 0, .slice none 0 0, .slice none 0 0, .slice none 0 0, .slice none 0 0] 39) = w1 at *
  have c1 : ∀ i, w1.cell? ⟨w.heap.size, i, none⟩ = (#[.pointer (some ⟨sb, 0, none⟩)] : Array Value)[i]? := HK1.out.cell
  obtain ⟨t1, L1, b1, hq, ht, hc⟩ := bsNum_o Hs1.out 4 4 (by decide)
  have HQ1 := Lib.hid hq
  have HC := Lib.hid hc
  clear hq hc ht
  go_upto_region 10 with (go_at_call 110; refine HC.out.mono ?_; rintro e w2 ⟨rfl, hs, hT⟩; have hz2 := hT.size; have Hm2 := Lib.hid (Hm1.out.step hT); have HK2 := Lib.hid (hT.blk HK1.out (by omega)); have Hs2 := Lib.hid hs; have c3 : ∀ i, w2.cell? ⟨w.heap.size + 1 + 1, i, none⟩ = (#[.int .u8 75, .int .u8 0, .string ⟨#[]⟩, .string ⟨#[]⟩, .string ⟨#[]⟩, .int .i64 0, .int .i64 0, .slice none 0 0, .slice none 0 0, .slice none 0 0, .slice none 0 0] : Array Value)[i]? := Hm2.out.b3.cell; have f3 := Hm2.out.b3.frozen; clear hs hT HC c1 Hm1 HK1 Hs1)
  have hm := Hm2.out.set 5 (.int .i64 t1) (f' := { baZero 75 with n := t1 }) (a' := baNil) ⟨Hm2.out.lst.lo, Hm2.out.lst.lc, Hm2.out.lst.lr, Hm2.out.lst.lf⟩ rfl
  have hT := BmI.tset w2 (w.heap.size + 1) 5 (.int .i64 t1)
  have hk := hT.blk HK2.out (by omega)
  have hs := Hs2.out.touch hT (by omega) (fun hne e => by have := Hg.out ((fun x => HQ1.out.neB x) hne); omega)
  have Hm3 := Lib.hid hm
  have HK3 := Lib.hid hk
  have Hs3 := Lib.hid hs
  clear hm hT hk hs Hm2 HK2 Hs2 c3 f3
  generalize w2.setCell ⟨w.heap.size + 1 + 1, 5, none⟩ (.int .i64 t1) = w3 at *
  have c1 : ∀ i, w3.cell? ⟨w.heap.size, i, none⟩ = (#[.pointer (some ⟨sb, 0, none⟩)] : Array Value)[i]? := HK3.out.cell
  obtain ⟨t2, L2, b2, hq, ht, hc⟩ := bsNum_o Hs3.out 4 4 (by decide)
  have HQ2 := Lib.hid hq
  have HC := Lib.hid hc
  clear hq hc ht
  go_upto_region 24 with (go_at_call 110; refine HC.out.mono ?_; rintro e w4 ⟨rfl, hs, hT⟩; have hz4 := hT.size; have Hm4 := Lib.hid (Hm3.out.step hT); have HK4 := Lib.hid (hT.blk HK3.out (by omega)); have Hs4 := Lib.hid hs; have c3 : ∀ i, w4.cell? ⟨w.heap.size + 1 + 1, i, none⟩ = (#[.int .u8 75, .int .u8 0, .string ⟨#[]⟩, .string ⟨#[]⟩, .string ⟨#[]⟩, .int .i64 t1, .int .i64 0, .slice none 0 0, .slice none 0 0, .slice none 0 0, .slice none 0 0] : Array Value)[i]? := Hm4.out.b3.cell; have f3 := Hm4.out.b3.frozen; clear hs hT HC c1 Hm3 HK3 Hs3)
  have hm := Hm4.out.set 6 (.int .i64 t2) (f' := { baZero 75 with n := t1, m := t2 }) (a' := baNil) ⟨Hm4.out.lst.lo, Hm4.out.lst.lc, Hm4.out.lst.lr, Hm4.out.lst.lf⟩ rfl
  have hT := BmI.tset w4 (w.heap.size + 1) 6 (.int .i64 t2)
  have hk := hT.blk HK4.out (by omega)
  have hs := Hs4.out.touch hT (by omega) (fun hne e => by have := Hg.out ((fun x => HQ1.out.neB (HQ2.out.neB x)) hne); omega)
  have Hm5 := Lib.hid hm
  have HK5 := Lib.hid hk
  have Hs5 := Lib.hid hs
  clear hm hT hk hs Hm4 HK4 Hs4 c3 f3
  generalize w4.setCell ⟨w.heap.size + 1 + 1, 6, none⟩ (.int .i64 t2) = w5 at *
  have c1 : ∀ i, w5.cell? ⟨w.heap.size, i, none⟩ = (#[.pointer (some ⟨sb, 0, none⟩)] : Array Value)[i]? := HK5.out.cell
  have c3 : ∀ i, w5.cell? ⟨w.heap.size + 1 + 1, i, none⟩ = (#[.int .u8 75, .int .u8 0, .string ⟨#[]⟩, .string ⟨#[]⟩, .string ⟨#[]⟩, .int .i64 t1, .int .i64 t2, .slice none 0 0, .slice none 0 0, .slice none 0 0, .slice none 0 0] : Array Value)[i]? := Hm5.out.b3.cell
  have c2 : ∀ i, w5.cell? ⟨w.heap.size + 1, i, none⟩ = (#[.int .u8 0, .int .u8 0, .string ⟨#[]⟩, .string ⟨#[]⟩, .string ⟨#[]⟩, .int .i64 0, .int .i64 0, .slice none 0 0, .slice none 0 0, .slice none 0 0, .slice none 0 0] : Array Value)[i]? := Hm5.out.b2.cell
  have f2 := Hm5.out.b2.frozen
  go_wp2_with fail
  have hT := setEl_touch w5 (w.heap.size + 1) (.int .u8 75) (.int .u8 0) (.string ⟨#[]⟩) (.string ⟨#[]⟩) (.string ⟨#[]⟩) (.int .i64 t1) (.int .i64 t2) (.slice none 0 0) (.slice none 0 0) (.slice none 0 0) (.slice none 0 0)
  have hbf := setEl_blk (.int .u8 75) (.int .u8 0) (.string ⟨#[]⟩) (.string ⟨#[]⟩) (.string ⟨#[]⟩) (.int .i64 t1) (.int .i64 t2) (.slice none 0 0) (.slice none 0 0) (.slice none 0 0) (.slice none 0 0) Hm5.out.b2
  have hl := Hm5.out.lst.keep (S' := fun k => w.heap.size ≤ k) (Kept.touch hT (fun k hk hs => by have hs' : w.heap.size + 1 + 2 ≤ k := hs; exact ⟨by omega, by omega⟩))
  have hs := Hs5.out.touch hT (by omega) (fun hne e => by have := Hg.out ((fun x => HQ1.out.neB (HQ2.out.neB x)) hne); omega)
  have ht := Hm5.out.tch.then hT (fun k hk e => by omega)
  have HH := Lib.hid (And.intro hl (And.intro hs ht))
  unfold setEl at hbf HH
  have hcf := hbf.cell
  clear hT hbf hl hs ht c1 c2 c3 f2
  refine bodyPost_ret (v := .tuple #[.agg #[.int .u8 75, .int .u8 0, .string ⟨#[]⟩, .string ⟨#[]⟩, .string ⟨#[]⟩, .int .i64 t1, .int .i64 t2, .slice none 0 0, .slice none 0 0, .slice none 0 0, .slice none 0 0], .bool true]) (by simp [results, Tryz.results82, go_sem, hcf]) rfl ?_
  exact ⟨{ baZero 75 with n := t1, m := t2 }, baNil, L2, b2, true, rfl, HH.out.1, HH.out.2.1, (readB_K HQ1.out HQ2.out).orf, HH.out.2.2⟩

set_option maxRecDepth 100000 in
set_option maxHeartbeats 4000000 in
theorem bmsg_Zany (sb g : Nat) (L : List UInt8) (bad : Bool) (w : World) (h : ScanO w sb g L bad) (hL : L.length ≤ 100000) :
    Calls Tryz.prog 82 #[.agg #[.pointer (some ⟨sb, 0, none⟩)], .int .u8 90] w (bmsgR sb g L bad 90 w) := by
  have hsb := h.lt
  have Hg := Lib.hid (fun e : L ≠ [] => h.ltg e)
  have hA : Below w.heap.size w (w.alloc (.cells #[.pointer (some ⟨sb, 0, none⟩)] 124)) := (Below.refl _ _).alloc (Nat.le_refl _) _
  have hm := BmI.start sb w (w.alloc (.cells #[.pointer (some ⟨sb, 0, none⟩)] 124)) 90 (Touch.of_below hA) hsb
  rw [show (w.alloc (.cells #[.pointer (some ⟨sb, 0, none⟩)] 124)).heap.size = w.heap.size + 1 by simp] at hm
  have hk := ((Blk.new w 124 #[.pointer (some ⟨sb, 0, none⟩)]).alloc (.cells baZ 39)).alloc (.cells (baCells (baZero 90) baNil) 39)
  have hs := h.touch (p := fun _ => False) ((((Touch.refl _ w).alloc (.cells #[.pointer (some ⟨sb, 0, none⟩)] 124)).alloc (.cells baZ 39)).alloc (.cells (baCells (baZero 90) baNil) 39)) (fun e => e) (fun _ e => e)
  unfold baZ at hm hk hs
  rw [show baCells (baZero 90) baNil = #[.int .u8 90, .int .u8 0, .string ⟨#[]⟩, .string ⟨#[]⟩, .string ⟨#[]⟩, .int .i64 0, .int .i64 0, .slice none 0 0, .slice none 0 0, .slice none 0 0, .slice none 0 0] from rfl] at hm hk hs
  have Hm1 := Lib.hid hm
  have HK1 := Lib.hid hk
  have Hs1 := Lib.hid hs
  clear h hA hm hk hs
  go_enter Tryz.func82, Tryz.ntmps82
  go_upto_region 2 with (fail)
  generalize ((w.alloc (.cells #[.pointer (some ⟨sb, 0, none⟩)] 124)).alloc (.cells #[.int .u8 0, .int .u8 0, .string ⟨#[]⟩, .string ⟨#[]⟩, .string ⟨#[]⟩, .int .i64 0, .int .i64 0, .slice none 0 0, .slice none 0 0, .slice none 0 0, .slice none 0 0] 39)).alloc (.cells #[.int .u8 90, .int .u8 0, .string ⟨#[]⟩, .string ⟨#[]⟩, .string ⟨#[]⟩, .int .i64 0, .int .i64 0, .slice none 0 0, .slice none 0 0, .slice none 0 0, .slice none 0 0] 39) = w1 at *
  have c1 : ∀ i, w1.cell? ⟨w.heap.size, i, none⟩ = (#[.pointer (some ⟨sb, 0, none⟩)] : Array Value)[i]? := HK1.out.cell
  obtain ⟨t1, L1, b1, hq, ht, hc⟩ := bsNum_o Hs1.out 1 1 (by decide)
  have hwr : t1 % 256 = t1 := by have := num8B L bad; rw [← ht] at this; omega
  have HQ1 := Lib.hid hq
  have HC := Lib.hid hc
  clear hq hc ht
  go_upto_region 24 with (go_at_call 110; refine HC.out.mono ?_; rintro e w2 ⟨rfl, hs, hT⟩; have hz2 := hT.size; have Hm2 := Lib.hid (Hm1.out.step hT); have HK2 := Lib.hid (hT.blk HK1.out (by omega)); have Hs2 := Lib.hid hs; have c3 : ∀ i, w2.cell? ⟨w.heap.size + 1 + 1, i, none⟩ = (#[.int .u8 90, .int .u8 0, .string ⟨#[]⟩, .string ⟨#[]⟩, .string ⟨#[]⟩, .int .i64 0, .int .i64 0, .slice none 0 0, .slice none 0 0, .slice none 0 0, .slice none 0 0] : Array Value)[i]? := Hm2.out.b3.cell; have f3 := Hm2.out.b3.frozen; clear hs hT HC c1 Hm1 HK1 Hs1)
  try simp only [hwr]
  have hm := Hm2.out.set 1 (.int .u8 t1) (f' := { baZero 90 with status := t1 }) (a' := baNil) ⟨Hm2.out.lst.lo, Hm2.out.lst.lc, Hm2.out.lst.lr, Hm2.out.lst.lf⟩ rfl
  have hT := BmI.tset w2 (w.heap.size + 1) 1 (.int .u8 t1)
  have hk := hT.blk HK2.out (by omega)
  have hs := Hs2.out.touch hT (by omega) (fun hne e => by have := Hg.out ((fun x => HQ1.out.neB x) hne); omega)
  have Hm3 := Lib.hid hm
  have HK3 := Lib.hid hk
  have Hs3 := Lib.hid hs
  clear hm hT hk hs Hm2 HK2 Hs2 c3 f3
  generalize w2.setCell ⟨w.heap.size + 1 + 1, 1, none⟩ (.int .u8 t1) = w3 at *
  have c1 : ∀ i, w3.cell? ⟨w.heap.size, i, none⟩ = (#[.pointer (some ⟨sb, 0, none⟩)] : Array Value)[i]? := HK3.out.cell
  have c3 : ∀ i, w3.cell? ⟨w.heap.size + 1 + 1, i, none⟩ = (#[.int .u8 90, .int .u8 t1, .string ⟨#[]⟩, .string ⟨#[]⟩, .string ⟨#[]⟩, .int .i64 0, .int .i64 0, .slice none 0 0, .slice none 0 0, .slice none 0 0, .slice none 0 0] : Array Value)[i]? := Hm3.out.b3.cell
  have c2 : ∀ i, w3.cell? ⟨w.heap.size + 1, i, none⟩ = (#[.int .u8 0, .int .u8 0, .string ⟨#[]⟩, .string ⟨#[]⟩, .string ⟨#[]⟩, .int .i64 0, .int .i64 0, .slice none 0 0, .slice none 0 0, .slice none 0 0, .slice none 0 0] : Array Value)[i]? := Hm3.out.b2.cell
  have f2 := Hm3.out.b2.frozen
  go_wp2_with fail
  have hT := setEl_touch w3 (w.heap.size + 1) (.int .u8 90) (.int .u8 t1) (.string ⟨#[]⟩) (.string ⟨#[]⟩) (.string ⟨#[]⟩) (.int .i64 0) (.int .i64 0) (.slice none 0 0) (.slice none 0 0) (.slice none 0 0) (.slice none 0 0)
  have hbf := setEl_blk (.int .u8 90) (.int .u8 t1) (.string ⟨#[]⟩) (.string ⟨#[]⟩) (.string ⟨#[]⟩) (.int .i64 0) (.int .i64 0) (.slice none 0 0) (.slice none 0 0) (.slice none 0 0) (.slice none 0 0) Hm3.out.b2
  have hl := Hm3.out.lst.keep (S' := fun k => w.heap.size ≤ k) (Kept.touch hT (fun k hk hs => by have hs' : w.heap.size + 1 + 2 ≤ k := hs; exact ⟨by omega, by omega⟩))
  have hs := Hs3.out.touch hT (by omega) (fun hne e => by have := Hg.out ((fun x => HQ1.out.neB x) hne); omega)
  have ht := Hm3.out.tch.then hT (fun k hk e => by omega)
  have HH := Lib.hid (And.intro hl (And.intro hs ht))
  unfold setEl at hbf HH
  have hcf := hbf.cell
  clear hT hbf hl hs ht c1 c2 c3 f2
  refine bodyPost_ret (v := .tuple #[.agg #[.int .u8 90, .int .u8 t1, .string ⟨#[]⟩, .string ⟨#[]⟩, .string ⟨#[]⟩, .int .i64 0, .int .i64 0, .slice none 0 0, .slice none 0 0, .slice none 0 0, .slice none 0 0], .bool true]) (by simp [results, Tryz.results82, go_sem, hcf]) rfl ?_
  exact ⟨{ baZero 90 with status := t1 }, baNil, L1, b1, true, rfl, HH.out.1, HH.out.2.1, (readB_Z HQ1.out).orf, HH.out.2.2⟩

set_option maxRecDepth 100000 in
set_option maxHeartbeats 4000000 in
theorem bmsg_C (sb g : Nat) (L : List UInt8) (bad : Bool) (w : World) (h : ScanO w sb g L bad) (hL : L.length ≤ 100000) :
    Calls Tryz.prog 82 #[.agg #[.pointer (some ⟨sb, 0, none⟩)], .int .u8 67] w (bmsgR sb g L bad 67 w) := by
  have hsb := h.lt
  have Hg := Lib.hid (fun e : L ≠ [] => h.ltg e)
  have hA : Below w.heap.size w (w.alloc (.cells #[.pointer (some ⟨sb, 0, none⟩)] 124)) := (Below.refl _ _).alloc (Nat.le_refl _) _
  have hm := BmI.start sb w (w.alloc (.cells #[.pointer (some ⟨sb, 0, none⟩)] 124)) 67 (Touch.of_below hA) hsb
  rw [show (w.alloc (.cells #[.pointer (some ⟨sb, 0, none⟩)] 124)).heap.size = w.heap.size + 1 by simp] at hm
  have hk := ((Blk.new w 124 #[.pointer (some ⟨sb, 0, none⟩)]).alloc (.cells baZ 39)).alloc (.cells (baCells (baZero 67) baNil) 39)
  have hs := h.touch (p := fun _ => False) ((((Touch.refl _ w).alloc (.cells #[.pointer (some ⟨sb, 0, none⟩)] 124)).alloc (.cells baZ 39)).alloc (.cells (baCells (baZero 67) baNil) 39)) (fun e => e) (fun _ e => e)
  unfold baZ at hm hk hs
  rw [show baCells (baZero 67) baNil = #[.int .u8 67, .int .u8 0, .string ⟨#[]⟩, .string ⟨#[]⟩, .string ⟨#[]⟩, .int .i64 0, .int .i64 0, .slice none 0 0, .slice none 0 0, .slice none 0 0, .slice none 0 0] from rfl] at hm hk hs
  have Hm1 := Lib.hid hm
  have HK1 := Lib.hid hk
  have Hs1 := Lib.hid hs
  clear h hA hm hk hs
  go_enter Tryz.func82, Tryz.ntmps82
  go_upto_region 2 with (fail)
  generalize ((w.alloc (.cells #[.pointer (some ⟨sb, 0, none⟩)] 124)).alloc (.cells #[.int .u8 0, .int .u8 0, .string ⟨#[]⟩, .string ⟨#[]⟩, .string ⟨#[]⟩, .int .i64 0, .int .i64 0, .slice none 0 0, .slice none 0 0, .slice none 0 0, .slice none 0 0] 39)).alloc (.cells #[.int .u8 67, .int .u8 0, .string ⟨#[]⟩, .string ⟨#[]⟩, .string ⟨#[]⟩, .int .i64 0, .int .i64 0, .slice none 0 0, .slice none 0 0, .slice none 0 0, .slice none 0 0] 39) = w1 at *
  have c1 : ∀ i, w1.cell? ⟨w.heap.size, i, none⟩ = (#[.pointer (some ⟨sb, 0, none⟩)] : Array Value)[i]? := HK1.out.cell
  obtain ⟨t1, L1, b1, hq, -, hc⟩ := bsText_o Hs1.out
  have HQ1 := Lib.hid hq
  have HC := Lib.hid hc
  clear hq hc
  go_upto_region 24 with (go_at_call 111; refine HC.out.mono ?_; rintro e w2 ⟨rfl, hs, hT⟩; have hz2 := hT.size; have Hm2 := Lib.hid (Hm1.out.step hT); have HK2 := Lib.hid (hT.blk HK1.out (by omega)); have Hs2 := Lib.hid hs; have c3 : ∀ i, w2.cell? ⟨w.heap.size + 1 + 1, i, none⟩ = (#[.int .u8 67, .int .u8 0, .string ⟨#[]⟩, .string ⟨#[]⟩, .string ⟨#[]⟩, .int .i64 0, .int .i64 0, .slice none 0 0, .slice none 0 0, .slice none 0 0, .slice none 0 0] : Array Value)[i]? := Hm2.out.b3.cell; have f3 := Hm2.out.b3.frozen; clear hs hT HC c1 Hm1 HK1 Hs1)
  have hm := Hm2.out.set 2 (.string t1) (f' := { baZero 67 with tag := t1 }) (a' := baNil) ⟨Hm2.out.lst.lo, Hm2.out.lst.lc, Hm2.out.lst.lr, Hm2.out.lst.lf⟩ rfl
  have hT := BmI.tset w2 (w.heap.size + 1) 2 (.string t1)
  have hk := hT.blk HK2.out (by omega)
  have hs := Hs2.out.touch hT (by omega) (fun hne e => by have := Hg.out ((fun x => HQ1.out.neB x) hne); omega)
  have Hm3 := Lib.hid hm
  have HK3 := Lib.hid hk
  have Hs3 := Lib.hid hs
  clear hm hT hk hs Hm2 HK2 Hs2 c3 f3
  generalize w2.setCell ⟨w.heap.size + 1 + 1, 2, none⟩ (.string t1) = w3 at *
  have c1 : ∀ i, w3.cell? ⟨w.heap.size, i, none⟩ = (#[.pointer (some ⟨sb, 0, none⟩)] : Array Value)[i]? := HK3.out.cell
  have c3 : ∀ i, w3.cell? ⟨w.heap.size + 1 + 1, i, none⟩ = (#[.int .u8 67, .int .u8 0, .string t1, .string ⟨#[]⟩, .string ⟨#[]⟩, .int .i64 0, .int .i64 0, .slice none 0 0, .slice none 0 0, .slice none 0 0, .slice none 0 0] : Array Value)[i]? := Hm3.out.b3.cell
  have c2 : ∀ i, w3.cell? ⟨w.heap.size + 1, i, none⟩ = (#[.int .u8 0, .int .u8 0, .string ⟨#[]⟩, .string ⟨#[]⟩, .string ⟨#[]⟩, .int .i64 0, .int .i64 0, .slice none 0 0, .slice none 0 0, .slice none 0 0, .slice none 0 0] : Array Value)[i]? := Hm3.out.b2.cell
  have f2 := Hm3.out.b2.frozen
  go_wp2_with fail
  have hT := setEl_touch w3 (w.heap.size + 1) (.int .u8 67) (.int .u8 0) (.string t1) (.string ⟨#[]⟩) (.string ⟨#[]⟩) (.int .i64 0) (.int .i64 0) (.slice none 0 0) (.slice none 0 0) (.slice none 0 0) (.slice none 0 0)
  have hbf := setEl_blk (.int .u8 67) (.int .u8 0) (.string t1) (.string ⟨#[]⟩) (.string ⟨#[]⟩) (.int .i64 0) (.int .i64 0) (.slice none 0 0) (.slice none 0 0) (.slice none 0 0) (.slice none 0 0) Hm3.out.b2
  have hl := Hm3.out.lst.keep (S' := fun k => w.heap.size ≤ k) (Kept.touch hT (fun k hk hs => by have hs' : w.heap.size + 1 + 2 ≤ k := hs; exact ⟨by omega, by omega⟩))
  have hs := Hs3.out.touch hT (by omega) (fun hne e => by have := Hg.out ((fun x => HQ1.out.neB x) hne); omega)
  have ht := Hm3.out.tch.then hT (fun k hk e => by omega)
  have HH := Lib.hid (And.intro hl (And.intro hs ht))
  unfold setEl at hbf HH
  have hcf := hbf.cell
  clear hT hbf hl hs ht c1 c2 c3 f2
  refine bodyPost_ret (v := .tuple #[.agg #[.int .u8 67, .int .u8 0, .string t1, .string ⟨#[]⟩, .string ⟨#[]⟩, .int .i64 0, .int .i64 0, .slice none 0 0, .slice none 0 0, .slice none 0 0, .slice none 0 0], .bool true]) (by simp [results, Tryz.results82, go_sem, hcf]) rfl ?_
  exact ⟨{ baZero 67 with tag := t1 }, baNil, L1, b1, true, rfl, HH.out.1, HH.out.2.1, (readB_C HQ1.out).orf, HH.out.2.2⟩

set_option maxRecDepth 100000 in
set_option maxHeartbeats 4000000 in
theorem bmsg_D (sb g : Nat) (L : List UInt8) (bad : Bool) (w : World) (h : ScanO w sb g L bad) (hL : L.length ≤ 100000) :
    Calls Tryz.prog 82 #[.agg #[.pointer (some ⟨sb, 0, none⟩)], .int .u8 68] w (bmsgR sb g L bad 68 w) := by
  have hsb := h.lt
  have Hg := Lib.hid (fun e : L ≠ [] => h.ltg e)
  have hA : Below w.heap.size w (w.alloc (.cells #[.pointer (some ⟨sb, 0, none⟩)] 124)) := (Below.refl _ _).alloc (Nat.le_refl _) _
  have hm := BmI.start sb w (w.alloc (.cells #[.pointer (some ⟨sb, 0, none⟩)] 124)) 68 (Touch.of_below hA) hsb
  rw [show (w.alloc (.cells #[.pointer (some ⟨sb, 0, none⟩)] 124)).heap.size = w.heap.size + 1 by simp] at hm
  have hk := ((Blk.new w 124 #[.pointer (some ⟨sb, 0, none⟩)]).alloc (.cells baZ 39)).alloc (.cells (baCells (baZero 68) baNil) 39)
  have hs := h.touch (p := fun _ => False) ((((Touch.refl _ w).alloc (.cells #[.pointer (some ⟨sb, 0, none⟩)] 124)).alloc (.cells baZ 39)).alloc (.cells (baCells (baZero 68) baNil) 39)) (fun e => e) (fun _ e => e)
  unfold baZ at hm hk hs
  rw [show baCells (baZero 68) baNil = #[.int .u8 68, .int .u8 0, .string ⟨#[]⟩, .string ⟨#[]⟩, .string ⟨#[]⟩, .int .i64 0, .int .i64 0, .slice none 0 0, .slice none 0 0, .slice none 0 0, .slice none 0 0] from rfl] at hm hk hs
  have Hm1 := Lib.hid hm
  have HK1 := Lib.hid hk
  have Hs1 := Lib.hid hs
  clear h hA hm hk hs
  go_enter Tryz.func82, Tryz.ntmps82
  go_upto_region 2 with (fail)
  generalize ((w.alloc (.cells #[.pointer (some ⟨sb, 0, none⟩)] 124)).alloc (.cells #[.int .u8 0, .int .u8 0, .string ⟨#[]⟩, .string ⟨#[]⟩, .string ⟨#[]⟩, .int .i64 0, .int .i64 0, .slice none 0 0, .slice none 0 0, .slice none 0 0, .slice none 0 0] 39)).alloc (.cells #[.int .u8 68, .int .u8 0, .string ⟨#[]⟩, .string ⟨#[]⟩, .string ⟨#[]⟩, .int .i64 0, .int .i64 0, .slice none 0 0, .slice none 0 0, .slice none 0 0, .slice none 0 0] 39) = w1 at *
  have c1 : ∀ i, w1.cell? ⟨w.heap.size, i, none⟩ = (#[.pointer (some ⟨sb, 0, none⟩)] : Array Value)[i]? := HK1.out.cell
  have hl1 : L.length ≤ 100000 := hL
  have HC := Lib.hid (manyCe_any sb g L bad w1 Hs1.out hl1)
  clear hl1
  go_upto_region 24 with (go_at_call 112; refine HC.out.mono ?_; rintro e w2 ⟨v, t1, L1, b1, rfl, ho, -, hs, hq, hT⟩; obtain ⟨ptr1, cap1, hv, hl⟩ := OwnC.lstB ho (w.heap.size + 1 + 2) (by have := Hm1.out.b3.lt; omega); subst hv; have HL1 := Lib.hid hl; have HQ1 := Lib.hid hq; have hz2 := hT.size; have Hm2 := Lib.hid (Hm1.out.step hT); have HK2 := Lib.hid (hT.blk HK1.out (by omega)); have Hs2 := Lib.hid hs; have c3 : ∀ i, w2.cell? ⟨w.heap.size + 1 + 1, i, none⟩ = (#[.int .u8 68, .int .u8 0, .string ⟨#[]⟩, .string ⟨#[]⟩, .string ⟨#[]⟩, .int .i64 0, .int .i64 0, .slice none 0 0, .slice none 0 0, .slice none 0 0, .slice none 0 0] : Array Value)[i]? := Hm2.out.b3.cell; have f3 := Hm2.out.b3.frozen; clear ho hl hq hs hT HC c1 Hm1 HK1 Hs1)
  have hm := Hm2.out.set 9 (.slice ptr1 t1.length cap1) (f' := { baZero 68 with row := t1 }) (a' := { baNil with pr := ptr1, cr := cap1 }) ⟨Hm2.out.lst.lo, Hm2.out.lst.lc, HL1.out, Hm2.out.lst.lf⟩ rfl
  have hT := BmI.tset w2 (w.heap.size + 1) 9 (.slice ptr1 t1.length cap1)
  have hk := hT.blk HK2.out (by omega)
  have hs := Hs2.out.touch hT (by omega) (fun hne e => by have := Hg.out ((fun x => HQ1.out.neB x) hne); omega)
  have Hm3 := Lib.hid hm
  have HK3 := Lib.hid hk
  have Hs3 := Lib.hid hs
  clear hm hT hk hs Hm2 HK2 Hs2 c3 f3
  generalize w2.setCell ⟨w.heap.size + 1 + 1, 9, none⟩ (.slice ptr1 t1.length cap1) = w3 at *
  have c1 : ∀ i, w3.cell? ⟨w.heap.size, i, none⟩ = (#[.pointer (some ⟨sb, 0, none⟩)] : Array Value)[i]? := HK3.out.cell
  have c3 : ∀ i, w3.cell? ⟨w.heap.size + 1 + 1, i, none⟩ = (#[.int .u8 68, .int .u8 0, .string ⟨#[]⟩, .string ⟨#[]⟩, .string ⟨#[]⟩, .int .i64 0, .int .i64 0, .slice none 0 0, .slice none 0 0, .slice ptr1 t1.length cap1, .slice none 0 0] : Array Value)[i]? := Hm3.out.b3.cell
  have c2 : ∀ i, w3.cell? ⟨w.heap.size + 1, i, none⟩ = (#[.int .u8 0, .int .u8 0, .string ⟨#[]⟩, .string ⟨#[]⟩, .string ⟨#[]⟩, .int .i64 0, .int .i64 0, .slice none 0 0, .slice none 0 0, .slice none 0 0, .slice none 0 0] : Array Value)[i]? := Hm3.out.b2.cell
  have f2 := Hm3.out.b2.frozen
  go_wp2_with fail
  have hT := setEl_touch w3 (w.heap.size + 1) (.int .u8 68) (.int .u8 0) (.string ⟨#[]⟩) (.string ⟨#[]⟩) (.string ⟨#[]⟩) (.int .i64 0) (.int .i64 0) (.slice none 0 0) (.slice none 0 0) (.slice ptr1 t1.length cap1) (.slice none 0 0)
  have hbf := setEl_blk (.int .u8 68) (.int .u8 0) (.string ⟨#[]⟩) (.string ⟨#[]⟩) (.string ⟨#[]⟩) (.int .i64 0) (.int .i64 0) (.slice none 0 0) (.slice none 0 0) (.slice ptr1 t1.length cap1) (.slice none 0 0) Hm3.out.b2
  have hl := Hm3.out.lst.keep (S' := fun k => w.heap.size ≤ k) (Kept.touch hT (fun k hk hs => by have hs' : w.heap.size + 1 + 2 ≤ k := hs; exact ⟨by omega, by omega⟩))
  have hs := Hs3.out.touch hT (by omega) (fun hne e => by have := Hg.out ((fun x => HQ1.out.neB x) hne); omega)
  have ht := Hm3.out.tch.then hT (fun k hk e => by omega)
  have HH := Lib.hid (And.intro hl (And.intro hs ht))
  unfold setEl at hbf HH
  have hcf := hbf.cell
  clear hT hbf hl hs ht c1 c2 c3 f2
  refine bodyPost_ret (v := .tuple #[.agg #[.int .u8 68, .int .u8 0, .string ⟨#[]⟩, .string ⟨#[]⟩, .string ⟨#[]⟩, .int .i64 0, .int .i64 0, .slice none 0 0, .slice none 0 0, .slice ptr1 t1.length cap1, .slice none 0 0], .bool true]) (by simp [results, Tryz.results82, go_sem, hcf]) rfl ?_
  exact ⟨{ baZero 68 with row := t1 }, { baNil with pr := ptr1, cr := cap1 }, L1, b1, true, rfl, HH.out.1, HH.out.2.1, (readB_D HQ1.out.toRow).orf, HH.out.2.2⟩

set_option maxRecDepth 100000 in
set_option maxHeartbeats 4000000 in
theorem bmsg_T (sb g : Nat) (L : List UInt8) (bad : Bool) (w : World) (h : ScanO w sb g L bad) (hL : L.length ≤ 100000) :
    Calls Tryz.prog 82 #[.agg #[.pointer (some ⟨sb, 0, none⟩)], .int .u8 84] w (bmsgR sb g L bad 84 w) := by
  have hsb := h.lt
  have Hg := Lib.hid (fun e : L ≠ [] => h.ltg e)
  have hA : Below w.heap.size w (w.alloc (.cells #[.pointer (some ⟨sb, 0, none⟩)] 124)) := (Below.refl _ _).alloc (Nat.le_refl _) _
  have hm := BmI.start sb w (w.alloc (.cells #[.pointer (some ⟨sb, 0, none⟩)] 124)) 84 (Touch.of_below hA) hsb
  rw [show (w.alloc (.cells #[.pointer (some ⟨sb, 0, none⟩)] 124)).heap.size = w.heap.size + 1 by simp] at hm
  have hk := ((Blk.new w 124 #[.pointer (some ⟨sb, 0, none⟩)]).alloc (.cells baZ 39)).alloc (.cells (baCells (baZero 84) baNil) 39)
  have hs := h.touch (p := fun _ => False) ((((Touch.refl _ w).alloc (.cells #[.pointer (some ⟨sb, 0, none⟩)] 124)).alloc (.cells baZ 39)).alloc (.cells (baCells (baZero 84) baNil) 39)) (fun e => e) (fun _ e => e)
  unfold baZ at hm hk hs
  rw [show baCells (baZero 84) baNil = #[.int .u8 84, .int .u8 0, .string ⟨#[]⟩, .string ⟨#[]⟩, .string ⟨#[]⟩, .int .i64 0, .int .i64 0, .slice none 0 0, .slice none 0 0, .slice none 0 0, .slice none 0 0] from rfl] at hm hk hs
  have Hm1 := Lib.hid hm
  have HK1 := Lib.hid hk
  have Hs1 := Lib.hid hs
  clear h hA hm hk hs
  go_enter Tryz.func82, Tryz.ntmps82
  go_upto_region 2 with (fail)
  generalize ((w.alloc (.cells #[.pointer (some ⟨sb, 0, none⟩)] 124)).alloc (.cells #[.int .u8 0, .int .u8 0, .string ⟨#[]⟩, .string ⟨#[]⟩, .string ⟨#[]⟩, .int .i64 0, .int .i64 0, .slice none 0 0, .slice none 0 0, .slice none 0 0, .slice none 0 0] 39)).alloc (.cells #[.int .u8 84, .int .u8 0, .string ⟨#[]⟩, .string ⟨#[]⟩, .string ⟨#[]⟩, .int .i64 0, .int .i64 0, .slice none 0 0, .slice none 0 0, .slice none 0 0, .slice none 0 0] 39) = w1 at *
  have c1 : ∀ i, w1.cell? ⟨w.heap.size, i, none⟩ = (#[.pointer (some ⟨sb, 0, none⟩)] : Array Value)[i]? := HK1.out.cell
  have hl1 : L.length ≤ 100000 := hL
  have HC := Lib.hid (manyCo_any sb g L bad w1 Hs1.out hl1)
  clear hl1
  go_upto_region 24 with (go_at_call 114; refine HC.out.mono ?_; rintro e w2 ⟨v, t1, L1, b1, rfl, ho, -, hs, hq, hT⟩; obtain ⟨ptr1, cap1, hv, hl⟩ := OwnCo.lstB ho (w.heap.size + 1 + 2) (by have := Hm1.out.b3.lt; omega); subst hv; have HL1 := Lib.hid hl; have HQ1 := Lib.hid hq; have hz2 := hT.size; have Hm2 := Lib.hid (Hm1.out.step hT); have HK2 := Lib.hid (hT.blk HK1.out (by omega)); have Hs2 := Lib.hid hs; have c3 : ∀ i, w2.cell? ⟨w.heap.size + 1 + 1, i, none⟩ = (#[.int .u8 84, .int .u8 0, .string ⟨#[]⟩, .string ⟨#[]⟩, .string ⟨#[]⟩, .int .i64 0, .int .i64 0, .slice none 0 0, .slice none 0 0, .slice none 0 0, .slice none 0 0] : Array Value)[i]? := Hm2.out.b3.cell; have f3 := Hm2.out.b3.frozen; clear ho hl hq hs hT HC c1 Hm1 HK1 Hs1)
  have hm := Hm2.out.set 8 (.slice ptr1 t1.length cap1) (f' := { baZero 84 with cols := t1 }) (a' := { baNil with pc := ptr1, cc := cap1 }) ⟨Hm2.out.lst.lo, HL1.out, Hm2.out.lst.lr, Hm2.out.lst.lf⟩ rfl
  have hT := BmI.tset w2 (w.heap.size + 1) 8 (.slice ptr1 t1.length cap1)
  have hk := hT.blk HK2.out (by omega)
  have hs := Hs2.out.touch hT (by omega) (fun hne e => by have := Hg.out ((fun x => HQ1.out.neB x) hne); omega)
  have Hm3 := Lib.hid hm
  have HK3 := Lib.hid hk
  have Hs3 := Lib.hid hs
  clear hm hT hk hs Hm2 HK2 Hs2 c3 f3
  generalize w2.setCell ⟨w.heap.size + 1 + 1, 8, none⟩ (.slice ptr1 t1.length cap1) = w3 at *
  have c1 : ∀ i, w3.cell? ⟨w.heap.size, i, none⟩ = (#[.pointer (some ⟨sb, 0, none⟩)] : Array Value)[i]? := HK3.out.cell
  have c3 : ∀ i, w3.cell? ⟨w.heap.size + 1 + 1, i, none⟩ = (#[.int .u8 84, .int .u8 0, .string ⟨#[]⟩, .string ⟨#[]⟩, .string ⟨#[]⟩, .int .i64 0, .int .i64 0, .slice none 0 0, .slice ptr1 t1.length cap1, .slice none 0 0, .slice none 0 0] : Array Value)[i]? := Hm3.out.b3.cell
  have c2 : ∀ i, w3.cell? ⟨w.heap.size + 1, i, none⟩ = (#[.int .u8 0, .int .u8 0, .string ⟨#[]⟩, .string ⟨#[]⟩, .string ⟨#[]⟩, .int .i64 0, .int .i64 0, .slice none 0 0, .slice none 0 0, .slice none 0 0, .slice none 0 0] : Array Value)[i]? := Hm3.out.b2.cell
  have f2 := Hm3.out.b2.frozen
  go_wp2_with fail
  have hT := setEl_touch w3 (w.heap.size + 1) (.int .u8 84) (.int .u8 0) (.string ⟨#[]⟩) (.string ⟨#[]⟩) (.string ⟨#[]⟩) (.int .i64 0) (.int .i64 0) (.slice none 0 0) (.slice ptr1 t1.length cap1) (.slice none 0 0) (.slice none 0 0)
  have hbf := setEl_blk (.int .u8 84) (.int .u8 0) (.string ⟨#[]⟩) (.string ⟨#[]⟩) (.string ⟨#[]⟩) (.int .i64 0) (.int .i64 0) (.slice none 0 0) (.slice ptr1 t1.length cap1) (.slice none 0 0) (.slice none 0 0) Hm3.out.b2
  have hl := Hm3.out.lst.keep (S' := fun k => w.heap.size ≤ k) (Kept.touch hT (fun k hk hs => by have hs' : w.heap.size + 1 + 2 ≤ k := hs; exact ⟨by omega, by omega⟩))
  have hs := Hs3.out.touch hT (by omega) (fun hne e => by have := Hg.out ((fun x => HQ1.out.neB x) hne); omega)
  have ht := Hm3.out.tch.then hT (fun k hk e => by omega)
  have HH := Lib.hid (And.intro hl (And.intro hs ht))
  unfold setEl at hbf HH
  have hcf := hbf.cell
  clear hT hbf hl hs ht c1 c2 c3 f2
  refine bodyPost_ret (v := .tuple #[.agg #[.int .u8 84, .int .u8 0, .string ⟨#[]⟩, .string ⟨#[]⟩, .string ⟨#[]⟩, .int .i64 0, .int .i64 0, .slice none 0 0, .slice ptr1 t1.length cap1, .slice none 0 0, .slice none 0 0], .bool true]) (by simp [results, Tryz.results82, go_sem, hcf]) rfl ?_
  exact ⟨{ baZero 84 with cols := t1 }, { baNil with pc := ptr1, cc := cap1 }, L1, b1, true, rfl, HH.out.1, HH.out.2.1, (readB_T HQ1.out).orf, HH.out.2.2⟩

set_option maxRecDepth 100000 in
set_option maxHeartbeats 4000000 in
theorem bmsg_t (sb g : Nat) (L : List UInt8) (bad : Bool) (w : World) (h : ScanO w sb g L bad) (hL : L.length ≤ 100000) :
    Calls Tryz.prog 82 #[.agg #[.pointer (some ⟨sb, 0, none⟩)], .int .u8 116] w (bmsgR sb g L bad 116 w) := by
  have hsb := h.lt
  have Hg := Lib.hid (fun e : L ≠ [] => h.ltg e)
  have hA : Below w.heap.size w (w.alloc (.cells #[.pointer (some ⟨sb, 0, none⟩)] 124)) := (Below.refl _ _).alloc (Nat.le_refl _) _
  have hm := BmI.start sb w (w.alloc (.cells #[.pointer (some ⟨sb, 0, none⟩)] 124)) 116 (Touch.of_below hA) hsb
  rw [show (w.alloc (.cells #[.pointer (some ⟨sb, 0, none⟩)] 124)).heap.size = w.heap.size + 1 by simp] at hm
  have hk := ((Blk.new w 124 #[.pointer (some ⟨sb, 0, none⟩)]).alloc (.cells baZ 39)).alloc (.cells (baCells (baZero 116) baNil) 39)
  have hs := h.touch (p := fun _ => False) ((((Touch.refl _ w).alloc (.cells #[.pointer (some ⟨sb, 0, none⟩)] 124)).alloc (.cells baZ 39)).alloc (.cells (baCells (baZero 116) baNil) 39)) (fun e => e) (fun _ e => e)
  unfold baZ at hm hk hs
  rw [show baCells (baZero 116) baNil = #[.int .u8 116, .int .u8 0, .string ⟨#[]⟩, .string ⟨#[]⟩, .string ⟨#[]⟩, .int .i64 0, .int .i64 0, .slice none 0 0, .slice none 0 0, .slice none 0 0, .slice none 0 0] from rfl] at hm hk hs
  have Hm1 := Lib.hid hm
  have HK1 := Lib.hid hk
  have Hs1 := Lib.hid hs
  clear h hA hm hk hs
  go_enter Tryz.func82, Tryz.ntmps82
  go_upto_region 2 with (fail)
  generalize ((w.alloc (.cells #[.pointer (some ⟨sb, 0, none⟩)] 124)).alloc (.cells #[.int .u8 0, .int .u8 0, .string ⟨#[]⟩, .string ⟨#[]⟩, .string ⟨#[]⟩, .int .i64 0, .int .i64 0, .slice none 0 0, .slice none 0 0, .slice none 0 0, .slice none 0 0] 39)).alloc (.cells #[.int .u8 116, .int .u8 0, .string ⟨#[]⟩, .string ⟨#[]⟩, .string ⟨#[]⟩, .int .i64 0, .int .i64 0, .slice none 0 0, .slice none 0 0, .slice none 0 0, .slice none 0 0] 39) = w1 at *
  have c1 : ∀ i, w1.cell? ⟨w.heap.size, i, none⟩ = (#[.pointer (some ⟨sb, 0, none⟩)] : Array Value)[i]? := HK1.out.cell
  have hl1 : L.length ≤ 100000 := hL
  have HC := Lib.hid (manyIn_any sb g L bad w.heap.size w1 Hs1.out hl1 HK1.out (by omega))
  clear hl1
  go_upto_region 24 with (go_at_call 116; refine HC.out.mono ?_; rintro e w2 ⟨v, t1, L1, b1, rfl, ho, -, hs, hq, hT⟩; obtain ⟨ptr1, cap1, hv, hl⟩ := OwnI.lstB ho (w.heap.size + 1 + 2) (by have := Hm1.out.b3.lt; omega); subst hv; have HL1 := Lib.hid hl; have HQ1 := Lib.hid hq; have hz2 := hT.size; have Hm2 := Lib.hid (Hm1.out.step hT); have HK2 := Lib.hid (hT.blk HK1.out (by omega)); have Hs2 := Lib.hid hs; have c3 : ∀ i, w2.cell? ⟨w.heap.size + 1 + 1, i, none⟩ = (#[.int .u8 116, .int .u8 0, .string ⟨#[]⟩, .string ⟨#[]⟩, .string ⟨#[]⟩, .int .i64 0, .int .i64 0, .slice none 0 0, .slice none 0 0, .slice none 0 0, .slice none 0 0] : Array Value)[i]? := Hm2.out.b3.cell; have f3 := Hm2.out.b3.frozen; clear ho hl hq hs hT HC c1 Hm1 HK1 Hs1)
  have hm := Hm2.out.set 7 (.slice ptr1 t1.length cap1) (f' := { baZero 116 with oids := t1 }) (a' := { baNil with po := ptr1, co := cap1 }) ⟨HL1.out, Hm2.out.lst.lc, Hm2.out.lst.lr, Hm2.out.lst.lf⟩ rfl
  have hT := BmI.tset w2 (w.heap.size + 1) 7 (.slice ptr1 t1.length cap1)
  have hk := hT.blk HK2.out (by omega)
  have hs := Hs2.out.touch hT (by omega) (fun hne e => by have := Hg.out ((fun x => HQ1.out.neB x) hne); omega)
  have Hm3 := Lib.hid hm
  have HK3 := Lib.hid hk
  have Hs3 := Lib.hid hs
  clear hm hT hk hs Hm2 HK2 Hs2 c3 f3
  generalize w2.setCell ⟨w.heap.size + 1 + 1, 7, none⟩ (.slice ptr1 t1.length cap1) = w3 at *
  have c1 : ∀ i, w3.cell? ⟨w.heap.size, i, none⟩ = (#[.pointer (some ⟨sb, 0, none⟩)] : Array Value)[i]? := HK3.out.cell
  have c3 : ∀ i, w3.cell? ⟨w.heap.size + 1 + 1, i, none⟩ = (#[.int .u8 116, .int .u8 0, .string ⟨#[]⟩, .string ⟨#[]⟩, .string ⟨#[]⟩, .int .i64 0, .int .i64 0, .slice ptr1 t1.length cap1, .slice none 0 0, .slice none 0 0, .slice none 0 0] : Array Value)[i]? := Hm3.out.b3.cell
  have c2 : ∀ i, w3.cell? ⟨w.heap.size + 1, i, none⟩ = (#[.int .u8 0, .int .u8 0, .string ⟨#[]⟩, .string ⟨#[]⟩, .string ⟨#[]⟩, .int .i64 0, .int .i64 0, .slice none 0 0, .slice none 0 0, .slice none 0 0, .slice none 0 0] : Array Value)[i]? := Hm3.out.b2.cell
  have f2 := Hm3.out.b2.frozen
  go_wp2_with fail
  have hT := setEl_touch w3 (w.heap.size + 1) (.int .u8 116) (.int .u8 0) (.string ⟨#[]⟩) (.string ⟨#[]⟩) (.string ⟨#[]⟩) (.int .i64 0) (.int .i64 0) (.slice ptr1 t1.length cap1) (.slice none 0 0) (.slice none 0 0) (.slice none 0 0)
  have hbf := setEl_blk (.int .u8 116) (.int .u8 0) (.string ⟨#[]⟩) (.string ⟨#[]⟩) (.string ⟨#[]⟩) (.int .i64 0) (.int .i64 0) (.slice ptr1 t1.length cap1) (.slice none 0 0) (.slice none 0 0) (.slice none 0 0) Hm3.out.b2
  have hl := Hm3.out.lst.keep (S' := fun k => w.heap.size ≤ k) (Kept.touch hT (fun k hk hs => by have hs' : w.heap.size + 1 + 2 ≤ k := hs; exact ⟨by omega, by omega⟩))
  have hs := Hs3.out.touch hT (by omega) (fun hne e => by have := Hg.out ((fun x => HQ1.out.neB x) hne); omega)
  have ht := Hm3.out.tch.then hT (fun k hk e => by omega)
  have HH := Lib.hid (And.intro hl (And.intro hs ht))
  unfold setEl at hbf HH
  have hcf := hbf.cell
  clear hT hbf hl hs ht c1 c2 c3 f2
  refine bodyPost_ret (v := .tuple #[.agg #[.int .u8 116, .int .u8 0, .string ⟨#[]⟩, .string ⟨#[]⟩, .string ⟨#[]⟩, .int .i64 0, .int .i64 0, .slice ptr1 t1.length cap1, .slice none 0 0, .slice none 0 0, .slice none 0 0], .bool true]) (by simp [results, Tryz.results82, go_sem, hcf]) rfl ?_
  exact ⟨{ baZero 116 with oids := t1 }, { baNil with po := ptr1, co := cap1 }, L1, b1, true, rfl, HH.out.1, HH.out.2.1, (readB_t HQ1.out.toList).orf, HH.out.2.2⟩

set_option maxRecDepth 100000 in
set_option maxHeartbeats 4000000 in
theorem bmsg_69 (sb g : Nat) (L : List UInt8) (bad : Bool) (w : World) (h : ScanO w sb g L bad) (hL : L.length ≤ 100000) :
    Calls Tryz.prog 82 #[.agg #[.pointer (some ⟨sb, 0, none⟩)], .int .u8 69] w (bmsgR sb g L bad 69 w) := by
  have hsb := h.lt
  have Hg := Lib.hid (fun e : L ≠ [] => h.ltg e)
  have hA : Below w.heap.size w (w.alloc (.cells #[.pointer (some ⟨sb, 0, none⟩)] 124)) := (Below.refl _ _).alloc (Nat.le_refl _) _
  have hm := BmI.start sb w (w.alloc (.cells #[.pointer (some ⟨sb, 0, none⟩)] 124)) 69 (Touch.of_below hA) hsb
  rw [show (w.alloc (.cells #[.pointer (some ⟨sb, 0, none⟩)] 124)).heap.size = w.heap.size + 1 by simp] at hm
  have hk := ((Blk.new w 124 #[.pointer (some ⟨sb, 0, none⟩)]).alloc (.cells baZ 39)).alloc (.cells (baCells (baZero 69) baNil) 39)
  have hs := h.touch (p := fun _ => False) ((((Touch.refl _ w).alloc (.cells #[.pointer (some ⟨sb, 0, none⟩)] 124)).alloc (.cells baZ 39)).alloc (.cells (baCells (baZero 69) baNil) 39)) (fun e => e) (fun _ e => e)
  unfold baZ at hm hk hs
  rw [show baCells (baZero 69) baNil = #[.int .u8 69, .int .u8 0, .string ⟨#[]⟩, .string ⟨#[]⟩, .string ⟨#[]⟩, .int .i64 0, .int .i64 0, .slice none 0 0, .slice none 0 0, .slice none 0 0, .slice none 0 0] from rfl] at hm hk hs
  have Hm1 := Lib.hid hm
  have HK1 := Lib.hid hk
  have Hs1 := Lib.hid hs
  clear h hA hm hk hs
  go_enter Tryz.func82, Tryz.ntmps82
  go_upto_region 2 with (fail)
  generalize ((w.alloc (.cells #[.pointer (some ⟨sb, 0, none⟩)] 124)).alloc (.cells #[.int .u8 0, .int .u8 0, .string ⟨#[]⟩, .string ⟨#[]⟩, .string ⟨#[]⟩, .int .i64 0, .int .i64 0, .slice none 0 0, .slice none 0 0, .slice none 0 0, .slice none 0 0] 39)).alloc (.cells #[.int .u8 69, .int .u8 0, .string ⟨#[]⟩, .string ⟨#[]⟩, .string ⟨#[]⟩, .int .i64 0, .int .i64 0, .slice none 0 0, .slice none 0 0, .slice none 0 0, .slice none 0 0] 39) = w1 at *
  have c1 : ∀ i, w1.cell? ⟨w.heap.size, i, none⟩ = (#[.pointer (some ⟨sb, 0, none⟩)] : Array Value)[i]? := HK1.out.cell
  have hl1 : L.length ≤ 100000 := hL
  have HC := Lib.hid (rdFds_any sb g L bad w1 Hs1.out hl1)
  clear hl1
  go_upto_region 24 with (go_at_call 118; refine HC.out.mono ?_; rintro e w2 ⟨v, t1, L1, b1, rfl, ho, -, hs, hq, hT⟩; obtain ⟨ptr1, cap1, hv, hl⟩ := OwnFd.lstB ho (w.heap.size + 1 + 2) (by have := Hm1.out.b3.lt; omega); subst hv; have HL1 := Lib.hid hl; have HQ1 := Lib.hid hq; have hz2 := hT.size; have Hm2 := Lib.hid (Hm1.out.step hT); have HK2 := Lib.hid (hT.blk HK1.out (by omega)); have Hs2 := Lib.hid hs; have c3 : ∀ i, w2.cell? ⟨w.heap.size + 1 + 1, i, none⟩ = (#[.int .u8 69, .int .u8 0, .string ⟨#[]⟩, .string ⟨#[]⟩, .string ⟨#[]⟩, .int .i64 0, .int .i64 0, .slice none 0 0, .slice none 0 0, .slice none 0 0, .slice none 0 0] : Array Value)[i]? := Hm2.out.b3.cell; have f3 := Hm2.out.b3.frozen; clear ho hl hq hs hT HC c1 Hm1 HK1 Hs1)
  have hm := Hm2.out.set 10 (.slice ptr1 t1.length cap1) (f' := { baZero 69 with fields := t1 }) (a' := { baNil with pf := ptr1, cf := cap1 }) ⟨Hm2.out.lst.lo, Hm2.out.lst.lc, Hm2.out.lst.lr, HL1.out⟩ rfl
  have hT := BmI.tset w2 (w.heap.size + 1) 10 (.slice ptr1 t1.length cap1)
  have hk := hT.blk HK2.out (by omega)
  have hs := Hs2.out.touch hT (by omega) (fun hne e => by have := Hg.out ((fun x => HQ1.out.neB x) hne); omega)
  have Hm3 := Lib.hid hm
  have HK3 := Lib.hid hk
  have Hs3 := Lib.hid hs
  clear hm hT hk hs Hm2 HK2 Hs2 c3 f3
  generalize w2.setCell ⟨w.heap.size + 1 + 1, 10, none⟩ (.slice ptr1 t1.length cap1) = w3 at *
  have c1 : ∀ i, w3.cell? ⟨w.heap.size, i, none⟩ = (#[.pointer (some ⟨sb, 0, none⟩)] : Array Value)[i]? := HK3.out.cell
  have c3 : ∀ i, w3.cell? ⟨w.heap.size + 1 + 1, i, none⟩ = (#[.int .u8 69, .int .u8 0, .string ⟨#[]⟩, .string ⟨#[]⟩, .string ⟨#[]⟩, .int .i64 0, .int .i64 0, .slice none 0 0, .slice none 0 0, .slice none 0 0, .slice ptr1 t1.length cap1] : Array Value)[i]? := Hm3.out.b3.cell
  have c2 : ∀ i, w3.cell? ⟨w.heap.size + 1, i, none⟩ = (#[.int .u8 0, .int .u8 0, .string ⟨#[]⟩, .string ⟨#[]⟩, .string ⟨#[]⟩, .int .i64 0, .int .i64 0, .slice none 0 0, .slice none 0 0, .slice none 0 0, .slice none 0 0] : Array Value)[i]? := Hm3.out.b2.cell
  have f2 := Hm3.out.b2.frozen
  go_wp2_with fail
  have hT := setEl_touch w3 (w.heap.size + 1) (.int .u8 69) (.int .u8 0) (.string ⟨#[]⟩) (.string ⟨#[]⟩) (.string ⟨#[]⟩) (.int .i64 0) (.int .i64 0) (.slice none 0 0) (.slice none 0 0) (.slice none 0 0) (.slice ptr1 t1.length cap1)
  have hbf := setEl_blk (.int .u8 69) (.int .u8 0) (.string ⟨#[]⟩) (.string ⟨#[]⟩) (.string ⟨#[]⟩) (.int .i64 0) (.int .i64 0) (.slice none 0 0) (.slice none 0 0) (.slice none 0 0) (.slice ptr1 t1.length cap1) Hm3.out.b2
  have hl := Hm3.out.lst.keep (S' := fun k => w.heap.size ≤ k) (Kept.touch hT (fun k hk hs => by have hs' : w.heap.size + 1 + 2 ≤ k := hs; exact ⟨by omega, by omega⟩))
  have hs := Hs3.out.touch hT (by omega) (fun hne e => by have := Hg.out ((fun x => HQ1.out.neB x) hne); omega)
  have ht := Hm3.out.tch.then hT (fun k hk e => by omega)
  have HH := Lib.hid (And.intro hl (And.intro hs ht))
  unfold setEl at hbf HH
  have hcf := hbf.cell
  clear hT hbf hl hs ht c1 c2 c3 f2
  refine bodyPost_ret (v := .tuple #[.agg #[.int .u8 69, .int .u8 0, .string ⟨#[]⟩, .string ⟨#[]⟩, .string ⟨#[]⟩, .int .i64 0, .int .i64 0, .slice none 0 0, .slice none 0 0, .slice none 0 0, .slice ptr1 t1.length cap1], .bool true]) (by simp [results, Tryz.results82, go_sem, hcf]) rfl ?_
  exact ⟨{ baZero 69 with fields := t1 }, { baNil with pf := ptr1, cf := cap1 }, L1, b1, true, rfl, HH.out.1, HH.out.2.1, (readB_E (k := 69) (.inl rfl) HQ1.out).orf, HH.out.2.2⟩

set_option maxRecDepth 100000 in
set_option maxHeartbeats 4000000 in
theorem bmsg_78 (sb g : Nat) (L : List UInt8) (bad : Bool) (w : World) (h : ScanO w sb g L bad) (hL : L.length ≤ 100000) :
    Calls Tryz.prog 82 #[.agg #[.pointer (some ⟨sb, 0, none⟩)], .int .u8 78] w (bmsgR sb g L bad 78 w) := by
  have hsb := h.lt
  have Hg := Lib.hid (fun e : L ≠ [] => h.ltg e)
  have hA : Below w.heap.size w (w.alloc (.cells #[.pointer (some ⟨sb, 0, none⟩)] 124)) := (Below.refl _ _).alloc (Nat.le_refl _) _
  have hm := BmI.start sb w (w.alloc (.cells #[.pointer (some ⟨sb, 0, none⟩)] 124)) 78 (Touch.of_below hA) hsb
  rw [show (w.alloc (.cells #[.pointer (some ⟨sb, 0, none⟩)] 124)).heap.size = w.heap.size + 1 by simp] at hm
  have hk := ((Blk.new w 124 #[.pointer (some ⟨sb, 0, none⟩)]).alloc (.cells baZ 39)).alloc (.cells (baCells (baZero 78) baNil) 39)
  have hs := h.touch (p := fun _ => False) ((((Touch.refl _ w).alloc (.cells #[.pointer (some ⟨sb, 0, none⟩)] 124)).alloc (.cells baZ 39)).alloc (.cells (baCells (baZero 78) baNil) 39)) (fun e => e) (fun _ e => e)
  unfold baZ at hm hk hs
  rw [show baCells (baZero 78) baNil = #[.int .u8 78, .int .u8 0, .string ⟨#[]⟩, .string ⟨#[]⟩, .string ⟨#[]⟩, .int .i64 0, .int .i64 0, .slice none 0 0, .slice none 0 0, .slice none 0 0, .slice none 0 0] from rfl] at hm hk hs
  have Hm1 := Lib.hid hm
  have HK1 := Lib.hid hk
  have Hs1 := Lib.hid hs
  clear h hA hm hk hs
  go_enter Tryz.func82, Tryz.ntmps82
  go_upto_region 2 with (fail)
  generalize ((w.alloc (.cells #[.pointer (some ⟨sb, 0, none⟩)] 124)).alloc (.cells #[.int .u8 0, .int .u8 0, .string ⟨#[]⟩, .string ⟨#[]⟩, .string ⟨#[]⟩, .int .i64 0, .int .i64 0, .slice none 0 0, .slice none 0 0, .slice none 0 0, .slice none 0 0] 39)).alloc (.cells #[.int .u8 78, .int .u8 0, .string ⟨#[]⟩, .string ⟨#[]⟩, .string ⟨#[]⟩, .int .i64 0, .int .i64 0, .slice none 0 0, .slice none 0 0, .slice none 0 0, .slice none 0 0] 39) = w1 at *
  have c1 : ∀ i, w1.cell? ⟨w.heap.size, i, none⟩ = (#[.pointer (some ⟨sb, 0, none⟩)] : Array Value)[i]? := HK1.out.cell
  have hl1 : L.length ≤ 100000 := hL
  have HC := Lib.hid (rdFds_any sb g L bad w1 Hs1.out hl1)
  clear hl1
  go_upto_region 24 with (go_at_call 118; refine HC.out.mono ?_; rintro e w2 ⟨v, t1, L1, b1, rfl, ho, -, hs, hq, hT⟩; obtain ⟨ptr1, cap1, hv, hl⟩ := OwnFd.lstB ho (w.heap.size + 1 + 2) (by have := Hm1.out.b3.lt; omega); subst hv; have HL1 := Lib.hid hl; have HQ1 := Lib.hid hq; have hz2 := hT.size; have Hm2 := Lib.hid (Hm1.out.step hT); have HK2 := Lib.hid (hT.blk HK1.out (by omega)); have Hs2 := Lib.hid hs; have c3 : ∀ i, w2.cell? ⟨w.heap.size + 1 + 1, i, none⟩ = (#[.int .u8 78, .int .u8 0, .string ⟨#[]⟩, .string ⟨#[]⟩, .string ⟨#[]⟩, .int .i64 0, .int .i64 0, .slice none 0 0, .slice none 0 0, .slice none 0 0, .slice none 0 0] : Array Value)[i]? := Hm2.out.b3.cell; have f3 := Hm2.out.b3.frozen; clear ho hl hq hs hT HC c1 Hm1 HK1 Hs1)
  have hm := Hm2.out.set 10 (.slice ptr1 t1.length cap1) (f' := { baZero 78 with fields := t1 }) (a' := { baNil with pf := ptr1, cf := cap1 }) ⟨Hm2.out.lst.lo, Hm2.out.lst.lc, Hm2.out.lst.lr, HL1.out⟩ rfl
  have hT := BmI.tset w2 (w.heap.size + 1) 10 (.slice ptr1 t1.length cap1)
  have hk := hT.blk HK2.out (by omega)
  have hs := Hs2.out.touch hT (by omega) (fun hne e => by have := Hg.out ((fun x => HQ1.out.neB x) hne); omega)
  have Hm3 := Lib.hid hm
  have HK3 := Lib.hid hk
  have Hs3 := Lib.hid hs
  clear hm hT hk hs Hm2 HK2 Hs2 c3 f3
  generalize w2.setCell ⟨w.heap.size + 1 + 1, 10, none⟩ (.slice ptr1 t1.length cap1) = w3 at *
  have c1 : ∀ i, w3.cell? ⟨w.heap.size, i, none⟩ = (#[.pointer (some ⟨sb, 0, none⟩)] : Array Value)[i]? := HK3.out.cell
  have c3 : ∀ i, w3.cell? ⟨w.heap.size + 1 + 1, i, none⟩ = (#[.int .u8 78, .int .u8 0, .string ⟨#[]⟩, .string ⟨#[]⟩, .string ⟨#[]⟩, .int .i64 0, .int .i64 0, .slice none 0 0, .slice none 0 0, .slice none 0 0, .slice ptr1 t1.length cap1] : Array Value)[i]? := Hm3.out.b3.cell
  have c2 : ∀ i, w3.cell? ⟨w.heap.size + 1, i, none⟩ = (#[.int .u8 0, .int .u8 0, .string ⟨#[]⟩, .string ⟨#[]⟩, .string ⟨#[]⟩, .int .i64 0, .int .i64 0, .slice none 0 0, .slice none 0 0, .slice none 0 0, .slice none 0 0] : Array Value)[i]? := Hm3.out.b2.cell
  have f2 := Hm3.out.b2.frozen
  go_wp2_with fail
  have hT := setEl_touch w3 (w.heap.size + 1) (.int .u8 78) (.int .u8 0) (.string ⟨#[]⟩) (.string ⟨#[]⟩) (.string ⟨#[]⟩) (.int .i64 0) (.int .i64 0) (.slice none 0 0) (.slice none 0 0) (.slice none 0 0) (.slice ptr1 t1.length cap1)
  have hbf := setEl_blk (.int .u8 78) (.int .u8 0) (.string ⟨#[]⟩) (.string ⟨#[]⟩) (.string ⟨#[]⟩) (.int .i64 0) (.int .i64 0) (.slice none 0 0) (.slice none 0 0) (.slice none 0 0) (.slice ptr1 t1.length cap1) Hm3.out.b2
  have hl := Hm3.out.lst.keep (S' := fun k => w.heap.size ≤ k) (Kept.touch hT (fun k hk hs => by have hs' : w.heap.size + 1 + 2 ≤ k := hs; exact ⟨by omega, by omega⟩))
  have hs := Hs3.out.touch hT (by omega) (fun hne e => by have := Hg.out ((fun x => HQ1.out.neB x) hne); omega)
  have ht := Hm3.out.tch.then hT (fun k hk e => by omega)
  have HH := Lib.hid (And.intro hl (And.intro hs ht))
  unfold setEl at hbf HH
  have hcf := hbf.cell
  clear hT hbf hl hs ht c1 c2 c3 f2
  refine bodyPost_ret (v := .tuple #[.agg #[.int .u8 78, .int .u8 0, .string ⟨#[]⟩, .string ⟨#[]⟩, .string ⟨#[]⟩, .int .i64 0, .int .i64 0, .slice none 0 0, .slice none 0 0, .slice none 0 0, .slice ptr1 t1.length cap1], .bool true]) (by simp [results, Tryz.results82, go_sem, hcf]) rfl ?_
  exact ⟨{ baZero 78 with fields := t1 }, { baNil with pf := ptr1, cf := cap1 }, L1, b1, true, rfl, HH.out.1, HH.out.2.1, (readB_E (k := 78) (.inr rfl) HQ1.out).orf, HH.out.2.2⟩

set_option maxRecDepth 100000 in
set_option maxHeartbeats 4000000 in
theorem bmsg_other (sb g : Nat) (L : List UInt8) (bad : Bool) (w : World) (h : ScanO w sb g L bad) (hL : L.length ≤ 100000) (k : Int) (h0 : k ≠ 82) (h1 : k ≠ 83) (h2 : k ≠ 75) (h3 : k ≠ 90) (h4 : k ≠ 67) (h5 : k ≠ 68) (h6 : k ≠ 84) (h7 : k ≠ 116) (h8 : ¬ (k = 69 ∨ k = 78)) :
    Calls Tryz.prog 82 #[.agg #[.pointer (some ⟨sb, 0, none⟩)], .int .u8 k] w (bmsgR sb g L bad k w) := by
  have hsb := h.lt
  have HQ := Lib.hid (readB_other (L := L) (bad := bad) h0 h1 h2 h3 h4 h5 h6 h7 h8)
  have g82 : (k == 82) = false := by simp; omega
  have g83 : (k == 83) = false := by simp; omega
  have g75 : (k == 75) = false := by simp; omega
  have g90 : (k == 90) = false := by simp; omega
  have g67 : (k == 67) = false := by simp; omega
  have g68 : (k == 68) = false := by simp; omega
  have g84 : (k == 84) = false := by simp; omega
  have g116 : (k == 116) = false := by simp; omega
  have g69 : (k == 69) = false := by simp; omega
  have g78 : (k == 78) = false := by simp; omega
  clear h0 h1 h2 h3 h4 h5 h6 h7 h8
  have Hg := Lib.hid (fun e : L ≠ [] => h.ltg e)
  have hA : Below w.heap.size w (w.alloc (.cells #[.pointer (some ⟨sb, 0, none⟩)] 124)) := (Below.refl _ _).alloc (Nat.le_refl _) _
  have hm := BmI.start sb w (w.alloc (.cells #[.pointer (some ⟨sb, 0, none⟩)] 124)) k (Touch.of_below hA) hsb
  rw [show (w.alloc (.cells #[.pointer (some ⟨sb, 0, none⟩)] 124)).heap.size = w.heap.size + 1 by simp] at hm
  have hk := ((Blk.new w 124 #[.pointer (some ⟨sb, 0, none⟩)]).alloc (.cells baZ 39)).alloc (.cells (baCells (baZero k) baNil) 39)
  have hs := h.touch (p := fun _ => False) ((((Touch.refl _ w).alloc (.cells #[.pointer (some ⟨sb, 0, none⟩)] 124)).alloc (.cells baZ 39)).alloc (.cells (baCells (baZero k) baNil) 39)) (fun e => e) (fun _ e => e)
  unfold baZ at hm hk hs
  rw [show baCells (baZero k) baNil = #[.int .u8 k, .int .u8 0, .string ⟨#[]⟩, .string ⟨#[]⟩, .string ⟨#[]⟩, .int .i64 0, .int .i64 0, .slice none 0 0, .slice none 0 0, .slice none 0 0, .slice none 0 0] from rfl] at hm hk hs
  have Hm1 := Lib.hid hm
  have HK1 := Lib.hid hk
  have Hs1 := Lib.hid hs
  clear h hA hm hk hs
  go_enter Tryz.func82, Tryz.ntmps82
  go_upto_region 2 with (fail)
  generalize ((w.alloc (.cells #[.pointer (some ⟨sb, 0, none⟩)] 124)).alloc (.cells #[.int .u8 0, .int .u8 0, .string ⟨#[]⟩, .string ⟨#[]⟩, .string ⟨#[]⟩, .int .i64 0, .int .i64 0, .slice none 0 0, .slice none 0 0, .slice none 0 0, .slice none 0 0] 39)).alloc (.cells #[.int .u8 k, .int .u8 0, .string ⟨#[]⟩, .string ⟨#[]⟩, .string ⟨#[]⟩, .int .i64 0, .int .i64 0, .slice none 0 0, .slice none 0 0, .slice none 0 0, .slice none 0 0] 39) = w1 at *
  have c1 : ∀ i, w1.cell? ⟨w.heap.size, i, none⟩ = (#[.pointer (some ⟨sb, 0, none⟩)] : Array Value)[i]? := HK1.out.cell
  have c3 : ∀ i, w1.cell? ⟨w.heap.size + 1 + 1, i, none⟩ = (#[.int .u8 k, .int .u8 0, .string ⟨#[]⟩, .string ⟨#[]⟩, .string ⟨#[]⟩, .int .i64 0, .int .i64 0, .slice none 0 0, .slice none 0 0, .slice none 0 0, .slice none 0 0] : Array Value)[i]? := Hm1.out.b3.cell
  have c2 : ∀ i, w1.cell? ⟨w.heap.size + 1, i, none⟩ = (#[.int .u8 0, .int .u8 0, .string ⟨#[]⟩, .string ⟨#[]⟩, .string ⟨#[]⟩, .int .i64 0, .int .i64 0, .slice none 0 0, .slice none 0 0, .slice none 0 0, .slice none 0 0] : Array Value)[i]? := Hm1.out.b2.cell
  have f2 := Hm1.out.b2.frozen
  go_wp2_with fail
  have hT := setEl_touch w1 (w.heap.size + 1) (.int .u8 k) (.int .u8 0) (.string ⟨#[]⟩) (.string ⟨#[]⟩) (.string ⟨#[]⟩) (.int .i64 0) (.int .i64 0) (.slice none 0 0) (.slice none 0 0) (.slice none 0 0) (.slice none 0 0)
  have hbf := setEl_blk (.int .u8 k) (.int .u8 0) (.string ⟨#[]⟩) (.string ⟨#[]⟩) (.string ⟨#[]⟩) (.int .i64 0) (.int .i64 0) (.slice none 0 0) (.slice none 0 0) (.slice none 0 0) (.slice none 0 0) Hm1.out.b2
  have hl := Hm1.out.lst.keep (S' := fun k => w.heap.size ≤ k) (Kept.touch hT (fun k hk hs => by have hs' : w.heap.size + 1 + 2 ≤ k := hs; exact ⟨by omega, by omega⟩))
  have hs := Hs1.out.touch hT (by omega) (fun hne e => by have := Hg.out ((fun x => x) hne); omega)
  have ht := Hm1.out.tch.then hT (fun k hk e => by omega)
  have HH := Lib.hid (And.intro hl (And.intro hs ht))
  unfold setEl at hbf HH
  have hcf := hbf.cell
  clear hT hbf hl hs ht c1 c2 c3 f2
  refine bodyPost_ret (v := .tuple #[.agg #[.int .u8 k, .int .u8 0, .string ⟨#[]⟩, .string ⟨#[]⟩, .string ⟨#[]⟩, .int .i64 0, .int .i64 0, .slice none 0 0, .slice none 0 0, .slice none 0 0, .slice none 0 0], .bool true]) (by simp [results, Tryz.results82, go_sem, hcf]) rfl ?_
  exact ⟨baZero k, baNil, L, bad, true, rfl, HH.out.1, HH.out.2.1, HQ.out.orf, HH.out.2.2⟩

end Go.Proofs.YthhebfknikfleaaGreat
