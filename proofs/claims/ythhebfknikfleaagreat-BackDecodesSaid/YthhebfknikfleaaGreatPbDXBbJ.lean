/-
  Messages of servers (layer 7): a message that is read, by its kinds: the document's.
-/
import Derived.Test.YthhebfknikfleaaGreatPbDP21
import Derived.Test.YthhebfknikfleaaGreatPbDP6
namespace Go.Proofs.YthhebfknikfleaaGreat
open Go.RowKit
set_option linter.unusedVariables false
set_option linter.unusedSimpArgs false

/-- What is read of a message. -/
def brmsgR (sb g : Nat) (L : List UInt8) (bad : Bool) (k : Int) (w : World) (e : Ending) (w' : World) : Prop :=
  ∃ f a L' bad', e = .returned (baArg f a) ∧ BaL (fun k => w.heap.size ≤ k) w' f a ∧ RefS w' sb g L' bad' ∧ StepO L bad (readB k) f L' bad' ∧ Touch (fun i => i = sb) w w'
theorem RefS.fail {w : World} {sb g : Nat} {L : List UInt8} {b : Bool} (h : RefS w sb g L b) : RefS (w.setCell ⟨sb, 1, none⟩ (.bool true)) sb g L true := by
  obtain ⟨p, c, hb, h1, h2, h3, h4, h5, h6⟩ := h
  have hT : Touch (fun k => k = sb) w (w.setCell ⟨sb, 1, none⟩ (.bool true)) := (Touch.refl (fun k => k = sb) w).setCell (x := ⟨sb, 1, none⟩) (fun _ => rfl) _
  refine ⟨p, c, ?_, h1, h2, hT.bytesIn h3 (fun hne x hx => by rw [h4 x hx]; exact h5 hne), h4, h5, h6⟩
  have := hb.set_ 1 (.bool true)
  simpa using this
theorem readB_R0 {L L1 : List UInt8} {bad b1 : Bool} {x : Int} (h : StepO L bad (numP 4) x L1 b1) (hx : x = 0) : StepO L bad (readB 82) (baZero 82) L1 b1 := by
  have := readB_R h
  rw [hx] at this
  simpa using this
theorem readB_R1 {L L1 : List UInt8} {bad b1 : Bool} {x : Int} (h : StepO L bad (numP 4) x L1 b1) (hx : x ≠ 0) : StepO L bad (readB 82) (baZero 82) L1 true := by
  have := readB_R h
  have e : (b1 || !(x == 0)) = true := by simp [hx]
  rw [e] at this
  exact this
/-- A column behind columns, as a step of a region that draws its order. -/
theorem rgn_appendCo {ops : Array Oper} {o : Oper} {a : Act} {w : World} {K : Act → World → Prop} {Q : Exit → Act → World → Prop} {F : Prop} (hgd : o.guard = none) (s y : Operand)
    (ho : o.op = .call { callee := .builtin .append, args := #[s, y], argTypes := #[35, 35] })
    (B : Nat) (v : Value) (xs : List CoV) (hsv : a.eval s = v) (hown : OwnCo B w v xs) (p : Option Addr) (n c : Nat) (ys : List CoV) (hx : a.eval y = .slice p n c) (hs : SliceS 7 CoS (fun k => B ≤ k ∧ rowOf v ≠ some k) w [.slice p n c] ys)
    (hroom : xs.length + ys.length ≤ 1000000) (hbase : B ≤ w.heap.size)
    (h : ∀ v' w', OwnCo B w' v' (xs ++ ys) → w.grownBy w' (rowOf v) → (∀ k, rowOf v' = some k → rowOf v = some k ∨ w.heap.size ≤ k) → K (a.put o.dst v') w') :
    if Region.wanted o (yielded ops a.tmps) = true then Oper.wp Tryz.prog o a w K Q else F := by
  have hw : Region.wanted o (yielded ops a.tmps) = true := by simp [Region.wanted, hgd]
  rw [if_pos hw]
  obtain ⟨i, z, hi, hz, hsize, hby, hzs⟩ := info_co
  obtain ⟨css, k1, k2⟩ := hown
  obtain ⟨dss, rfl, k3, k4⟩ := hs.src (P := Tryz.prog) CoS.one Tryz.underlying35
  obtain ⟨v', w', hrun, r1, r2, r3⟩ := run_append_R (P := Tryz.prog) 35 35 o.type i z 64 Tryz.underlying35 hi hz hsize hby hzs k1 _ _ _ k3 (by simp only [maxLen]; omega) (by omega) hbase
  unfold Oper.wp
  simp [execOp, ho, resolve, invoke, builtin, hsv, hx, hrun, Result.andThen]
  refine h v' w' ⟨css ++ dss, ?_, ?_⟩ r2 r3
  · rw [List.length_append, List.flatten_append]; exact r1
  · exact All2.append (OwnS.grow CoS.still k2 r2 r3) (OwnS.grow CoS.still k4 r2 r3)

set_option maxRecDepth 100000 in
set_option maxHeartbeats 4000000 in
theorem brmsg_S (sb g : Nat) (L : List UInt8) (bad : Bool) (w : World) (h : RefS w sb g L bad) (hL : L.length ≤ 100000) :
    Calls Tryz.prog 85 #[.pointer (some ⟨sb, 0, none⟩), .int .u8 83] w (brmsgR sb g L bad 83 w) := by
  have hsb := h.lt
  have Hg := Lib.hid (fun e : L ≠ [] => h.ltgF e)
  have hm := BmI.start sb w w 83 (Touch.refl _ w) hsb
  have hs := h.touch (p := fun _ => False) (((Touch.refl _ w).alloc (.cells baZ 39)).alloc (.cells (baCells (baZero 83) baNil) 39)) (fun e => e) (fun _ e => e)
  unfold baZ at hm hs
  rw [show baCells (baZero 83) baNil = #[.int .u8 83, .int .u8 0, .string ⟨#[]⟩, .string ⟨#[]⟩, .string ⟨#[]⟩, .int .i64 0, .int .i64 0, .slice none 0 0, .slice none 0 0, .slice none 0 0, .slice none 0 0] from rfl] at hm hs
  have Hm1 := Lib.hid hm
  have Hs1 := Lib.hid hs
  clear h hm hs
  go_enter Tryz.func85, Tryz.ntmps85
  go_upto_region 2 with (fail)
  generalize (w.alloc (.cells #[.int .u8 0, .int .u8 0, .string ⟨#[]⟩, .string ⟨#[]⟩, .string ⟨#[]⟩, .int .i64 0, .int .i64 0, .slice none 0 0, .slice none 0 0, .slice none 0 0, .slice none 0 0] 39)).alloc (.cells #[.int .u8 83, .int .u8 0, .string ⟨#[]⟩, .string ⟨#[]⟩, .string ⟨#[]⟩, .int .i64 0, .int .i64 0, .slice none 0 0, .slice none 0 0, .slice none 0 0, .slice none 0 0] 39) = w1 at *
  have hl1 : L.length ≤ 100000 := hL
  obtain ⟨t1, L1, b1, hq, -, hc⟩ := brText_o Hs1.out hl1
  have HQ1 := Lib.hid hq
  have HC := Lib.hid hc
  clear hq hc hl1
  go_wp2_with fail
  refine HC.out.mono ?_
  rintro e w2 ⟨rfl, hs, hT⟩
  have hz2 := hT.size
  have Hm2 := Lib.hid (Hm1.out.step hT)
  have Hs2 := Lib.hid hs
  clear hs hT HC Hm1 Hs1
  have hl2 : L1.length ≤ 100000 := by have q1 := HQ1.out.2.2; omega
  obtain ⟨t2, L2, b2, hq, -, hc⟩ := brText_o Hs2.out hl2
  have HQ2 := Lib.hid hq
  have HC := Lib.hid hc
  clear hq hc hl2
  go_wp2_with fail
  refine HC.out.mono ?_
  rintro e w3 ⟨rfl, hs, hT⟩
  have hz3 := hT.size
  have Hm3 := Lib.hid (Hm2.out.step hT)
  have Hs3 := Lib.hid hs
  clear hs hT HC Hm2 Hs2
  have c3 : ∀ i, w3.cell? ⟨w.heap.size + 1, i, none⟩ = (#[.int .u8 83, .int .u8 0, .string ⟨#[]⟩, .string ⟨#[]⟩, .string ⟨#[]⟩, .int .i64 0, .int .i64 0, .slice none 0 0, .slice none 0 0, .slice none 0 0, .slice none 0 0] : Array Value)[i]? := Hm3.out.b3.cell
  have f3 := Hm3.out.b3.frozen
  go_upto_region 26 with (fail)
  have hm3 := Hm3.out
  have hs3 := Hs3.out
  have hm4 := hm3.set 3 (.string t1) (f' := { baZero 83 with name := t1 }) (a' := baNil) ⟨hm3.lst.lo, hm3.lst.lc, hm3.lst.lr, hm3.lst.lf⟩ rfl
  have hT := BmI.tset (w3) w.heap.size 3 (.string t1)
  have hs4 := hs3.touch hT (by omega) (fun hne e => by have := Hg.out ((fun x => HQ1.out.neB (HQ2.out.neB x)) hne); omega)
  have hm5 := hm4.set 4 (.string t2) (f' := { baZero 83 with name := t1, value := t2 }) (a' := baNil) ⟨hm4.lst.lo, hm4.lst.lc, hm4.lst.lr, hm4.lst.lf⟩ rfl
  have hT := BmI.tset ((w3.setCell ⟨w.heap.size + 1, 3, none⟩ (.string t1))) w.heap.size 4 (.string t2)
  have hs5 := hs4.touch hT (by omega) (fun hne e => by have := Hg.out ((fun x => HQ1.out.neB (HQ2.out.neB x)) hne); omega)
  clear c3 f3 hT hm3 hm4 hs3 hs4
  have Hm5 := Lib.hid hm5
  have Hs5 := Lib.hid hs5
  clear hm5 hs5
  generalize (((w3.setCell ⟨w.heap.size + 1, 3, none⟩ (.string t1))).setCell ⟨w.heap.size + 1, 4, none⟩ (.string t2)) = w5 at *
  have c3 : ∀ i, w5.cell? ⟨w.heap.size + 1, i, none⟩ = (#[.int .u8 83, .int .u8 0, .string ⟨#[]⟩, .string t1, .string t2, .int .i64 0, .int .i64 0, .slice none 0 0, .slice none 0 0, .slice none 0 0, .slice none 0 0] : Array Value)[i]? := Hm5.out.b3.cell
  have c2 : ∀ i, w5.cell? ⟨w.heap.size, i, none⟩ = (#[.int .u8 0, .int .u8 0, .string ⟨#[]⟩, .string ⟨#[]⟩, .string ⟨#[]⟩, .int .i64 0, .int .i64 0, .slice none 0 0, .slice none 0 0, .slice none 0 0, .slice none 0 0] : Array Value)[i]? := Hm5.out.b2.cell
  have f2 := Hm5.out.b2.frozen
  go_wp2_with fail
  have hT := setEl_touch w5 w.heap.size (.int .u8 83) (.int .u8 0) (.string ⟨#[]⟩) (.string t1) (.string t2) (.int .i64 0) (.int .i64 0) (.slice none 0 0) (.slice none 0 0) (.slice none 0 0) (.slice none 0 0)
  have hbf := setEl_blk (.int .u8 83) (.int .u8 0) (.string ⟨#[]⟩) (.string t1) (.string t2) (.int .i64 0) (.int .i64 0) (.slice none 0 0) (.slice none 0 0) (.slice none 0 0) (.slice none 0 0) Hm5.out.b2
  have hl := Hm5.out.lst.keep (S' := fun k => w.heap.size ≤ k) (Kept.touch hT (fun k hk hs => by have hs' : w.heap.size + 2 ≤ k := hs; exact ⟨by omega, by omega⟩))
  have hs := Hs5.out.touch hT (by omega) (fun hne e => by have := Hg.out ((fun x => HQ1.out.neB (HQ2.out.neB x)) hne); omega)
  have ht := Hm5.out.tch.then hT (fun k hk e => by omega)
  have HH := Lib.hid (And.intro hl (And.intro hs ht))
  unfold setEl at hbf HH
  have hcf := hbf.cell
  clear hT hbf hl hs ht c2 c3 f2
  refine bodyPost_ret (v := .agg #[.int .u8 83, .int .u8 0, .string ⟨#[]⟩, .string t1, .string t2, .int .i64 0, .int .i64 0, .slice none 0 0, .slice none 0 0, .slice none 0 0, .slice none 0 0]) (by simp [results, Tryz.results85, go_sem, hcf]) rfl ?_
  exact ⟨{ baZero 83 with name := t1, value := t2 }, baNil, L2, b2, rfl, HH.out.1, HH.out.2.1, readB_S HQ1.out HQ2.out, HH.out.2.2⟩

set_option maxRecDepth 100000 in
set_option maxHeartbeats 4000000 in
theorem brmsg_K (sb g : Nat) (L : List UInt8) (bad : Bool) (w : World) (h : RefS w sb g L bad) (hL : L.length ≤ 100000) :
    Calls Tryz.prog 85 #[.pointer (some ⟨sb, 0, none⟩), .int .u8 75] w (brmsgR sb g L bad 75 w) := by
  have hsb := h.lt
  have Hg := Lib.hid (fun e : L ≠ [] => h.ltgF e)
  have hm := BmI.start sb w w 75 (Touch.refl _ w) hsb
  have hs := h.touch (p := fun _ => False) (((Touch.refl _ w).alloc (.cells baZ 39)).alloc (.cells (baCells (baZero 75) baNil) 39)) (fun e => e) (fun _ e => e)
  unfold baZ at hm hs
  rw [show baCells (baZero 75) baNil = #[.int .u8 75, .int .u8 0, .string ⟨#[]⟩, .string ⟨#[]⟩, .string ⟨#[]⟩, .int .i64 0, .int .i64 0, .slice none 0 0, .slice none 0 0, .slice none 0 0, .slice none 0 0] from rfl] at hm hs
  have Hm1 := Lib.hid hm
  have Hs1 := Lib.hid hs
  clear h hm hs
  go_enter Tryz.func85, Tryz.ntmps85
  go_upto_region 2 with (fail)
  generalize (w.alloc (.cells #[.int .u8 0, .int .u8 0, .string ⟨#[]⟩, .string ⟨#[]⟩, .string ⟨#[]⟩, .int .i64 0, .int .i64 0, .slice none 0 0, .slice none 0 0, .slice none 0 0, .slice none 0 0] 39)).alloc (.cells #[.int .u8 75, .int .u8 0, .string ⟨#[]⟩, .string ⟨#[]⟩, .string ⟨#[]⟩, .int .i64 0, .int .i64 0, .slice none 0 0, .slice none 0 0, .slice none 0 0, .slice none 0 0] 39) = w1 at *
  have hl1 : L.length ≤ 100000 := hL
  obtain ⟨t1, L1, b1, hq, ht, hc⟩ := brNum_o Hs1.out 4 4 (by decide)
  have HQ1 := Lib.hid hq
  have HC := Lib.hid hc
  clear hq hc hl1 ht
  go_wp2_with fail
  refine HC.out.mono ?_
  rintro e w2 ⟨rfl, hs, hT⟩
  have hz2 := hT.size
  have Hm2 := Lib.hid (Hm1.out.step hT)
  have Hs2 := Lib.hid hs
  clear hs hT HC Hm1 Hs1
  have hl2 : L1.length ≤ 100000 := by have q1 := HQ1.out.2.2; omega
  obtain ⟨t2, L2, b2, hq, ht, hc⟩ := brNum_o Hs2.out 4 4 (by decide)
  have HQ2 := Lib.hid hq
  have HC := Lib.hid hc
  clear hq hc hl2 ht
  go_wp2_with fail
  refine HC.out.mono ?_
  rintro e w3 ⟨rfl, hs, hT⟩
  have hz3 := hT.size
  have Hm3 := Lib.hid (Hm2.out.step hT)
  have Hs3 := Lib.hid hs
  clear hs hT HC Hm2 Hs2
  have c3 : ∀ i, w3.cell? ⟨w.heap.size + 1, i, none⟩ = (#[.int .u8 75, .int .u8 0, .string ⟨#[]⟩, .string ⟨#[]⟩, .string ⟨#[]⟩, .int .i64 0, .int .i64 0, .slice none 0 0, .slice none 0 0, .slice none 0 0, .slice none 0 0] : Array Value)[i]? := Hm3.out.b3.cell
  have f3 := Hm3.out.b3.frozen
  go_upto_region 26 with (fail)
  have hm3 := Hm3.out
  have hs3 := Hs3.out
  have hm4 := hm3.set 5 (.int .i64 t1) (f' := { baZero 75 with n := t1 }) (a' := baNil) ⟨hm3.lst.lo, hm3.lst.lc, hm3.lst.lr, hm3.lst.lf⟩ rfl
  have hT := BmI.tset (w3) w.heap.size 5 (.int .i64 t1)
  have hs4 := hs3.touch hT (by omega) (fun hne e => by have := Hg.out ((fun x => HQ1.out.neB (HQ2.out.neB x)) hne); omega)
  have hm5 := hm4.set 6 (.int .i64 t2) (f' := { baZero 75 with n := t1, m := t2 }) (a' := baNil) ⟨hm4.lst.lo, hm4.lst.lc, hm4.lst.lr, hm4.lst.lf⟩ rfl
  have hT := BmI.tset ((w3.setCell ⟨w.heap.size + 1, 5, none⟩ (.int .i64 t1))) w.heap.size 6 (.int .i64 t2)
  have hs5 := hs4.touch hT (by omega) (fun hne e => by have := Hg.out ((fun x => HQ1.out.neB (HQ2.out.neB x)) hne); omega)
  clear c3 f3 hT hm3 hm4 hs3 hs4
  have Hm5 := Lib.hid hm5
  have Hs5 := Lib.hid hs5
  clear hm5 hs5
  generalize (((w3.setCell ⟨w.heap.size + 1, 5, none⟩ (.int .i64 t1))).setCell ⟨w.heap.size + 1, 6, none⟩ (.int .i64 t2)) = w5 at *
  have c3 : ∀ i, w5.cell? ⟨w.heap.size + 1, i, none⟩ = (#[.int .u8 75, .int .u8 0, .string ⟨#[]⟩, .string ⟨#[]⟩, .string ⟨#[]⟩, .int .i64 t1, .int .i64 t2, .slice none 0 0, .slice none 0 0, .slice none 0 0, .slice none 0 0] : Array Value)[i]? := Hm5.out.b3.cell
  have c2 : ∀ i, w5.cell? ⟨w.heap.size, i, none⟩ = (#[.int .u8 0, .int .u8 0, .string ⟨#[]⟩, .string ⟨#[]⟩, .string ⟨#[]⟩, .int .i64 0, .int .i64 0, .slice none 0 0, .slice none 0 0, .slice none 0 0, .slice none 0 0] : Array Value)[i]? := Hm5.out.b2.cell
  have f2 := Hm5.out.b2.frozen
  go_wp2_with fail
  have hT := setEl_touch w5 w.heap.size (.int .u8 75) (.int .u8 0) (.string ⟨#[]⟩) (.string ⟨#[]⟩) (.string ⟨#[]⟩) (.int .i64 t1) (.int .i64 t2) (.slice none 0 0) (.slice none 0 0) (.slice none 0 0) (.slice none 0 0)
  have hbf := setEl_blk (.int .u8 75) (.int .u8 0) (.string ⟨#[]⟩) (.string ⟨#[]⟩) (.string ⟨#[]⟩) (.int .i64 t1) (.int .i64 t2) (.slice none 0 0) (.slice none 0 0) (.slice none 0 0) (.slice none 0 0) Hm5.out.b2
  have hl := Hm5.out.lst.keep (S' := fun k => w.heap.size ≤ k) (Kept.touch hT (fun k hk hs => by have hs' : w.heap.size + 2 ≤ k := hs; exact ⟨by omega, by omega⟩))
  have hs := Hs5.out.touch hT (by omega) (fun hne e => by have := Hg.out ((fun x => HQ1.out.neB (HQ2.out.neB x)) hne); omega)
  have ht := Hm5.out.tch.then hT (fun k hk e => by omega)
  have HH := Lib.hid (And.intro hl (And.intro hs ht))
  unfold setEl at hbf HH
  have hcf := hbf.cell
  clear hT hbf hl hs ht c2 c3 f2
  refine bodyPost_ret (v := .agg #[.int .u8 75, .int .u8 0, .string ⟨#[]⟩, .string ⟨#[]⟩, .string ⟨#[]⟩, .int .i64 t1, .int .i64 t2, .slice none 0 0, .slice none 0 0, .slice none 0 0, .slice none 0 0]) (by simp [results, Tryz.results85, go_sem, hcf]) rfl ?_
  exact ⟨{ baZero 75 with n := t1, m := t2 }, baNil, L2, b2, rfl, HH.out.1, HH.out.2.1, readB_K HQ1.out HQ2.out, HH.out.2.2⟩

set_option maxRecDepth 100000 in
set_option maxHeartbeats 4000000 in
theorem brmsg_Z (sb g : Nat) (L : List UInt8) (bad : Bool) (w : World) (h : RefS w sb g L bad) (hL : L.length ≤ 100000) :
    Calls Tryz.prog 85 #[.pointer (some ⟨sb, 0, none⟩), .int .u8 90] w (brmsgR sb g L bad 90 w) := by
  have hsb := h.lt
  have Hg := Lib.hid (fun e : L ≠ [] => h.ltgF e)
  have hm := BmI.start sb w w 90 (Touch.refl _ w) hsb
  have hs := h.touch (p := fun _ => False) (((Touch.refl _ w).alloc (.cells baZ 39)).alloc (.cells (baCells (baZero 90) baNil) 39)) (fun e => e) (fun _ e => e)
  unfold baZ at hm hs
  rw [show baCells (baZero 90) baNil = #[.int .u8 90, .int .u8 0, .string ⟨#[]⟩, .string ⟨#[]⟩, .string ⟨#[]⟩, .int .i64 0, .int .i64 0, .slice none 0 0, .slice none 0 0, .slice none 0 0, .slice none 0 0] from rfl] at hm hs
  have Hm1 := Lib.hid hm
  have Hs1 := Lib.hid hs
  clear h hm hs
  go_enter Tryz.func85, Tryz.ntmps85
  go_upto_region 2 with (fail)
  generalize (w.alloc (.cells #[.int .u8 0, .int .u8 0, .string ⟨#[]⟩, .string ⟨#[]⟩, .string ⟨#[]⟩, .int .i64 0, .int .i64 0, .slice none 0 0, .slice none 0 0, .slice none 0 0, .slice none 0 0] 39)).alloc (.cells #[.int .u8 90, .int .u8 0, .string ⟨#[]⟩, .string ⟨#[]⟩, .string ⟨#[]⟩, .int .i64 0, .int .i64 0, .slice none 0 0, .slice none 0 0, .slice none 0 0, .slice none 0 0] 39) = w1 at *
  have hl1 : L.length ≤ 100000 := hL
  obtain ⟨t1, L1, b1, hq, ht, hc⟩ := brNum_o Hs1.out 1 1 (by decide)
  have hwr : t1 % 256 = t1 := by have := num8B L bad; rw [← ht] at this; omega
  have HQ1 := Lib.hid hq
  have HC := Lib.hid hc
  clear hq hc hl1 ht
  go_wp2_with fail
  refine HC.out.mono ?_
  rintro e w2 ⟨rfl, hs, hT⟩
  have hz2 := hT.size
  have Hm2 := Lib.hid (Hm1.out.step hT)
  have Hs2 := Lib.hid hs
  clear hs hT HC Hm1 Hs1
  have c3 : ∀ i, w2.cell? ⟨w.heap.size + 1, i, none⟩ = (#[.int .u8 90, .int .u8 0, .string ⟨#[]⟩, .string ⟨#[]⟩, .string ⟨#[]⟩, .int .i64 0, .int .i64 0, .slice none 0 0, .slice none 0 0, .slice none 0 0, .slice none 0 0] : Array Value)[i]? := Hm2.out.b3.cell
  have f3 := Hm2.out.b3.frozen
  go_upto_region 26 with (fail)
  try simp only [hwr]
  have hm2 := Hm2.out
  have hs2 := Hs2.out
  have hm3 := hm2.set 1 (.int .u8 t1) (f' := { baZero 90 with status := t1 }) (a' := baNil) ⟨hm2.lst.lo, hm2.lst.lc, hm2.lst.lr, hm2.lst.lf⟩ rfl
  have hT := BmI.tset (w2) w.heap.size 1 (.int .u8 t1)
  have hs3 := hs2.touch hT (by omega) (fun hne e => by have := Hg.out ((fun x => HQ1.out.neB x) hne); omega)
  clear c3 f3 hT hm2 hs2
  have Hm3 := Lib.hid hm3
  have Hs3 := Lib.hid hs3
  clear hm3 hs3
  generalize (w2.setCell ⟨w.heap.size + 1, 1, none⟩ (.int .u8 t1)) = w3 at *
  have c3 : ∀ i, w3.cell? ⟨w.heap.size + 1, i, none⟩ = (#[.int .u8 90, .int .u8 t1, .string ⟨#[]⟩, .string ⟨#[]⟩, .string ⟨#[]⟩, .int .i64 0, .int .i64 0, .slice none 0 0, .slice none 0 0, .slice none 0 0, .slice none 0 0] : Array Value)[i]? := Hm3.out.b3.cell
  have c2 : ∀ i, w3.cell? ⟨w.heap.size, i, none⟩ = (#[.int .u8 0, .int .u8 0, .string ⟨#[]⟩, .string ⟨#[]⟩, .string ⟨#[]⟩, .int .i64 0, .int .i64 0, .slice none 0 0, .slice none 0 0, .slice none 0 0, .slice none 0 0] : Array Value)[i]? := Hm3.out.b2.cell
  have f2 := Hm3.out.b2.frozen
  go_wp2_with fail
  have hT := setEl_touch w3 w.heap.size (.int .u8 90) (.int .u8 t1) (.string ⟨#[]⟩) (.string ⟨#[]⟩) (.string ⟨#[]⟩) (.int .i64 0) (.int .i64 0) (.slice none 0 0) (.slice none 0 0) (.slice none 0 0) (.slice none 0 0)
  have hbf := setEl_blk (.int .u8 90) (.int .u8 t1) (.string ⟨#[]⟩) (.string ⟨#[]⟩) (.string ⟨#[]⟩) (.int .i64 0) (.int .i64 0) (.slice none 0 0) (.slice none 0 0) (.slice none 0 0) (.slice none 0 0) Hm3.out.b2
  have hl := Hm3.out.lst.keep (S' := fun k => w.heap.size ≤ k) (Kept.touch hT (fun k hk hs => by have hs' : w.heap.size + 2 ≤ k := hs; exact ⟨by omega, by omega⟩))
  have hs := Hs3.out.touch hT (by omega) (fun hne e => by have := Hg.out ((fun x => HQ1.out.neB x) hne); omega)
  have ht := Hm3.out.tch.then hT (fun k hk e => by omega)
  have HH := Lib.hid (And.intro hl (And.intro hs ht))
  unfold setEl at hbf HH
  have hcf := hbf.cell
  clear hT hbf hl hs ht c2 c3 f2
  refine bodyPost_ret (v := .agg #[.int .u8 90, .int .u8 t1, .string ⟨#[]⟩, .string ⟨#[]⟩, .string ⟨#[]⟩, .int .i64 0, .int .i64 0, .slice none 0 0, .slice none 0 0, .slice none 0 0, .slice none 0 0]) (by simp [results, Tryz.results85, go_sem, hcf]) rfl ?_
  exact ⟨{ baZero 90 with status := t1 }, baNil, L1, b1, rfl, HH.out.1, HH.out.2.1, readB_Z HQ1.out, HH.out.2.2⟩

set_option maxRecDepth 100000 in
set_option maxHeartbeats 4000000 in
theorem brmsg_C (sb g : Nat) (L : List UInt8) (bad : Bool) (w : World) (h : RefS w sb g L bad) (hL : L.length ≤ 100000) :
    Calls Tryz.prog 85 #[.pointer (some ⟨sb, 0, none⟩), .int .u8 67] w (brmsgR sb g L bad 67 w) := by
  have hsb := h.lt
  have Hg := Lib.hid (fun e : L ≠ [] => h.ltgF e)
  have hm := BmI.start sb w w 67 (Touch.refl _ w) hsb
  have hs := h.touch (p := fun _ => False) (((Touch.refl _ w).alloc (.cells baZ 39)).alloc (.cells (baCells (baZero 67) baNil) 39)) (fun e => e) (fun _ e => e)
  unfold baZ at hm hs
  rw [show baCells (baZero 67) baNil = #[.int .u8 67, .int .u8 0, .string ⟨#[]⟩, .string ⟨#[]⟩, .string ⟨#[]⟩, .int .i64 0, .int .i64 0, .slice none 0 0, .slice none 0 0, .slice none 0 0, .slice none 0 0] from rfl] at hm hs
  have Hm1 := Lib.hid hm
  have Hs1 := Lib.hid hs
  clear h hm hs
  go_enter Tryz.func85, Tryz.ntmps85
  go_upto_region 2 with (fail)
  generalize (w.alloc (.cells #[.int .u8 0, .int .u8 0, .string ⟨#[]⟩, .string ⟨#[]⟩, .string ⟨#[]⟩, .int .i64 0, .int .i64 0, .slice none 0 0, .slice none 0 0, .slice none 0 0, .slice none 0 0] 39)).alloc (.cells #[.int .u8 67, .int .u8 0, .string ⟨#[]⟩, .string ⟨#[]⟩, .string ⟨#[]⟩, .int .i64 0, .int .i64 0, .slice none 0 0, .slice none 0 0, .slice none 0 0, .slice none 0 0] 39) = w1 at *
  have hl1 : L.length ≤ 100000 := hL
  obtain ⟨t1, L1, b1, hq, -, hc⟩ := brText_o Hs1.out hl1
  have HQ1 := Lib.hid hq
  have HC := Lib.hid hc
  clear hq hc hl1
  go_wp2_with fail
  refine HC.out.mono ?_
  rintro e w2 ⟨rfl, hs, hT⟩
  have hz2 := hT.size
  have Hm2 := Lib.hid (Hm1.out.step hT)
  have Hs2 := Lib.hid hs
  clear hs hT HC Hm1 Hs1
  have c3 : ∀ i, w2.cell? ⟨w.heap.size + 1, i, none⟩ = (#[.int .u8 67, .int .u8 0, .string ⟨#[]⟩, .string ⟨#[]⟩, .string ⟨#[]⟩, .int .i64 0, .int .i64 0, .slice none 0 0, .slice none 0 0, .slice none 0 0, .slice none 0 0] : Array Value)[i]? := Hm2.out.b3.cell
  have f3 := Hm2.out.b3.frozen
  go_upto_region 26 with (fail)
  have hm2 := Hm2.out
  have hs2 := Hs2.out
  have hm3 := hm2.set 2 (.string t1) (f' := { baZero 67 with tag := t1 }) (a' := baNil) ⟨hm2.lst.lo, hm2.lst.lc, hm2.lst.lr, hm2.lst.lf⟩ rfl
  have hT := BmI.tset (w2) w.heap.size 2 (.string t1)
  have hs3 := hs2.touch hT (by omega) (fun hne e => by have := Hg.out ((fun x => HQ1.out.neB x) hne); omega)
  clear c3 f3 hT hm2 hs2
  have Hm3 := Lib.hid hm3
  have Hs3 := Lib.hid hs3
  clear hm3 hs3
  generalize (w2.setCell ⟨w.heap.size + 1, 2, none⟩ (.string t1)) = w3 at *
  have c3 : ∀ i, w3.cell? ⟨w.heap.size + 1, i, none⟩ = (#[.int .u8 67, .int .u8 0, .string t1, .string ⟨#[]⟩, .string ⟨#[]⟩, .int .i64 0, .int .i64 0, .slice none 0 0, .slice none 0 0, .slice none 0 0, .slice none 0 0] : Array Value)[i]? := Hm3.out.b3.cell
  have c2 : ∀ i, w3.cell? ⟨w.heap.size, i, none⟩ = (#[.int .u8 0, .int .u8 0, .string ⟨#[]⟩, .string ⟨#[]⟩, .string ⟨#[]⟩, .int .i64 0, .int .i64 0, .slice none 0 0, .slice none 0 0, .slice none 0 0, .slice none 0 0] : Array Value)[i]? := Hm3.out.b2.cell
  have f2 := Hm3.out.b2.frozen
  go_wp2_with fail
  have hT := setEl_touch w3 w.heap.size (.int .u8 67) (.int .u8 0) (.string t1) (.string ⟨#[]⟩) (.string ⟨#[]⟩) (.int .i64 0) (.int .i64 0) (.slice none 0 0) (.slice none 0 0) (.slice none 0 0) (.slice none 0 0)
  have hbf := setEl_blk (.int .u8 67) (.int .u8 0) (.string t1) (.string ⟨#[]⟩) (.string ⟨#[]⟩) (.int .i64 0) (.int .i64 0) (.slice none 0 0) (.slice none 0 0) (.slice none 0 0) (.slice none 0 0) Hm3.out.b2
  have hl := Hm3.out.lst.keep (S' := fun k => w.heap.size ≤ k) (Kept.touch hT (fun k hk hs => by have hs' : w.heap.size + 2 ≤ k := hs; exact ⟨by omega, by omega⟩))
  have hs := Hs3.out.touch hT (by omega) (fun hne e => by have := Hg.out ((fun x => HQ1.out.neB x) hne); omega)
  have ht := Hm3.out.tch.then hT (fun k hk e => by omega)
  have HH := Lib.hid (And.intro hl (And.intro hs ht))
  unfold setEl at hbf HH
  have hcf := hbf.cell
  clear hT hbf hl hs ht c2 c3 f2
  refine bodyPost_ret (v := .agg #[.int .u8 67, .int .u8 0, .string t1, .string ⟨#[]⟩, .string ⟨#[]⟩, .int .i64 0, .int .i64 0, .slice none 0 0, .slice none 0 0, .slice none 0 0, .slice none 0 0]) (by simp [results, Tryz.results85, go_sem, hcf]) rfl ?_
  exact ⟨{ baZero 67 with tag := t1 }, baNil, L1, b1, rfl, HH.out.1, HH.out.2.1, readB_C HQ1.out, HH.out.2.2⟩

set_option maxRecDepth 100000 in
set_option maxHeartbeats 4000000 in
theorem brmsg_D (sb g : Nat) (L : List UInt8) (bad : Bool) (w : World) (h : RefS w sb g L bad) (hL : L.length ≤ 100000) :
    Calls Tryz.prog 85 #[.pointer (some ⟨sb, 0, none⟩), .int .u8 68] w (brmsgR sb g L bad 68 w) := by
  have hsb := h.lt
  have Hg := Lib.hid (fun e : L ≠ [] => h.ltgF e)
  have hm := BmI.start sb w w 68 (Touch.refl _ w) hsb
  have hs := h.touch (p := fun _ => False) (((Touch.refl _ w).alloc (.cells baZ 39)).alloc (.cells (baCells (baZero 68) baNil) 39)) (fun e => e) (fun _ e => e)
  unfold baZ at hm hs
  rw [show baCells (baZero 68) baNil = #[.int .u8 68, .int .u8 0, .string ⟨#[]⟩, .string ⟨#[]⟩, .string ⟨#[]⟩, .int .i64 0, .int .i64 0, .slice none 0 0, .slice none 0 0, .slice none 0 0, .slice none 0 0] from rfl] at hm hs
  have Hm1 := Lib.hid hm
  have Hs1 := Lib.hid hs
  clear h hm hs
  go_enter Tryz.func85, Tryz.ntmps85
  go_upto_region 2 with (fail)
  generalize (w.alloc (.cells #[.int .u8 0, .int .u8 0, .string ⟨#[]⟩, .string ⟨#[]⟩, .string ⟨#[]⟩, .int .i64 0, .int .i64 0, .slice none 0 0, .slice none 0 0, .slice none 0 0, .slice none 0 0] 39)).alloc (.cells #[.int .u8 68, .int .u8 0, .string ⟨#[]⟩, .string ⟨#[]⟩, .string ⟨#[]⟩, .int .i64 0, .int .i64 0, .slice none 0 0, .slice none 0 0, .slice none 0 0, .slice none 0 0] 39) = w1 at *
  have hl1 : L.length ≤ 100000 := hL
  have HC := Lib.hid (frrow_any sb g L bad w1 Hs1.out hl1)
  clear hl1
  go_wp2_with fail
  refine HC.out.mono ?_
  rintro e w2 ⟨v, t1, L1, b1, rfl, ho, hs, hq, hT⟩
  obtain ⟨ptr1, cap1, hv, hl⟩ := OwnC.lstB ho (w.heap.size + 2) (by have := Hm1.out.b3.lt; omega)
  subst hv
  have HL1 := Lib.hid hl
  have HQ1 := Lib.hid hq
  clear ho hl hq
  have hz2 := hT.size
  have Hm2 := Lib.hid (Hm1.out.step hT)
  have Hs2 := Lib.hid hs
  clear hs hT HC Hm1 Hs1
  have c3 : ∀ i, w2.cell? ⟨w.heap.size + 1, i, none⟩ = (#[.int .u8 68, .int .u8 0, .string ⟨#[]⟩, .string ⟨#[]⟩, .string ⟨#[]⟩, .int .i64 0, .int .i64 0, .slice none 0 0, .slice none 0 0, .slice none 0 0, .slice none 0 0] : Array Value)[i]? := Hm2.out.b3.cell
  have f3 := Hm2.out.b3.frozen
  go_upto_region 26 with (fail)
  have hm2 := Hm2.out
  have hs2 := Hs2.out
  have hm3 := hm2.set 9 (.slice ptr1 t1.length cap1) (f' := { baZero 68 with row := t1 }) (a' := { baNil with pr := ptr1, cr := cap1 }) ⟨hm2.lst.lo, hm2.lst.lc, HL1.out, hm2.lst.lf⟩ rfl
  have hT := BmI.tset (w2) w.heap.size 9 (.slice ptr1 t1.length cap1)
  have hs3 := hs2.touch hT (by omega) (fun hne e => by have := Hg.out ((fun x => HQ1.out.neB x) hne); omega)
  clear c3 f3 hT hm2 hs2
  have Hm3 := Lib.hid hm3
  have Hs3 := Lib.hid hs3
  clear hm3 hs3
  generalize (w2.setCell ⟨w.heap.size + 1, 9, none⟩ (.slice ptr1 t1.length cap1)) = w3 at *
  have c3 : ∀ i, w3.cell? ⟨w.heap.size + 1, i, none⟩ = (#[.int .u8 68, .int .u8 0, .string ⟨#[]⟩, .string ⟨#[]⟩, .string ⟨#[]⟩, .int .i64 0, .int .i64 0, .slice none 0 0, .slice none 0 0, .slice ptr1 t1.length cap1, .slice none 0 0] : Array Value)[i]? := Hm3.out.b3.cell
  have c2 : ∀ i, w3.cell? ⟨w.heap.size, i, none⟩ = (#[.int .u8 0, .int .u8 0, .string ⟨#[]⟩, .string ⟨#[]⟩, .string ⟨#[]⟩, .int .i64 0, .int .i64 0, .slice none 0 0, .slice none 0 0, .slice none 0 0, .slice none 0 0] : Array Value)[i]? := Hm3.out.b2.cell
  have f2 := Hm3.out.b2.frozen
  go_wp2_with fail
  have hT := setEl_touch w3 w.heap.size (.int .u8 68) (.int .u8 0) (.string ⟨#[]⟩) (.string ⟨#[]⟩) (.string ⟨#[]⟩) (.int .i64 0) (.int .i64 0) (.slice none 0 0) (.slice none 0 0) (.slice ptr1 t1.length cap1) (.slice none 0 0)
  have hbf := setEl_blk (.int .u8 68) (.int .u8 0) (.string ⟨#[]⟩) (.string ⟨#[]⟩) (.string ⟨#[]⟩) (.int .i64 0) (.int .i64 0) (.slice none 0 0) (.slice none 0 0) (.slice ptr1 t1.length cap1) (.slice none 0 0) Hm3.out.b2
  have hl := Hm3.out.lst.keep (S' := fun k => w.heap.size ≤ k) (Kept.touch hT (fun k hk hs => by have hs' : w.heap.size + 2 ≤ k := hs; exact ⟨by omega, by omega⟩))
  have hs := Hs3.out.touch hT (by omega) (fun hne e => by have := Hg.out ((fun x => HQ1.out.neB x) hne); omega)
  have ht := Hm3.out.tch.then hT (fun k hk e => by omega)
  have HH := Lib.hid (And.intro hl (And.intro hs ht))
  unfold setEl at hbf HH
  have hcf := hbf.cell
  clear hT hbf hl hs ht c2 c3 f2
  refine bodyPost_ret (v := .agg #[.int .u8 68, .int .u8 0, .string ⟨#[]⟩, .string ⟨#[]⟩, .string ⟨#[]⟩, .int .i64 0, .int .i64 0, .slice none 0 0, .slice none 0 0, .slice ptr1 t1.length cap1, .slice none 0 0]) (by simp [results, Tryz.results85, go_sem, hcf]) rfl ?_
  exact ⟨{ baZero 68 with row := t1 }, { baNil with pr := ptr1, cr := cap1 }, L1, b1, rfl, HH.out.1, HH.out.2.1, readB_D HQ1.out, HH.out.2.2⟩

set_option maxRecDepth 100000 in
set_option maxHeartbeats 4000000 in
theorem brmsg_t (sb g : Nat) (L : List UInt8) (bad : Bool) (w : World) (h : RefS w sb g L bad) (hL : L.length ≤ 100000) :
    Calls Tryz.prog 85 #[.pointer (some ⟨sb, 0, none⟩), .int .u8 116] w (brmsgR sb g L bad 116 w) := by
  have hsb := h.lt
  have Hg := Lib.hid (fun e : L ≠ [] => h.ltgF e)
  have hm := BmI.start sb w w 116 (Touch.refl _ w) hsb
  have hs := h.touch (p := fun _ => False) (((Touch.refl _ w).alloc (.cells baZ 39)).alloc (.cells (baCells (baZero 116) baNil) 39)) (fun e => e) (fun _ e => e)
  unfold baZ at hm hs
  rw [show baCells (baZero 116) baNil = #[.int .u8 116, .int .u8 0, .string ⟨#[]⟩, .string ⟨#[]⟩, .string ⟨#[]⟩, .int .i64 0, .int .i64 0, .slice none 0 0, .slice none 0 0, .slice none 0 0, .slice none 0 0] from rfl] at hm hs
  have Hm1 := Lib.hid hm
  have Hs1 := Lib.hid hs
  clear h hm hs
  go_enter Tryz.func85, Tryz.ntmps85
  go_upto_region 2 with (fail)
  generalize (w.alloc (.cells #[.int .u8 0, .int .u8 0, .string ⟨#[]⟩, .string ⟨#[]⟩, .string ⟨#[]⟩, .int .i64 0, .int .i64 0, .slice none 0 0, .slice none 0 0, .slice none 0 0, .slice none 0 0] 39)).alloc (.cells #[.int .u8 116, .int .u8 0, .string ⟨#[]⟩, .string ⟨#[]⟩, .string ⟨#[]⟩, .int .i64 0, .int .i64 0, .slice none 0 0, .slice none 0 0, .slice none 0 0, .slice none 0 0] 39) = w1 at *
  have hl1 : L.length ≤ 100000 := hL
  have HC := Lib.hid (fnums_any sb g L bad 4 4 (by decide) (by decide) w1 Hs1.out hl1)
  clear hl1
  go_wp2_with fail
  refine HC.out.mono ?_
  rintro e w2 ⟨v, t1, L1, b1, rfl, ho, hs, hq, hT⟩
  obtain ⟨ptr1, cap1, hv, hl⟩ := OwnI.lstB ho (w.heap.size + 2) (by have := Hm1.out.b3.lt; omega)
  subst hv
  have HL1 := Lib.hid hl
  have HQ1 := Lib.hid hq
  clear ho hl hq
  have hz2 := hT.size
  have Hm2 := Lib.hid (Hm1.out.step hT)
  have Hs2 := Lib.hid hs
  clear hs hT HC Hm1 Hs1
  have c3 : ∀ i, w2.cell? ⟨w.heap.size + 1, i, none⟩ = (#[.int .u8 116, .int .u8 0, .string ⟨#[]⟩, .string ⟨#[]⟩, .string ⟨#[]⟩, .int .i64 0, .int .i64 0, .slice none 0 0, .slice none 0 0, .slice none 0 0, .slice none 0 0] : Array Value)[i]? := Hm2.out.b3.cell
  have f3 := Hm2.out.b3.frozen
  go_upto_region 26 with (fail)
  have hm2 := Hm2.out
  have hs2 := Hs2.out
  have hm3 := hm2.set 7 (.slice ptr1 t1.length cap1) (f' := { baZero 116 with oids := t1 }) (a' := { baNil with po := ptr1, co := cap1 }) ⟨HL1.out, hm2.lst.lc, hm2.lst.lr, hm2.lst.lf⟩ rfl
  have hT := BmI.tset (w2) w.heap.size 7 (.slice ptr1 t1.length cap1)
  have hs3 := hs2.touch hT (by omega) (fun hne e => by have := Hg.out ((fun x => HQ1.out.neB x) hne); omega)
  clear c3 f3 hT hm2 hs2
  have Hm3 := Lib.hid hm3
  have Hs3 := Lib.hid hs3
  clear hm3 hs3
  generalize (w2.setCell ⟨w.heap.size + 1, 7, none⟩ (.slice ptr1 t1.length cap1)) = w3 at *
  have c3 : ∀ i, w3.cell? ⟨w.heap.size + 1, i, none⟩ = (#[.int .u8 116, .int .u8 0, .string ⟨#[]⟩, .string ⟨#[]⟩, .string ⟨#[]⟩, .int .i64 0, .int .i64 0, .slice ptr1 t1.length cap1, .slice none 0 0, .slice none 0 0, .slice none 0 0] : Array Value)[i]? := Hm3.out.b3.cell
  have c2 : ∀ i, w3.cell? ⟨w.heap.size, i, none⟩ = (#[.int .u8 0, .int .u8 0, .string ⟨#[]⟩, .string ⟨#[]⟩, .string ⟨#[]⟩, .int .i64 0, .int .i64 0, .slice none 0 0, .slice none 0 0, .slice none 0 0, .slice none 0 0] : Array Value)[i]? := Hm3.out.b2.cell
  have f2 := Hm3.out.b2.frozen
  go_wp2_with fail
  have hT := setEl_touch w3 w.heap.size (.int .u8 116) (.int .u8 0) (.string ⟨#[]⟩) (.string ⟨#[]⟩) (.string ⟨#[]⟩) (.int .i64 0) (.int .i64 0) (.slice ptr1 t1.length cap1) (.slice none 0 0) (.slice none 0 0) (.slice none 0 0)
  have hbf := setEl_blk (.int .u8 116) (.int .u8 0) (.string ⟨#[]⟩) (.string ⟨#[]⟩) (.string ⟨#[]⟩) (.int .i64 0) (.int .i64 0) (.slice ptr1 t1.length cap1) (.slice none 0 0) (.slice none 0 0) (.slice none 0 0) Hm3.out.b2
  have hl := Hm3.out.lst.keep (S' := fun k => w.heap.size ≤ k) (Kept.touch hT (fun k hk hs => by have hs' : w.heap.size + 2 ≤ k := hs; exact ⟨by omega, by omega⟩))
  have hs := Hs3.out.touch hT (by omega) (fun hne e => by have := Hg.out ((fun x => HQ1.out.neB x) hne); omega)
  have ht := Hm3.out.tch.then hT (fun k hk e => by omega)
  have HH := Lib.hid (And.intro hl (And.intro hs ht))
  unfold setEl at hbf HH
  have hcf := hbf.cell
  clear hT hbf hl hs ht c2 c3 f2
  refine bodyPost_ret (v := .agg #[.int .u8 116, .int .u8 0, .string ⟨#[]⟩, .string ⟨#[]⟩, .string ⟨#[]⟩, .int .i64 0, .int .i64 0, .slice ptr1 t1.length cap1, .slice none 0 0, .slice none 0 0, .slice none 0 0]) (by simp [results, Tryz.results85, go_sem, hcf]) rfl ?_
  exact ⟨{ baZero 116 with oids := t1 }, { baNil with po := ptr1, co := cap1 }, L1, b1, rfl, HH.out.1, HH.out.2.1, readB_t HQ1.out, HH.out.2.2⟩

set_option maxRecDepth 100000 in
set_option maxHeartbeats 4000000 in
theorem brmsg_69 (sb g : Nat) (L : List UInt8) (bad : Bool) (w : World) (h : RefS w sb g L bad) (hL : L.length ≤ 100000) :
    Calls Tryz.prog 85 #[.pointer (some ⟨sb, 0, none⟩), .int .u8 69] w (brmsgR sb g L bad 69 w) := by
  have hsb := h.lt
  have Hg := Lib.hid (fun e : L ≠ [] => h.ltgF e)
  have hm := BmI.start sb w w 69 (Touch.refl _ w) hsb
  have hs := h.touch (p := fun _ => False) (((Touch.refl _ w).alloc (.cells baZ 39)).alloc (.cells (baCells (baZero 69) baNil) 39)) (fun e => e) (fun _ e => e)
  unfold baZ at hm hs
  rw [show baCells (baZero 69) baNil = #[.int .u8 69, .int .u8 0, .string ⟨#[]⟩, .string ⟨#[]⟩, .string ⟨#[]⟩, .int .i64 0, .int .i64 0, .slice none 0 0, .slice none 0 0, .slice none 0 0, .slice none 0 0] from rfl] at hm hs
  have Hm1 := Lib.hid hm
  have Hs1 := Lib.hid hs
  clear h hm hs
  go_enter Tryz.func85, Tryz.ntmps85
  go_upto_region 2 with (fail)
  generalize (w.alloc (.cells #[.int .u8 0, .int .u8 0, .string ⟨#[]⟩, .string ⟨#[]⟩, .string ⟨#[]⟩, .int .i64 0, .int .i64 0, .slice none 0 0, .slice none 0 0, .slice none 0 0, .slice none 0 0] 39)).alloc (.cells #[.int .u8 69, .int .u8 0, .string ⟨#[]⟩, .string ⟨#[]⟩, .string ⟨#[]⟩, .int .i64 0, .int .i64 0, .slice none 0 0, .slice none 0 0, .slice none 0 0, .slice none 0 0] 39) = w1 at *
  have hl1 : L.length ≤ 100000 := hL
  have HC := Lib.hid (rrdFds_any sb g L bad w1 Hs1.out hl1)
  clear hl1
  go_wp2_with fail
  refine HC.out.mono ?_
  rintro e w2 ⟨v, t1, L1, b1, rfl, ho, -, hs, hq, hT⟩
  obtain ⟨ptr1, cap1, hv, hl⟩ := OwnFd.lstB ho (w.heap.size + 2) (by have := Hm1.out.b3.lt; omega)
  subst hv
  have HL1 := Lib.hid hl
  have HQ1 := Lib.hid hq
  clear ho hl hq
  have hz2 := hT.size
  have Hm2 := Lib.hid (Hm1.out.step hT)
  have Hs2 := Lib.hid hs
  clear hs hT HC Hm1 Hs1
  have c3 : ∀ i, w2.cell? ⟨w.heap.size + 1, i, none⟩ = (#[.int .u8 69, .int .u8 0, .string ⟨#[]⟩, .string ⟨#[]⟩, .string ⟨#[]⟩, .int .i64 0, .int .i64 0, .slice none 0 0, .slice none 0 0, .slice none 0 0, .slice none 0 0] : Array Value)[i]? := Hm2.out.b3.cell
  have f3 := Hm2.out.b3.frozen
  go_upto_region 26 with (fail)
  have hm2 := Hm2.out
  have hs2 := Hs2.out
  have hm3 := hm2.set 10 (.slice ptr1 t1.length cap1) (f' := { baZero 69 with fields := t1 }) (a' := { baNil with pf := ptr1, cf := cap1 }) ⟨hm2.lst.lo, hm2.lst.lc, hm2.lst.lr, HL1.out⟩ rfl
  have hT := BmI.tset (w2) w.heap.size 10 (.slice ptr1 t1.length cap1)
  have hs3 := hs2.touch hT (by omega) (fun hne e => by have := Hg.out ((fun x => HQ1.out.neB x) hne); omega)
  clear c3 f3 hT hm2 hs2
  have Hm3 := Lib.hid hm3
  have Hs3 := Lib.hid hs3
  clear hm3 hs3
  generalize (w2.setCell ⟨w.heap.size + 1, 10, none⟩ (.slice ptr1 t1.length cap1)) = w3 at *
  have c3 : ∀ i, w3.cell? ⟨w.heap.size + 1, i, none⟩ = (#[.int .u8 69, .int .u8 0, .string ⟨#[]⟩, .string ⟨#[]⟩, .string ⟨#[]⟩, .int .i64 0, .int .i64 0, .slice none 0 0, .slice none 0 0, .slice none 0 0, .slice ptr1 t1.length cap1] : Array Value)[i]? := Hm3.out.b3.cell
  have c2 : ∀ i, w3.cell? ⟨w.heap.size, i, none⟩ = (#[.int .u8 0, .int .u8 0, .string ⟨#[]⟩, .string ⟨#[]⟩, .string ⟨#[]⟩, .int .i64 0, .int .i64 0, .slice none 0 0, .slice none 0 0, .slice none 0 0, .slice none 0 0] : Array Value)[i]? := Hm3.out.b2.cell
  have f2 := Hm3.out.b2.frozen
  go_wp2_with fail
  have hT := setEl_touch w3 w.heap.size (.int .u8 69) (.int .u8 0) (.string ⟨#[]⟩) (.string ⟨#[]⟩) (.string ⟨#[]⟩) (.int .i64 0) (.int .i64 0) (.slice none 0 0) (.slice none 0 0) (.slice none 0 0) (.slice ptr1 t1.length cap1)
  have hbf := setEl_blk (.int .u8 69) (.int .u8 0) (.string ⟨#[]⟩) (.string ⟨#[]⟩) (.string ⟨#[]⟩) (.int .i64 0) (.int .i64 0) (.slice none 0 0) (.slice none 0 0) (.slice none 0 0) (.slice ptr1 t1.length cap1) Hm3.out.b2
  have hl := Hm3.out.lst.keep (S' := fun k => w.heap.size ≤ k) (Kept.touch hT (fun k hk hs => by have hs' : w.heap.size + 2 ≤ k := hs; exact ⟨by omega, by omega⟩))
  have hs := Hs3.out.touch hT (by omega) (fun hne e => by have := Hg.out ((fun x => HQ1.out.neB x) hne); omega)
  have ht := Hm3.out.tch.then hT (fun k hk e => by omega)
  have HH := Lib.hid (And.intro hl (And.intro hs ht))
  unfold setEl at hbf HH
  have hcf := hbf.cell
  clear hT hbf hl hs ht c2 c3 f2
  refine bodyPost_ret (v := .agg #[.int .u8 69, .int .u8 0, .string ⟨#[]⟩, .string ⟨#[]⟩, .string ⟨#[]⟩, .int .i64 0, .int .i64 0, .slice none 0 0, .slice none 0 0, .slice none 0 0, .slice ptr1 t1.length cap1]) (by simp [results, Tryz.results85, go_sem, hcf]) rfl ?_
  exact ⟨{ baZero 69 with fields := t1 }, { baNil with pf := ptr1, cf := cap1 }, L1, b1, rfl, HH.out.1, HH.out.2.1, readB_E (k := 69) (.inl rfl) HQ1.out, HH.out.2.2⟩

set_option maxRecDepth 100000 in
set_option maxHeartbeats 4000000 in
theorem brmsg_78 (sb g : Nat) (L : List UInt8) (bad : Bool) (w : World) (h : RefS w sb g L bad) (hL : L.length ≤ 100000) :
    Calls Tryz.prog 85 #[.pointer (some ⟨sb, 0, none⟩), .int .u8 78] w (brmsgR sb g L bad 78 w) := by
  have hsb := h.lt
  have Hg := Lib.hid (fun e : L ≠ [] => h.ltgF e)
  have hm := BmI.start sb w w 78 (Touch.refl _ w) hsb
  have hs := h.touch (p := fun _ => False) (((Touch.refl _ w).alloc (.cells baZ 39)).alloc (.cells (baCells (baZero 78) baNil) 39)) (fun e => e) (fun _ e => e)
  unfold baZ at hm hs
  rw [show baCells (baZero 78) baNil = #[.int .u8 78, .int .u8 0, .string ⟨#[]⟩, .string ⟨#[]⟩, .string ⟨#[]⟩, .int .i64 0, .int .i64 0, .slice none 0 0, .slice none 0 0, .slice none 0 0, .slice none 0 0] from rfl] at hm hs
  have Hm1 := Lib.hid hm
  have Hs1 := Lib.hid hs
  clear h hm hs
  go_enter Tryz.func85, Tryz.ntmps85
  go_upto_region 2 with (fail)
  generalize (w.alloc (.cells #[.int .u8 0, .int .u8 0, .string ⟨#[]⟩, .string ⟨#[]⟩, .string ⟨#[]⟩, .int .i64 0, .int .i64 0, .slice none 0 0, .slice none 0 0, .slice none 0 0, .slice none 0 0] 39)).alloc (.cells #[.int .u8 78, .int .u8 0, .string ⟨#[]⟩, .string ⟨#[]⟩, .string ⟨#[]⟩, .int .i64 0, .int .i64 0, .slice none 0 0, .slice none 0 0, .slice none 0 0, .slice none 0 0] 39) = w1 at *
  have hl1 : L.length ≤ 100000 := hL
  have HC := Lib.hid (rrdFds_any sb g L bad w1 Hs1.out hl1)
  clear hl1
  go_wp2_with fail
  refine HC.out.mono ?_
  rintro e w2 ⟨v, t1, L1, b1, rfl, ho, -, hs, hq, hT⟩
  obtain ⟨ptr1, cap1, hv, hl⟩ := OwnFd.lstB ho (w.heap.size + 2) (by have := Hm1.out.b3.lt; omega)
  subst hv
  have HL1 := Lib.hid hl
  have HQ1 := Lib.hid hq
  clear ho hl hq
  have hz2 := hT.size
  have Hm2 := Lib.hid (Hm1.out.step hT)
  have Hs2 := Lib.hid hs
  clear hs hT HC Hm1 Hs1
  have c3 : ∀ i, w2.cell? ⟨w.heap.size + 1, i, none⟩ = (#[.int .u8 78, .int .u8 0, .string ⟨#[]⟩, .string ⟨#[]⟩, .string ⟨#[]⟩, .int .i64 0, .int .i64 0, .slice none 0 0, .slice none 0 0, .slice none 0 0, .slice none 0 0] : Array Value)[i]? := Hm2.out.b3.cell
  have f3 := Hm2.out.b3.frozen
  go_upto_region 26 with (fail)
  have hm2 := Hm2.out
  have hs2 := Hs2.out
  have hm3 := hm2.set 10 (.slice ptr1 t1.length cap1) (f' := { baZero 78 with fields := t1 }) (a' := { baNil with pf := ptr1, cf := cap1 }) ⟨hm2.lst.lo, hm2.lst.lc, hm2.lst.lr, HL1.out⟩ rfl
  have hT := BmI.tset (w2) w.heap.size 10 (.slice ptr1 t1.length cap1)
  have hs3 := hs2.touch hT (by omega) (fun hne e => by have := Hg.out ((fun x => HQ1.out.neB x) hne); omega)
  clear c3 f3 hT hm2 hs2
  have Hm3 := Lib.hid hm3
  have Hs3 := Lib.hid hs3
  clear hm3 hs3
  generalize (w2.setCell ⟨w.heap.size + 1, 10, none⟩ (.slice ptr1 t1.length cap1)) = w3 at *
  have c3 : ∀ i, w3.cell? ⟨w.heap.size + 1, i, none⟩ = (#[.int .u8 78, .int .u8 0, .string ⟨#[]⟩, .string ⟨#[]⟩, .string ⟨#[]⟩, .int .i64 0, .int .i64 0, .slice none 0 0, .slice none 0 0, .slice none 0 0, .slice ptr1 t1.length cap1] : Array Value)[i]? := Hm3.out.b3.cell
  have c2 : ∀ i, w3.cell? ⟨w.heap.size, i, none⟩ = (#[.int .u8 0, .int .u8 0, .string ⟨#[]⟩, .string ⟨#[]⟩, .string ⟨#[]⟩, .int .i64 0, .int .i64 0, .slice none 0 0, .slice none 0 0, .slice none 0 0, .slice none 0 0] : Array Value)[i]? := Hm3.out.b2.cell
  have f2 := Hm3.out.b2.frozen
  go_wp2_with fail
  have hT := setEl_touch w3 w.heap.size (.int .u8 78) (.int .u8 0) (.string ⟨#[]⟩) (.string ⟨#[]⟩) (.string ⟨#[]⟩) (.int .i64 0) (.int .i64 0) (.slice none 0 0) (.slice none 0 0) (.slice none 0 0) (.slice ptr1 t1.length cap1)
  have hbf := setEl_blk (.int .u8 78) (.int .u8 0) (.string ⟨#[]⟩) (.string ⟨#[]⟩) (.string ⟨#[]⟩) (.int .i64 0) (.int .i64 0) (.slice none 0 0) (.slice none 0 0) (.slice none 0 0) (.slice ptr1 t1.length cap1) Hm3.out.b2
  have hl := Hm3.out.lst.keep (S' := fun k => w.heap.size ≤ k) (Kept.touch hT (fun k hk hs => by have hs' : w.heap.size + 2 ≤ k := hs; exact ⟨by omega, by omega⟩))
  have hs := Hs3.out.touch hT (by omega) (fun hne e => by have := Hg.out ((fun x => HQ1.out.neB x) hne); omega)
  have ht := Hm3.out.tch.then hT (fun k hk e => by omega)
  have HH := Lib.hid (And.intro hl (And.intro hs ht))
  unfold setEl at hbf HH
  have hcf := hbf.cell
  clear hT hbf hl hs ht c2 c3 f2
  refine bodyPost_ret (v := .agg #[.int .u8 78, .int .u8 0, .string ⟨#[]⟩, .string ⟨#[]⟩, .string ⟨#[]⟩, .int .i64 0, .int .i64 0, .slice none 0 0, .slice none 0 0, .slice none 0 0, .slice ptr1 t1.length cap1]) (by simp [results, Tryz.results85, go_sem, hcf]) rfl ?_
  exact ⟨{ baZero 78 with fields := t1 }, { baNil with pf := ptr1, cf := cap1 }, L1, b1, rfl, HH.out.1, HH.out.2.1, readB_E (k := 78) (.inr rfl) HQ1.out, HH.out.2.2⟩

set_option maxRecDepth 100000 in
set_option maxHeartbeats 4000000 in
theorem brmsg_other (sb g : Nat) (L : List UInt8) (bad : Bool) (w : World) (h : RefS w sb g L bad) (hL : L.length ≤ 100000) (k : Int) (h0 : k ≠ 82) (h1 : k ≠ 83) (h2 : k ≠ 75) (h3 : k ≠ 90) (h4 : k ≠ 67) (h5 : k ≠ 68) (h6 : k ≠ 84) (h7 : k ≠ 116) (h8 : ¬ (k = 69 ∨ k = 78)) :
    Calls Tryz.prog 85 #[.pointer (some ⟨sb, 0, none⟩), .int .u8 k] w (brmsgR sb g L bad k w) := by
  have hsb := h.lt
  have HQ := Lib.hid (readB_other (L := L) (bad := bad) h0 h1 h2 h3 h4 h5 h6 h7 h8)
  have g82 : (k == 82) = false := by simp; omega
  have g83 : (k == 83) = false := by simp; omega
  have g75 : (k == 75) = false := by simp; omega
  have g90 : (k == 90) = false := by simp; omega
  have g67 : (k == 67) = false := by simp; omega
  have g68 : (k == 68) = false := by simp; omega
  have g84 : (k == 84) = false := by simp; omega
  have g116 : (k == 116) = false := by simp; omega
  have g69 : (k == 69) = false := by simp; omega
  have g78 : (k == 78) = false := by simp; omega
  clear h0 h1 h2 h3 h4 h5 h6 h7 h8
  have Hg := Lib.hid (fun e : L ≠ [] => h.ltgF e)
  have hm := BmI.start sb w w k (Touch.refl _ w) hsb
  have hs := h.touch (p := fun _ => False) (((Touch.refl _ w).alloc (.cells baZ 39)).alloc (.cells (baCells (baZero k) baNil) 39)) (fun e => e) (fun _ e => e)
  unfold baZ at hm hs
  rw [show baCells (baZero k) baNil = #[.int .u8 k, .int .u8 0, .string ⟨#[]⟩, .string ⟨#[]⟩, .string ⟨#[]⟩, .int .i64 0, .int .i64 0, .slice none 0 0, .slice none 0 0, .slice none 0 0, .slice none 0 0] from rfl] at hm hs
  have Hm1 := Lib.hid hm
  have Hs1 := Lib.hid hs
  clear h hm hs
  go_enter Tryz.func85, Tryz.ntmps85
  go_upto_region 2 with (fail)
  generalize (w.alloc (.cells #[.int .u8 0, .int .u8 0, .string ⟨#[]⟩, .string ⟨#[]⟩, .string ⟨#[]⟩, .int .i64 0, .int .i64 0, .slice none 0 0, .slice none 0 0, .slice none 0 0, .slice none 0 0] 39)).alloc (.cells #[.int .u8 k, .int .u8 0, .string ⟨#[]⟩, .string ⟨#[]⟩, .string ⟨#[]⟩, .int .i64 0, .int .i64 0, .slice none 0 0, .slice none 0 0, .slice none 0 0, .slice none 0 0] 39) = w1 at *
  have c3 : ∀ i, w1.cell? ⟨w.heap.size + 1, i, none⟩ = (#[.int .u8 k, .int .u8 0, .string ⟨#[]⟩, .string ⟨#[]⟩, .string ⟨#[]⟩, .int .i64 0, .int .i64 0, .slice none 0 0, .slice none 0 0, .slice none 0 0, .slice none 0 0] : Array Value)[i]? := Hm1.out.b3.cell
  have c2 : ∀ i, w1.cell? ⟨w.heap.size, i, none⟩ = (#[.int .u8 0, .int .u8 0, .string ⟨#[]⟩, .string ⟨#[]⟩, .string ⟨#[]⟩, .int .i64 0, .int .i64 0, .slice none 0 0, .slice none 0 0, .slice none 0 0, .slice none 0 0] : Array Value)[i]? := Hm1.out.b2.cell
  have f2 := Hm1.out.b2.frozen
  go_wp2_with fail
  have hT := setEl_touch w1 w.heap.size (.int .u8 k) (.int .u8 0) (.string ⟨#[]⟩) (.string ⟨#[]⟩) (.string ⟨#[]⟩) (.int .i64 0) (.int .i64 0) (.slice none 0 0) (.slice none 0 0) (.slice none 0 0) (.slice none 0 0)
  have hbf := setEl_blk (.int .u8 k) (.int .u8 0) (.string ⟨#[]⟩) (.string ⟨#[]⟩) (.string ⟨#[]⟩) (.int .i64 0) (.int .i64 0) (.slice none 0 0) (.slice none 0 0) (.slice none 0 0) (.slice none 0 0) Hm1.out.b2
  have hl := Hm1.out.lst.keep (S' := fun k => w.heap.size ≤ k) (Kept.touch hT (fun k hk hs => by have hs' : w.heap.size + 2 ≤ k := hs; exact ⟨by omega, by omega⟩))
  have hs := Hs1.out.touch hT (by omega) (fun hne e => by have := Hg.out ((fun x => x) hne); omega)
  have ht := Hm1.out.tch.then hT (fun k hk e => by omega)
  have HH := Lib.hid (And.intro hl (And.intro hs ht))
  unfold setEl at hbf HH
  have hcf := hbf.cell
  clear hT hbf hl hs ht c2 c3 f2
  refine bodyPost_ret (v := .agg #[.int .u8 k, .int .u8 0, .string ⟨#[]⟩, .string ⟨#[]⟩, .string ⟨#[]⟩, .int .i64 0, .int .i64 0, .slice none 0 0, .slice none 0 0, .slice none 0 0, .slice none 0 0]) (by simp [results, Tryz.results85, go_sem, hcf]) rfl ?_
  exact ⟨baZero k, baNil, L, bad, rfl, HH.out.1, HH.out.2.1, HQ.out, HH.out.2.2⟩

set_option maxRecDepth 100000 in
set_option maxHeartbeats 4000000 in
theorem brmsg_R (sb g : Nat) (L : List UInt8) (bad : Bool) (w : World) (h : RefS w sb g L bad) (hL : L.length ≤ 100000) :
    Calls Tryz.prog 85 #[.pointer (some ⟨sb, 0, none⟩), .int .u8 82] w (brmsgR sb g L bad 82 w) := by
  have hsb := h.lt
  have Hg := Lib.hid (fun e : L ≠ [] => h.ltgF e)
  have hm := BmI.start sb w w 82 (Touch.refl _ w) hsb
  have hs := h.touch (p := fun _ => False) (((Touch.refl _ w).alloc (.cells baZ 39)).alloc (.cells (baCells (baZero 82) baNil) 39)) (fun e => e) (fun _ e => e)
  unfold baZ at hm hs
  rw [show baCells (baZero 82) baNil = #[.int .u8 82, .int .u8 0, .string ⟨#[]⟩, .string ⟨#[]⟩, .string ⟨#[]⟩, .int .i64 0, .int .i64 0, .slice none 0 0, .slice none 0 0, .slice none 0 0, .slice none 0 0] from rfl] at hm hs
  have Hm1 := Lib.hid hm
  have Hs1 := Lib.hid hs
  clear h hm hs
  go_enter Tryz.func85, Tryz.ntmps85
  go_upto_region 2 with (fail)
  generalize (w.alloc (.cells #[.int .u8 0, .int .u8 0, .string ⟨#[]⟩, .string ⟨#[]⟩, .string ⟨#[]⟩, .int .i64 0, .int .i64 0, .slice none 0 0, .slice none 0 0, .slice none 0 0, .slice none 0 0] 39)).alloc (.cells #[.int .u8 82, .int .u8 0, .string ⟨#[]⟩, .string ⟨#[]⟩, .string ⟨#[]⟩, .int .i64 0, .int .i64 0, .slice none 0 0, .slice none 0 0, .slice none 0 0, .slice none 0 0] 39) = w1 at *
  obtain ⟨t1, L1, b1, hq, ht, hc⟩ := brNum_o Hs1.out 4 4 (by decide)
  have HQ1 := Lib.hid hq
  have HC := Lib.hid hc
  clear hq hc ht
  go_wp2_with fail
  refine HC.out.mono ?_
  rintro e w2 ⟨rfl, hs, hT⟩
  have hz2 := hT.size
  have Hm2 := Lib.hid (Hm1.out.step hT)
  have Hs2 := Lib.hid hs
  clear hs hT HC Hm1 Hs1
  by_cases hx : t1 = 0
  · have HQ := Lib.hid (readB_R0 HQ1.out hx)
    subst hx
    have c3 : ∀ i, w2.cell? ⟨w.heap.size + 1, i, none⟩ = (#[.int .u8 82, .int .u8 0, .string ⟨#[]⟩, .string ⟨#[]⟩, .string ⟨#[]⟩, .int .i64 0, .int .i64 0, .slice none 0 0, .slice none 0 0, .slice none 0 0, .slice none 0 0] : Array Value)[i]? := Hm2.out.b3.cell
    have c2 : ∀ i, w2.cell? ⟨w.heap.size, i, none⟩ = (#[.int .u8 0, .int .u8 0, .string ⟨#[]⟩, .string ⟨#[]⟩, .string ⟨#[]⟩, .int .i64 0, .int .i64 0, .slice none 0 0, .slice none 0 0, .slice none 0 0, .slice none 0 0] : Array Value)[i]? := Hm2.out.b2.cell
    have f2 := Hm2.out.b2.frozen
    go_wp2_with fail
    have hT := setEl_touch w2 w.heap.size (.int .u8 82) (.int .u8 0) (.string ⟨#[]⟩) (.string ⟨#[]⟩) (.string ⟨#[]⟩) (.int .i64 0) (.int .i64 0) (.slice none 0 0) (.slice none 0 0) (.slice none 0 0) (.slice none 0 0)
    have hbf := setEl_blk (.int .u8 82) (.int .u8 0) (.string ⟨#[]⟩) (.string ⟨#[]⟩) (.string ⟨#[]⟩) (.int .i64 0) (.int .i64 0) (.slice none 0 0) (.slice none 0 0) (.slice none 0 0) (.slice none 0 0) Hm2.out.b2
    have hl := Hm2.out.lst.keep (S' := fun k => w.heap.size ≤ k) (Kept.touch hT (fun k hk hs => by have hs' : w.heap.size + 2 ≤ k := hs; exact ⟨by omega, by omega⟩))
    have hs := Hs2.out.touch hT (by omega) (fun hne e => by have := Hg.out ((fun x => HQ1.out.neB x) hne); omega)
    have ht := Hm2.out.tch.then hT (fun k hk e => by omega)
    have HH := Lib.hid (And.intro hl (And.intro hs ht))
    unfold setEl at hbf HH
    have hcf := hbf.cell
    clear hT hbf hl hs ht c2 c3 f2
    refine bodyPost_ret (v := .agg #[.int .u8 82, .int .u8 0, .string ⟨#[]⟩, .string ⟨#[]⟩, .string ⟨#[]⟩, .int .i64 0, .int .i64 0, .slice none 0 0, .slice none 0 0, .slice none 0 0, .slice none 0 0]) (by simp [results, Tryz.results85, go_sem, hcf]) rfl ?_
    exact ⟨baZero 82, baNil, L1, b1, rfl, HH.out.1, HH.out.2.1, HQ.out, HH.out.2.2⟩
  · have HQ := Lib.hid (readB_R1 HQ1.out hx)
    have gx : (t1 != 0) = true := by simpa using hx
    have hs := Hs2.out
    obtain ⟨pq, cq, hsb2⟩ : ∃ p c, Blk w2 sb 161 #[.slice p L1.length c, .bool b1] := by obtain ⟨p, c, hb, _⟩ := hs; exact ⟨p, c, hb⟩
    have cs := hsb2.cell
    have fs := hsb2.frozen
    clear hs hsb2
    go_upto_region 26 with (fail)
    have hT : Touch (fun k => k = sb) w2 (w2.setCell ⟨sb, 1, none⟩ (.bool true)) := (Touch.refl (fun k => k = sb) w2).setCell (x := ⟨sb, 1, none⟩) (fun _ => rfl) _
    have Hm3 := Lib.hid (Hm2.out.step hT)
    have Hs3 := Lib.hid Hs2.out.fail
    clear hT Hm2 Hs2 cs fs hx
    generalize w2.setCell ⟨sb, 1, none⟩ (.bool true) = w3 at *
    have c3 : ∀ i, w3.cell? ⟨w.heap.size + 1, i, none⟩ = (#[.int .u8 82, .int .u8 0, .string ⟨#[]⟩, .string ⟨#[]⟩, .string ⟨#[]⟩, .int .i64 0, .int .i64 0, .slice none 0 0, .slice none 0 0, .slice none 0 0, .slice none 0 0] : Array Value)[i]? := Hm3.out.b3.cell
    have c2 : ∀ i, w3.cell? ⟨w.heap.size, i, none⟩ = (#[.int .u8 0, .int .u8 0, .string ⟨#[]⟩, .string ⟨#[]⟩, .string ⟨#[]⟩, .int .i64 0, .int .i64 0, .slice none 0 0, .slice none 0 0, .slice none 0 0, .slice none 0 0] : Array Value)[i]? := Hm3.out.b2.cell
    have f2 := Hm3.out.b2.frozen
    go_wp2_with fail
    have hT := setEl_touch w3 w.heap.size (.int .u8 82) (.int .u8 0) (.string ⟨#[]⟩) (.string ⟨#[]⟩) (.string ⟨#[]⟩) (.int .i64 0) (.int .i64 0) (.slice none 0 0) (.slice none 0 0) (.slice none 0 0) (.slice none 0 0)
    have hbf := setEl_blk (.int .u8 82) (.int .u8 0) (.string ⟨#[]⟩) (.string ⟨#[]⟩) (.string ⟨#[]⟩) (.int .i64 0) (.int .i64 0) (.slice none 0 0) (.slice none 0 0) (.slice none 0 0) (.slice none 0 0) Hm3.out.b2
    have hl := Hm3.out.lst.keep (S' := fun k => w.heap.size ≤ k) (Kept.touch hT (fun k hk hs => by have hs' : w.heap.size + 2 ≤ k := hs; exact ⟨by omega, by omega⟩))
    have hs := Hs3.out.touch hT (by omega) (fun hne e => by have := Hg.out ((fun x => HQ1.out.neB x) hne); omega)
    have ht := Hm3.out.tch.then hT (fun k hk e => by omega)
    have HH := Lib.hid (And.intro hl (And.intro hs ht))
    unfold setEl at hbf HH
    have hcf := hbf.cell
    clear hT hbf hl hs ht c2 c3 f2
    refine bodyPost_ret (v := .agg #[.int .u8 82, .int .u8 0, .string ⟨#[]⟩, .string ⟨#[]⟩, .string ⟨#[]⟩, .int .i64 0, .int .i64 0, .slice none 0 0, .slice none 0 0, .slice none 0 0, .slice none 0 0]) (by simp [results, Tryz.results85, go_sem, hcf]) rfl ?_
    exact ⟨baZero 82, baNil, L1, true, rfl, HH.out.1, HH.out.2.1, HQ.out, HH.out.2.2⟩

end Go.Proofs.YthhebfknikfleaaGreat
