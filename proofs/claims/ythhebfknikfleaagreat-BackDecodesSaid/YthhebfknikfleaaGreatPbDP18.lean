/-
  Ground: BaU, BbC, BbD, BbE.
-/
import Derived.Test.YthhebfknikfleaaGreatPbDP17
import Derived.Test.YthhebfknikfleaaGreatPbDP8
import Derived.Test.YthhebfknikfleaaGreatPbDXBaQ
import Derived.Test.YthhebfknikfleaaGreatPbDP3
import Derived.Test.YthhebfknikfleaaGreatPbDP1
import Derived.Test.YthhebfknikfleaaGreatPbDP5
import Derived.Deep.RegionHeld3
/-
  Messages of servers (layer 7): a message that is being read; a Z is read; Decode of a Z; awake.
-/
namespace Go.Proofs.YthhebfknikfleaaGreat
open Go.RowKit
set_option linter.unusedVariables false
set_option linter.unusedSimpArgs false

/-- The result's block n, the message's block behind it, its lists; the scan's block is all that is touched. -/
structure BmI (sb n : Nat) (w0 w : World) (f : BaV) (a : BaP) : Prop where
  lt : sb < w0.heap.size
  hn : w0.heap.size ≤ n
  b2 : Blk w n 39 baZ
  b3 : Blk w (n + 1) 39 (baCells f a)
  lst : BaL (fun k => n + 2 ≤ k) w f a
  tch : Touch (fun k => k = sb) w0 w
section
variable {sb n : Nat} {w0 w w' : World} {f f' : BaV} {a a' : BaP}
theorem BmI.step (h : BmI sb n w0 w f a) (hT : Touch (fun k => k = sb) w w') : BmI sb n w0 w' f a := by
  have h1 := h.lt
  have h2 := h.hn
  exact ⟨h1, h2, hT.blk h.b2 (by omega), hT.blk h.b3 (by omega), h.lst.keep (Kept.touch hT (fun k hk hs => ⟨hs, fun e => by have hs' : n + 2 ≤ k := hs; omega⟩)), h.tch.trans hT⟩
theorem BmI.tset (w : World) (n i : Nat) (u : Value) : Touch (fun k => k = n + 1) w (w.setCell ⟨n + 1, i, none⟩ u) :=
  (Touch.refl (fun k => k = n + 1) w).setCell (x := ⟨n + 1, i, none⟩) (fun _ => rfl) _
theorem BmI.set (h : BmI sb n w0 w f a) (i : Nat) (u : Value) (hl : BaL (fun k => n + 2 ≤ k) w f' a') (hc : (baCells f a).setIfInBounds i u = baCells f' a') : BmI sb n w0 (w.setCell ⟨n + 1, i, none⟩ u) f' a' := by
  have h1 := h.lt
  have h2 := h.hn
  have hT := BmI.tset w n i u
  refine ⟨h1, h2, hT.blk h.b2 (by omega), ?_, hl.keep (Kept.touch hT (fun k hk hs => ⟨hs, fun e => by have hs' : n + 2 ≤ k := hs; omega⟩)), h.tch.then hT (fun k hk e => by omega)⟩
  rw [← hc]
  exact h.b3.set_ i u
end
theorem BaL.nil (S : Nat → Prop) (w : World) (x : BaV) (ho : x.oids = []) (hc : x.cols = []) (hr : x.row = []) (hf : x.fields = []) : BaL S w x baNil := by
  refine ⟨?_, ?_, ?_, ?_⟩
  · rw [ho]; exact SliceS.empty none 0 (by simp [maxLen])
  · rw [hc]; exact SliceS.empty none 0 (by simp [maxLen])
  · rw [hr]; exact SliceS.empty none 0 (by simp [maxLen])
  · rw [hf]; exact SliceS.empty none 0 (by simp [maxLen])
theorem BaL.zero (S : Nat → Prop) (w : World) (k : Int) : BaL S w (baZero k) baNil := BaL.nil S w _ rfl rfl rfl rfl

/-- The start: the result's block, the message's. -/
theorem BmI.start (sb : Nat) (w0 w : World) (k : Int) (hT : Touch (fun k => k = sb) w0 w) (hsb : sb < w0.heap.size) :
    BmI sb w.heap.size w0 ((w.alloc (.cells baZ 39)).alloc (.cells (baCells (baZero k) baNil) 39)) (baZero k) baNil := by
  have e1 : (w.alloc (.cells baZ 39)).heap.size = w.heap.size + 1 := by simp
  refine ⟨hsb, hT.size, (Blk.new _ _ _).alloc _, ?_, BaL.zero _ _ _, (hT.alloc _).alloc _⟩
  have := Blk.new (w.alloc (.cells baZ 39)) 39 (baCells (baZero k) baNil)
  rw [e1] at this
  exact this

/-- A Z of no transaction. -/
def zB : BaV := { baZero 90 with status := 73 }

set_option maxRecDepth 100000 in
set_option maxHeartbeats 4000000 in
theorem bmsg_Z (sb g : Nat) (w : World) (h : ScanO w sb g [73] false) :
    Calls Tryz.prog 82 #[.agg #[.pointer (some ⟨sb, 0, none⟩)], .int .u8 90] w fun e w' => e = .returned (.tuple #[.agg #[.int .u8 90, .int .u8 73, .string ⟨#[]⟩, .string ⟨#[]⟩, .string ⟨#[]⟩, .int .i64 0, .int .i64 0, .slice none 0 0, .slice none 0 0, .slice none 0 0, .slice none 0 0], .bool true]) ∧ ScanO w' sb g [] false ∧ Touch (fun k => k = sb) w w' := by
  have hsb := h.lt
  have hA : Below w.heap.size w (w.alloc (.cells #[.pointer (some ⟨sb, 0, none⟩)] 124)) := (Below.refl _ _).alloc (Nat.le_refl _) _
  have hm := BmI.start sb w (w.alloc (.cells #[.pointer (some ⟨sb, 0, none⟩)] 124)) 90 (Touch.of_below hA) hsb
  rw [show (w.alloc (.cells #[.pointer (some ⟨sb, 0, none⟩)] 124)).heap.size = w.heap.size + 1 by simp] at hm
  have hk := ((Blk.new w 124 #[.pointer (some ⟨sb, 0, none⟩)]).alloc (.cells baZ 39)).alloc (.cells (baCells (baZero 90) baNil) 39)
  have hs := h.touch (p := fun _ => False) ((((Touch.refl _ w).alloc (.cells #[.pointer (some ⟨sb, 0, none⟩)] 124)).alloc (.cells baZ 39)).alloc (.cells (baCells (baZero 90) baNil) 39)) (fun e => e) (fun _ e => e)
  unfold baZ at hm hk hs
  rw [show baCells (baZero 90) baNil = #[.int .u8 90, .int .u8 0, .string ⟨#[]⟩, .string ⟨#[]⟩, .string ⟨#[]⟩, .int .i64 0, .int .i64 0, .slice none 0 0, .slice none 0 0, .slice none 0 0, .slice none 0 0] from rfl] at hm hk hs
  have Hm1 := Lib.hid hm
  have HK1 := Lib.hid hk
  have Hs1 := Lib.hid hs
  clear h hA hm hk hs
  go_enter Tryz.func82, Tryz.ntmps82
  go_upto_region 2 with (fail)
  generalize ((w.alloc (.cells #[.pointer (some ⟨sb, 0, none⟩)] 124)).alloc (.cells #[.int .u8 0, .int .u8 0, .string ⟨#[]⟩, .string ⟨#[]⟩, .string ⟨#[]⟩, .int .i64 0, .int .i64 0, .slice none 0 0, .slice none 0 0, .slice none 0 0, .slice none 0 0] 39)).alloc (.cells #[.int .u8 90, .int .u8 0, .string ⟨#[]⟩, .string ⟨#[]⟩, .string ⟨#[]⟩, .int .i64 0, .int .i64 0, .slice none 0 0, .slice none 0 0, .slice none 0 0, .slice none 0 0] 39) = w1 at *
  have c1 : ∀ i, w1.cell? ⟨w.heap.size, i, none⟩ = (#[.pointer (some ⟨sb, 0, none⟩)] : Array Value)[i]? := HK1.out.cell
  have hc := scanNum_yes sb g [73] 1 w1 Hs1.out rfl (by simp)
  rw [show be (List.take 1 [(73 : UInt8)]) = 73 from by decide] at hc
  have HC := Lib.hid hc
  clear hc
  have hw73 : IntKind.u8.wrap 73 = 73 := by decide
  go_upto_region 24 with (go_at_call 110; refine HC.out.mono ?_; rintro e w2 ⟨rfl, hs, hT⟩; have hz2 := hT.size; have Hm2 := Lib.hid (Hm1.out.step hT); have HK2 := Lib.hid (hT.blk HK1.out (by omega)); have Hs2 : Hid (ScanO w2 sb g [] false) := Lib.hid hs; have c3 : ∀ i, w2.cell? ⟨w.heap.size + 1 + 1, i, none⟩ = (#[.int .u8 90, .int .u8 0, .string ⟨#[]⟩, .string ⟨#[]⟩, .string ⟨#[]⟩, .int .i64 0, .int .i64 0, .slice none 0 0, .slice none 0 0, .slice none 0 0, .slice none 0 0] : Array Value)[i]? := Hm2.out.b3.cell; have f3 := Hm2.out.b3.frozen; clear hs hT HC c1 Hm1 HK1 Hs1)
  have hm := Hm2.out.set 1 (.int .u8 73) (f' := zB) (a' := baNil) (BaL.nil _ _ _ rfl rfl rfl rfl) rfl
  have hT := BmI.tset w2 (w.heap.size + 1) 1 (.int .u8 73)
  have hs := Hs2.out.touch hT (by omega) (fun hne e => by exact absurd rfl hne)
  have Hm3 := Lib.hid hm
  have Hs3 := Lib.hid hs
  clear hm hT hs Hm2 HK2 Hs2 c3 f3
  generalize w2.setCell ⟨w.heap.size + 1 + 1, 1, none⟩ (.int .u8 73) = w3 at *
  have c3 : ∀ i, w3.cell? ⟨w.heap.size + 1 + 1, i, none⟩ = (#[.int .u8 90, .int .u8 73, .string ⟨#[]⟩, .string ⟨#[]⟩, .string ⟨#[]⟩, .int .i64 0, .int .i64 0, .slice none 0 0, .slice none 0 0, .slice none 0 0, .slice none 0 0] : Array Value)[i]? := Hm3.out.b3.cell
  have c2 : ∀ i, w3.cell? ⟨w.heap.size + 1, i, none⟩ = (#[.int .u8 0, .int .u8 0, .string ⟨#[]⟩, .string ⟨#[]⟩, .string ⟨#[]⟩, .int .i64 0, .int .i64 0, .slice none 0 0, .slice none 0 0, .slice none 0 0, .slice none 0 0] : Array Value)[i]? := Hm3.out.b2.cell
  have f2 := Hm3.out.b2.frozen
  go_wp2_with fail
  have hT := setEl_touch w3 (w.heap.size + 1) (.int .u8 90) (.int .u8 73) (.string ⟨#[]⟩) (.string ⟨#[]⟩) (.string ⟨#[]⟩) (.int .i64 0) (.int .i64 0) (.slice none 0 0) (.slice none 0 0) (.slice none 0 0) (.slice none 0 0)
  have hbf := setEl_blk (.int .u8 90) (.int .u8 73) (.string ⟨#[]⟩) (.string ⟨#[]⟩) (.string ⟨#[]⟩) (.int .i64 0) (.int .i64 0) (.slice none 0 0) (.slice none 0 0) (.slice none 0 0) (.slice none 0 0) Hm3.out.b2
  have hs := Hs3.out.touch hT (by omega) (fun hne e => absurd rfl hne)
  have ht := Hm3.out.tch.then hT (fun k hk e => by omega)
  have HH := Lib.hid (And.intro hs ht)
  unfold setEl at hbf HH
  have hcf := hbf.cell
  clear hT hbf hs ht c2 c3 f2
  refine bodyPost_ret (v := .tuple #[.agg #[.int .u8 90, .int .u8 73, .string ⟨#[]⟩, .string ⟨#[]⟩, .string ⟨#[]⟩, .int .i64 0, .int .i64 0, .slice none 0 0, .slice none 0 0, .slice none 0 0, .slice none 0 0], .bool true]) (by simp [results, Tryz.results82, go_sem, hcf]) rfl ?_
  exact ⟨rfl, HH.out.1, HH.out.2⟩

/-- The message's block, the result's block. -/
structure BdI (w0 w : World) (c : Array Value) : Prop where
  m : Blk w w0.heap.size 42 c
  r : Blk w (w0.heap.size + 1) 39 baZ
  bel : Below w0.heap.size w0 w
section
variable {w0 w w' : World} {c : Array Value} {P : Nat → Prop}
theorem BdI.step (h : BdI w0 w c) (hT : Touch P w w') (hP : ∀ j, P j → w0.heap.size + 2 ≤ j) : BdI w0 w' c :=
  ⟨hT.blk h.m (fun e => by have := hP _ e; omega), hT.blk h.r (fun e => by have := hP _ e; omega), h.bel.trans (hT.below h.bel.size (fun j e => by have := hP _ e; omega))⟩
theorem BdI.bstep (h : BdI w0 w c) (hb : Below w.heap.size w w') : BdI w0 w' c := h.step (Touch.of_below (p := fun _ => False) hb) (fun _ e => e.elim)
theorem BdI.start (w : World) (c : Array Value) : BdI w ((w.alloc (.cells c 42)).alloc (.cells baZ 39)) c := by
  have e1 : (w.alloc (.cells c 42)).heap.size = w.heap.size + 1 := by simp
  refine ⟨(Blk.new _ _ _).alloc _, ?_, (((Below.refl _ _).alloc (Nat.le_refl _) _).alloc (by simp) _)⟩
  have := Blk.new (w.alloc (.cells c 42)) 39 baZ
  rw [e1] at this
  exact this
end

theorem zB_ok : checkB zB = 0 := by decide +kernel

set_option maxRecDepth 100000 in
set_option maxHeartbeats 4000000 in
theorem bdec_Z (p : Option Addr) (cap : Nat) (w : World) (hb : BytesIn w p [73]) :
    Calls Tryz.prog 25 #[.agg #[.int .u8 90, .slice p 1 cap]] w fun e w' => e = .returned (.tuple #[.agg #[.int .u8 90, .int .u8 73, .string ⟨#[]⟩, .string ⟨#[]⟩, .string ⟨#[]⟩, .int .i64 0, .int .i64 0, .slice none 0 0, .slice none 0 0, .slice none 0 0, .slice none 0 0], .int .i64 0]) ∧ Below w.heap.size w w' := by
  have H1 := Lib.hid (BdI.start w #[.int .u8 90, .slice p 1 cap])
  have HK := Lib.hid (fun w0 : World => bknown_any 90 (by decide) (by decide) w0)
  rw [show servK 90 = true from rfl] at HK
  have Hb1 : Hid (BytesIn ((w.alloc (.cells #[.int .u8 90, .slice p 1 cap] 42)).alloc (.cells baZ 39)) p [73]) := Lib.hid ((((Touch.refl (fun _ => False) w).alloc _).alloc _).bytesIn hb (fun _ _ _ e => e))
  unfold baZ at H1 Hb1
  clear hb
  go_enter Tryz.func25, Tryz.ntmps25
  go_upto_region 1 with (fail)
  generalize (w.alloc (.cells #[.int .u8 90, .slice p 1 cap] 42)).alloc (.cells #[.int .u8 0, .int .u8 0, .string ⟨#[]⟩, .string ⟨#[]⟩, .string ⟨#[]⟩, .int .i64 0, .int .i64 0, .slice none 0 0, .slice none 0 0, .slice none 0 0, .slice none 0 0] 39) = w1 at *
  have c1 := H1.out.m.cell
  go_wp2_with fail
  refine (HK.out w1).mono ?_
  rintro e w2 ⟨rfl, hb⟩
  have H2 := Lib.hid (H1.out.bstep hb)
  have Hb2 : Hid (BytesIn w2 p [73]) := Lib.hid ((Touch.of_below (p := fun _ => False) hb).bytesIn Hb1.out (fun _ _ _ e => e))
  clear hb c1 Hb1 H1 HK
  have c2 := H2.out.m.cell
  have HN := Lib.hid (scanNew_any p [73] cap w2 (by simp) Hb2.out)
  go_upto_region 4 with (go_at_call 81; refine HN.out.mono ?_; rintro e w3 ⟨sb, g, rfl, hs, hsb, hg, hT⟩; have H3 := Lib.hid (H2.out.step hT (fun _ e => e.elim)); have Hs3 := Lib.hid hs; have hz3 := hT.size; clear hs hT HN c2)
  have hw2 := H2.out.r.lt
  have hal : Below w3.heap.size w3 (w3.alloc (.cells #[.pointer (some ⟨sb, 0, none⟩)] 124)) := (Below.refl _ _).alloc (Nat.le_refl _) _
  have H4 := Lib.hid (H3.out.bstep hal)
  have Hs4 := Lib.hid (Hs3.out.touch (Touch.of_below (p := fun _ => False) hal) (fun e => e) (fun _ e => e))
  have Hr4 : Hid (Blk (w3.alloc (.cells #[.pointer (some ⟨sb, 0, none⟩)] 124)) w3.heap.size 124 #[.pointer (some ⟨sb, 0, none⟩)]) := Lib.hid (Blk.new _ _ _)
  have hz4 : w3.heap.size < (w3.alloc (.cells #[.pointer (some ⟨sb, 0, none⟩)] 124)).heap.size := by simp
  have hsl := Hs3.out.lt
  clear hal H3 Hs3 H2 Hb2
  generalize w3.alloc (.cells #[.pointer (some ⟨sb, 0, none⟩)] 124) = w4 at *
  generalize w3.heap.size = rb at *
  have c4 := H4.out.m.cell
  have r4 := Hr4.out.cell
  have HM := Lib.hid (bmsg_Z sb g w4 Hs4.out)
  go_upto_region 5 with (go_at_call 82; refine HM.out.mono ?_; rintro e w5 ⟨rfl, hs, hT⟩; have H5 := Lib.hid (H4.out.step hT (fun j e => by omega)); have Hs5 := Lib.hid hs; have Hr5 := Lib.hid (hT.blk Hr4.out (by omega)); have hz5 := hT.size; clear hs hT HM c4 r4 H4 Hs4 Hr4)
  have hw5 := H5.out.r.lt
  have hal : Below w5.heap.size w5 (w5.alloc (.cells #[.int .u8 90, .int .u8 73, .string ⟨#[]⟩, .string ⟨#[]⟩, .string ⟨#[]⟩, .int .i64 0, .int .i64 0, .slice none 0 0, .slice none 0 0, .slice none 0 0, .slice none 0 0] 39)) := (Below.refl _ _).alloc (Nat.le_refl _) _
  have H6 := Lib.hid (H5.out.bstep hal)
  have Hs6 := Lib.hid (Hs5.out.touch (Touch.of_below (p := fun _ => False) hal) (fun e => e) (fun _ e => e))
  have Hr6 := Lib.hid (Hr5.out.below hal Hr5.out.lt)
  have Hf6 : Hid (Blk (w5.alloc (.cells #[.int .u8 90, .int .u8 73, .string ⟨#[]⟩, .string ⟨#[]⟩, .string ⟨#[]⟩, .int .i64 0, .int .i64 0, .slice none 0 0, .slice none 0 0, .slice none 0 0, .slice none 0 0] 39)) w5.heap.size 39 #[.int .u8 90, .int .u8 73, .string ⟨#[]⟩, .string ⟨#[]⟩, .string ⟨#[]⟩, .int .i64 0, .int .i64 0, .slice none 0 0, .slice none 0 0, .slice none 0 0, .slice none 0 0]) := Lib.hid (Blk.new _ _ _)
  have hz6 : w5.heap.size < (w5.alloc (.cells #[.int .u8 90, .int .u8 73, .string ⟨#[]⟩, .string ⟨#[]⟩, .string ⟨#[]⟩, .int .i64 0, .int .i64 0, .slice none 0 0, .slice none 0 0, .slice none 0 0, .slice none 0 0] 39)).heap.size := by simp
  clear hal H5 Hs5 Hr5
  generalize w5.alloc (.cells #[.int .u8 90, .int .u8 73, .string ⟨#[]⟩, .string ⟨#[]⟩, .string ⟨#[]⟩, .int .i64 0, .int .i64 0, .slice none 0 0, .slice none 0 0, .slice none 0 0, .slice none 0 0] 39) = w6 at *
  generalize w5.heap.size = gf at *
  have r6 := Hr6.out.cell
  have f6 := Hf6.out.cell
  have HD := Lib.hid (scanDone_any sb g [] false w6 Hs6.out)
  rw [show (!false && ([] : List UInt8).isEmpty) = true from rfl] at HD
  have HC := Lib.hid (bcheck_any (fun _ => True) zB baNil w6 (BaL.nil _ _ _ rfl rfl rfl rfl) ⟨by decide, by decide, by decide, by decide⟩)
  rw [zB_ok, show baArg zB baNil = .agg #[.int .u8 90, .int .u8 73, .string ⟨#[]⟩, .string ⟨#[]⟩, .string ⟨#[]⟩, .int .i64 0, .int .i64 0, .slice none 0 0, .slice none 0 0, .slice none 0 0, .slice none 0 0] from rfl] at HC
  go_upto_region 7 with (first | (go_at_call 83; refine HD.out.mono ?_; rintro e w7 ⟨rfl, rfl⟩) | (go_at_call 19; refine HC.out.mono ?_; rintro e w7 ⟨rfl, hb⟩))
  have H7 := Lib.hid (H6.out.bstep hb)
  have Hf7 := Lib.hid (Hf6.out.below hb Hf6.out.lt)
  clear hb r6 f6 H6 Hs6 Hr6 Hf6 HD HC
  have c2 : ∀ i, w7.cell? ⟨w.heap.size + 1, i, none⟩ = (#[.int .u8 0, .int .u8 0, .string ⟨#[]⟩, .string ⟨#[]⟩, .string ⟨#[]⟩, .int .i64 0, .int .i64 0, .slice none 0 0, .slice none 0 0, .slice none 0 0, .slice none 0 0] : Array Value)[i]? := H7.out.r.cell
  have f2 := H7.out.r.frozen
  have f7 := Hf7.out.cell
  go_wp2_with fail
  have hT := setEl_touch w7 (w.heap.size + 1) (.int .u8 90) (.int .u8 73) (.string ⟨#[]⟩) (.string ⟨#[]⟩) (.string ⟨#[]⟩) (.int .i64 0) (.int .i64 0) (.slice none 0 0) (.slice none 0 0) (.slice none 0 0) (.slice none 0 0)
  have hbf := setEl_blk (.int .u8 90) (.int .u8 73) (.string ⟨#[]⟩) (.string ⟨#[]⟩) (.string ⟨#[]⟩) (.int .i64 0) (.int .i64 0) (.slice none 0 0) (.slice none 0 0) (.slice none 0 0) (.slice none 0 0) H7.out.r
  have HH := Lib.hid (H7.out.bel.trans (hT.below H7.out.bel.size (fun j e => by omega)))
  unfold setEl at hbf HH
  have hcf := hbf.cell
  clear hT hbf c2 f2 f7
  refine bodyPost_ret (v := .tuple #[.agg #[.int .u8 90, .int .u8 73, .string ⟨#[]⟩, .string ⟨#[]⟩, .string ⟨#[]⟩, .int .i64 0, .int .i64 0, .slice none 0 0, .slice none 0 0, .slice none 0 0, .slice none 0 0], .int .i64 0]) (by simp [results, Tryz.results25, go_sem, hcf]) rfl ?_
  exact ⟨rfl, HH.out⟩

theorem zB_body : bodyB zB = [73] := by decide +kernel
theorem zB_bytes : bytesB [zB] = [90, 0, 0, 0, 5, 73] := by decide +kernel
theorem zB_small : SmallB zB := ⟨by decide +kernel, by decide +kernel, by decide +kernel, by decide +kernel, by decide +kernel, (fun c hc => by cases hc), by decide +kernel, (fun c hc => by cases hc), by decide +kernel, (fun c hc => by cases hc)⟩
theorem zB_short : ShortB zB := ⟨zB_small, by rw [zB_body]; decide⟩
theorem zB_bas (S : Nat → Prop) (w : World) : BaS S w (#[.int .u8 90, .int .u8 73, .string ⟨#[]⟩, .string ⟨#[]⟩, .string ⟨#[]⟩, .int .i64 0, .int .i64 0, .slice none 0 0, .slice none 0 0, .slice none 0 0, .slice none 0 0] : Array Value).toList zB :=
  ⟨baNil, rfl, BaL.nil _ _ _ rfl rfl rfl rfl, by decide, by decide, by decide, by decide⟩

set_option maxRecDepth 100000 in
set_option maxHeartbeats 4000000 in
theorem baAwake_any (w : World) : Calls Tryz.prog 16 #[] w fun e w' => e = .returned (.bool true) ∧ Below w.heap.size w w' := by
  have Hev : Hid (encB zB = (90, [73], 0)) := Lib.hid (by unfold encB; rw [if_pos zB_ok, zB_body]; rfl)
  have Hbd := Lib.hid (benc_any (fun _ => True) zB baNil w (BaL.nil _ _ _ rfl rfl rfl rfl) ⟨by decide, by decide, by decide, by decide⟩ zB_small)
  unfold EncB at Hbd
  rw [Hev.out, show baArg zB baNil = .agg #[.int .u8 90, .int .u8 73, .string ⟨#[]⟩, .string ⟨#[]⟩, .string ⟨#[]⟩, .int .i64 0, .int .i64 0, .slice none 0 0, .slice none 0 0, .slice none 0 0, .slice none 0 0] from rfl] at Hbd
  dsimp only at Hbd
  have HDc := Lib.hid (fun (p : Option Addr) (c : Nat) (w : World) hb => bdec_Z p c w hb)
  have HBy := Lib.hid (fun w0 : World => bbytes_any _ _ _ 1 [zB] _ (SliceS.new1 (S := fun _ => False) BaS.still w0 39 #[.int .u8 90, .int .u8 73, .string ⟨#[]⟩, .string ⟨#[]⟩, .string ⟨#[]⟩, .int .i64 0, .int .i64 0, .slice none 0 0, .slice none 0 0, .slice none 0 0, .slice none 0 0] zB (zB_bas _ _) rfl (S' := fun _ => True) (fun _ _ h => h.elim) trivial) (by show 1 ≤ 1000; omega) (fun x hx => by rw [List.mem_singleton] at hx; subst hx; exact zB_short))
  rw [zB_bytes] at HBy
  go_enter Tryz.func16, Tryz.ntmps16
  go_wp2_with fail
  refine Hbd.out.mono ?_
  rintro e w2 ⟨v2, rfl, ho2, hb2⟩
  obtain ⟨p2, c2, hv2, -, -, q2, -⟩ := OwnBR.slice ho2
  subst hv2
  have q2' : BytesIn w2 p2 [73] := q2
  have Hp := Lib.hid (HDc.out p2 c2 _ (q2'.below ((Below.refl _ _).alloc (Nat.le_refl _) (.cells #[.int .u8 90, .slice p2 1 c2] 42))))
  have HW2 := Lib.hid (hb2.alloc hb2.size (.cells #[.int .u8 90, .slice p2 1 c2] 42))
  clear ho2 hb2 q2 q2' Hbd HDc
  go_wp2_with fail
  refine Hp.out.mono ?_
  rintro e w3 ⟨rfl, hb3⟩
  have HW3 := Lib.hid (HW2.out.trans (hb3.mono HW2.out.size))
  have HW4 := Lib.hid ((HW3.out.alloc HW3.out.size (.cells #[.int .u8 90, .int .u8 73, .string ⟨#[]⟩, .string ⟨#[]⟩, .string ⟨#[]⟩, .int .i64 0, .int .i64 0, .slice none 0 0, .slice none 0 0, .slice none 0 0, .slice none 0 0] 39)))
  have HW5 := Lib.hid ((HW4.out.alloc HW4.out.size (.cells #[.int .u8 90, .int .u8 73, .string ⟨#[]⟩, .string ⟨#[]⟩, .string ⟨#[]⟩, .int .i64 0, .int .i64 0, .slice none 0 0, .slice none 0 0, .slice none 0 0, .slice none 0 0] 39)))
  have Hy := Lib.hid (HBy.out (w3.alloc (.cells #[.int .u8 90, .int .u8 73, .string ⟨#[]⟩, .string ⟨#[]⟩, .string ⟨#[]⟩, .int .i64 0, .int .i64 0, .slice none 0 0, .slice none 0 0, .slice none 0 0, .slice none 0 0] 39)))
  clear hb3 HBy Hp HW2
  go_upto_region 3 with fail
  have hc4 := (Blk.new w3 39 #[.int .u8 90, .int .u8 73, .string ⟨#[]⟩, .string ⟨#[]⟩, .string ⟨#[]⟩, .int .i64 0, .int .i64 0, .slice none 0 0, .slice none 0 0, .slice none 0 0, .slice none 0 0]).cell
  generalize w3.alloc (.cells #[.int .u8 90, .int .u8 73, .string ⟨#[]⟩, .string ⟨#[]⟩, .string ⟨#[]⟩, .int .i64 0, .int .i64 0, .slice none 0 0, .slice none 0 0, .slice none 0 0, .slice none 0 0] 39) = w4 at *
  go_wp2_with fail
  generalize w4.alloc (.cells #[.int .u8 90, .int .u8 73, .string ⟨#[]⟩, .string ⟨#[]⟩, .string ⟨#[]⟩, .int .i64 0, .int .i64 0, .slice none 0 0, .slice none 0 0, .slice none 0 0, .slice none 0 0] 39) = w5 at *
  refine Hy.out.mono ?_
  rintro e w6 ⟨v6, rfl, ho6, hb6⟩
  obtain ⟨p6, c6, hv6, -, -, q6, -⟩ := ho6.slice
  subst hv6
  have HW6 := Lib.hid (HW5.out.trans (hb6.mono HW5.out.size))
  have HW7 := Lib.hid (HW6.out.alloc HW6.out.size (.cells #[.int .u8 90, .int .u8 0, .int .u8 0, .int .u8 0, .int .u8 5, .int .u8 73] 5))
  have he := equal_any p6 (some ⟨w6.heap.size, 0, none⟩) [90, 0, 0, 0, 5, 73] [90, 0, 0, 0, 5, 73] c6 6 _ (q6.alloc (.cells #[.int .u8 90, .int .u8 0, .int .u8 0, .int .u8 0, .int .u8 5, .int .u8 73] 5)) (BytesIn.newB w6 [90, 0, 0, 0, 5, 73] #[.int .u8 90, .int .u8 0, .int .u8 0, .int .u8 0, .int .u8 5, .int .u8 73] 5 rfl)
  rw [beq_self_eq_true] at he
  have He := Lib.hid he
  clear ho6 hb6 q6 he Hy
  go_wp2_with fail
  refine He.out.mono ?_
  rintro e wx ⟨rfl, rfl⟩
  go_wp2_with fail
  go_ret
  exact ⟨rfl, HW7.out⟩

end Go.Proofs.YthhebfknikfleaaGreat

/-
  Messages of servers (layer 7): parts that are read: a value, a column, the fields: the program's.
-/
namespace Go.Proofs.YthhebfknikfleaaGreat
open Go.RowKit
set_option linter.unusedVariables false
set_option linter.unusedSimpArgs false

theorem step_take {L : List UInt8} {bad : Bool} {E : List UInt8} (hE : E = [] ∨ E = L) (n : Int) : StepO L bad (takeP n) (takeV L bad n) (nx (takeOk L bad n) (L.drop n.toNat) E) (!takeOk L bad n) := by
  have hn := nx_drop (takeOk L bad n) L E n.toNat hE
  refine ⟨fun e => ?_, fun e => ?_, hn.2.1⟩
  · have e1 : takeOk L bad n = true := by simpa using e
    have e0 : bad = false := by unfold takeOk at e1; simp only [Bool.and_eq_true, Bool.not_eq_true'] at e1; exact e1.1.1
    subst e0
    exact ⟨rfl, by rw [hn.1 e1]; unfold takeP; rw [if_pos e1]⟩
  · have e1 : takeOk L bad n = false := by simpa using e
    cases bad with
    | true => exact .inl rfl
    | false => exact .inr (by unfold takeP; rw [if_neg (by rw [e1]; exact Bool.false_ne_true)])
section
variable {sb g : Nat} {L L' : List UInt8} {bad b' : Bool} {w : World}
theorem bsText_o (h : ScanO w sb g L bad) : ∃ t L' b', StepO L bad textQ t L' b' ∧ t.size ≤ L.length ∧ Calls Tryz.prog 111 #[.pointer (some ⟨sb, 0, none⟩)] w fun e w' =>
    e = .returned (.string t) ∧ ScanO w' sb g L' b' ∧ Touch (fun i => i = sb) w w' := by
  refine ⟨_, _, _, StepO.text (.inl rfl), ?_, scanText_any sb g L bad w h⟩
  unfold textV
  split
  · simp only [strOf, ByteArray.size]
    simp
    omega
  · exact Nat.zero_le _
theorem brText_o (h : RefS w sb g L bad) (hL : L.length ≤ 100000) : ∃ t L' b', StepO L bad textQ t L' b' ∧ t.size ≤ L.length ∧ Calls Tryz.prog 121 #[.pointer (some ⟨sb, 0, none⟩)] w fun e w' =>
    e = .returned (.string t) ∧ RefS w' sb g L' b' ∧ Touch (fun i => i = sb) w w' := by
  refine ⟨_, _, _, StepO.text (.inr rfl), ?_, refSText_full sb g L bad w h (by omega)⟩
  unfold textV
  split
  · simp only [strOf, ByteArray.size]
    simp
    omega
  · exact Nat.zero_le _
theorem bsNum_o (h : ScanO w sb g L bad) (n : Int) (z : Nat) (hz : (z : Int) = n) : ∃ t L' b', StepO L bad (numP z) t L' b' ∧ (t = numV L bad n) ∧ Calls Tryz.prog 110 #[.pointer (some ⟨sb, 0, none⟩), .int .i64 n] w fun e w' =>
    e = .returned (.int .i64 t) ∧ ScanO w' sb g L' b' ∧ Touch (fun i => i = sb) w w' := by
  subst hz
  exact ⟨_, _, _, StepO.num (.inl rfl) z, rfl, scanNum_any sb g L bad (z : Int) w h⟩
theorem brNum_o (h : RefS w sb g L bad) (n : Int) (z : Nat) (hz : (z : Int) = n) : ∃ t L' b', StepO L bad (numP z) t L' b' ∧ (t = numV L bad n) ∧ Calls Tryz.prog 120 #[.pointer (some ⟨sb, 0, none⟩), .int .i64 n] w fun e w' =>
    e = .returned (.int .i64 t) ∧ RefS w' sb g L' b' ∧ Touch (fun i => i = sb) w w' := by
  subst hz
  exact ⟨_, _, _, StepO.num (.inr rfl) z, rfl, refSNum_any sb g L bad (z : Int) w h⟩
theorem bsTake_o (h : ScanO w sb g L bad) (n : Int) (hL : L.length ≤ 100000) : ∃ t L' b', StepO L bad (takeP n) t L' b' ∧ Calls Tryz.prog 142 #[.pointer (some ⟨sb, 0, none⟩), .int .i64 n] w fun e w' =>
    ∃ v, e = .returned v ∧ OwnB w.heap.size w' v t ∧ ScanO w' sb g L' b' ∧ Touch (fun i => i = sb) w w' := ⟨_, _, _, step_take (.inl rfl) n, scanTake_any sb g L bad n w h (by omega)⟩
theorem StepO.neB {α : Type} {P : List UInt8 → Option (α × List UInt8)} {x : α} (h : StepO L bad P x L' b') (hn : L' ≠ []) : L ≠ [] := by
  intro e
  have := h.2.2
  rw [e] at this
  exact hn (List.eq_nil_of_length_eq_zero (by simpa using this))
end
/-- A number of one byte is a byte. -/
theorem num8B (L : List UInt8) (bad : Bool) : 0 ≤ numV L bad 1 ∧ numV L bad 1 < 256 := by
  unfold numV
  split
  · have hb := be_bd (L.take (1 : Int).toNat)
    have hl : (L.take (1 : Int).toNat).length ≤ 1 := by rw [List.length_take]; exact Nat.min_le_left _ _
    refine ⟨hb.1, ?_⟩
    have h3 : (256 : Int) ^ (L.take (1 : Int).toNat).length ≤ 256 := by
      generalize (L.take (1 : Int).toNat).length = q at hl
      have : q = 0 ∨ q = 1 := by omega
      rcases this with rfl | rfl <;> decide
    omega
  · decide
theorem num8wB (L : List UInt8) (bad : Bool) : IntKind.u8.wrap (numV L bad 1) = numV L bad 1 := by
  have h := num8B L bad
  rw [show IntKind.u8.wrap (numV L bad 1) = (numV L bad 1) % 256 by simp [IntKind.wrap, IntKind.bits, IntKind.signed]]
  omega
section
variable {L L1 L2 : List UInt8} {bad b1 b2 : Bool}
theorem cell_null {x : Int} (h : StepO L bad (numP 4) x L1 b1) (hx : x = 4294967295) : StepO L bad cellP ⟨true, []⟩ L1 b1 := by
  subst hx
  refine ⟨fun e => ⟨(h.1 e).1, ?_⟩, fun e => (h.2.1 e).imp id fun q => ?_, h.2.2⟩
  · unfold cellP
    rw [(h.1 e).2]
    rfl
  · unfold cellP
    rw [q]
    rfl
theorem cell_take {x : Int} {v : List UInt8} (h : StepO L bad (numP 4) x L1 b1) (hx : x ≠ 4294967295) (k : StepO L1 b1 (takeP x) v L2 b2) : StepO L bad cellP ⟨false, v⟩ L2 b2 := by
  have h2 : StepO L1 b1 (fun l => (takeP x l).bind fun b => some ((⟨false, b.1⟩ : CeV), b.2)) ⟨false, v⟩ L2 b2 := k.bind (Q := fun v l => some ((⟨false, v⟩ : CeV), l)) (StepO.ret _)
  have h3 : StepO L1 b1 (fun l => if x = 4294967295 then some ((⟨true, []⟩ : CeV), l) else (takeP x l).bind fun b => some ((⟨false, b.1⟩ : CeV), b.2)) ⟨false, v⟩ L2 b2 := h2.of_eq fun l => by rw [if_neg hx]
  exact h.bind (Q := fun x l => if x = 4294967295 then some ((⟨true, []⟩ : CeV), l) else (takeP x l).bind fun b => some ((⟨false, b.1⟩ : CeV), b.2)) h3
end

/-- Two blocks of a call's own beside a scan. -/
structure R2 (sb : Nat) (w0 w : World) (n1 n2 : Nat) (t1 t2 : TypeId) (c1 c2 : Array Value) : Prop where
  lt : sb < w0.heap.size
  l1 : w0.heap.size ≤ n1
  l2 : n1 < n2
  k : Blk w n1 t1 c1
  r : Blk w n2 t2 c2
  tch : Touch (fun k => k = sb) w0 w
section
variable {sb n1 n2 : Nat} {w0 w w' : World} {t1 t2 : TypeId} {c1 c2 : Array Value}
theorem R2.step (h : R2 sb w0 w n1 n2 t1 t2 c1 c2) (hT : Touch (fun k => k = sb) w w') : R2 sb w0 w' n1 n2 t1 t2 c1 c2 := by
  obtain ⟨h1, h2, h3, h4, h5, h6⟩ := h
  exact ⟨h1, h2, h3, hT.blk h4 (by omega), hT.blk h5 (by omega), h6.trans hT⟩
theorem R2.start (hsb : sb < w.heap.size) (t1 t2 : TypeId) (c1 c2 : Array Value) : R2 sb w ((w.alloc (.cells c1 t1)).alloc (.cells c2 t2)) w.heap.size (w.heap.size + 1) t1 t2 c1 c2 := by
  have e1 : (w.alloc (.cells c1 t1)).heap.size = w.heap.size + 1 := by simp
  refine ⟨hsb, Nat.le_refl _, by omega, (Blk.new _ _ _).alloc _, ?_, ((Touch.refl _ w).alloc _).alloc _⟩
  have := Blk.new (w.alloc (.cells c1 t1)) t2 c2
  rw [e1] at this
  exact this
theorem R2.setT (w : World) (n i : Nat) (u : Value) : Touch (fun k => k = n) w (w.setCell ⟨n, i, none⟩ u) := (Touch.refl (fun k => k = n) w).setCell (x := ⟨n, i, none⟩) (fun _ => rfl) _
theorem R2.set (h : R2 sb w0 w n1 n2 t1 t2 c1 c2) (i : Nat) (u : Value) : R2 sb w0 (w.setCell ⟨n2, i, none⟩ u) n1 n2 t1 t2 c1 (c2.setIfInBounds i u) := by
  obtain ⟨h1, h2, h3, h4, h5, h6⟩ := h
  have hT := R2.setT w n2 i u
  exact ⟨h1, h2, h3, hT.blk h4 (by omega), h5.set_ i u, h6.then hT (fun k hk e => by omega)⟩
end

/-- What is read of a value. -/
def rdCellR (sb g : Nat) (L : List UInt8) (bad : Bool) (w : World) (e : Ending) (w' : World) : Prop :=
  ∃ (x : CeV) (p : Option Addr) (c : Nat) (L' : List UInt8) (b' : Bool), e = .returned (.agg #[.bool x.null, .slice p x.bytes.length c]) ∧ BytesS (fun k => w.heap.size ≤ k) w' [.slice p x.bytes.length c] x.bytes ∧ ScanO w' sb g L' b' ∧ StepO L bad cellP x L' b' ∧ Touch (fun i => i = sb) w w'

set_option maxRecDepth 100000 in
set_option maxHeartbeats 4000000 in
theorem rdCell_any (sb g : Nat) (L : List UInt8) (bad : Bool) (w : World) (h : ScanO w sb g L bad) (hL : L.length ≤ 100000) :
    Calls Tryz.prog 113 #[.agg #[.pointer (some ⟨sb, 0, none⟩)]] w (rdCellR sb g L bad w) := by
  have hsb := h.lt
  have Hg := Lib.hid (fun e : L ≠ [] => h.ltg e)
  have hk := R2.start hsb 124 83 #[.pointer (some ⟨sb, 0, none⟩)] #[.bool false, .slice none 0 0]
  have hs := h.touch (p := fun _ => False) (((Touch.refl _ w).alloc (.cells #[.pointer (some ⟨sb, 0, none⟩)] 124)).alloc (.cells #[.bool false, .slice none 0 0] 83)) (fun e => e) (fun _ e => e)
  have HK1 := Lib.hid hk
  have Hs1 := Lib.hid hs
  clear h hk hs
  go_enter Tryz.func113, Tryz.ntmps113
  go_upto_region 1 with (fail)
  generalize (w.alloc (.cells #[.pointer (some ⟨sb, 0, none⟩)] 124)).alloc (.cells #[.bool false, .slice none 0 0] 83) = w1 at *
  have c1 := HK1.out.k.cell
  obtain ⟨t1, L1, b1, hq, ht, hc⟩ := bsNum_o Hs1.out 4 4 (by decide)
  have HQ1 := Lib.hid hq
  have HC := Lib.hid hc
  clear hq hc ht
  go_upto_region 2 with (go_at_call 110; refine HC.out.mono ?_; rintro e w2 ⟨rfl, hs, hT⟩; have hz2 := hT.size; have HK2 := Lib.hid (HK1.out.step hT); have Hs2 := Lib.hid hs; clear hs hT HC c1 HK1 Hs1)
  by_cases hx : t1 = 4294967295
  · have HQ := Lib.hid (cell_null HQ1.out hx)
    subst hx
    have c2 := HK2.out.r.cell
    have f2 := HK2.out.r.frozen
    go_wp2_with fail
    have hk := (HK2.out.set 0 (.bool true)).set 1 (.slice none 0 0)
    simp only [List.setIfInBounds_toArray, List.set_cons_succ, List.set_cons_zero] at hk
    have hT := (R2.setT w2 (w.heap.size + 1) 0 (.bool true)).trans (R2.setT _ (w.heap.size + 1) 1 (.slice none 0 0))
    have hs := Hs2.out.touch hT (by omega) (fun hne e => by have := Hg.out (HQ1.out.neB hne); omega)
    have HH := Lib.hid (And.intro hs hk.tch)
    have hcf := hk.r.cell
    clear hT hs hk c2 f2
    refine bodyPost_ret (v := .agg #[.bool true, .slice none 0 0]) (by simp [results, Tryz.results113, go_sem, hcf]) rfl ?_
    exact ⟨⟨true, []⟩, none, 0, L1, b1, rfl, ⟨none, 0, rfl, Nat.le_refl _, by simp [maxLen], BytesIn.nil _ _, fun h => absurd rfl h⟩, HH.out.1, HQ.out, HH.out.2⟩
  · have hx2 : (t1 == 4294967295) = false := by simpa using hx
    have c2 := HK2.out.k.cell
    obtain ⟨t2, L2, b2, hq, hc⟩ := bsTake_o Hs2.out t1 (by have := HQ1.out.2.2; omega)
    have HQ := Lib.hid (cell_take HQ1.out hx hq)
    have HC := Lib.hid hc
    clear hq hc hx
    go_wp2_with fail
    refine HC.out.mono ?_
    rintro e w3 ⟨v, rfl, ho, hs, hT⟩
    have hz3 := hT.size
    obtain ⟨p, c, hv, hby⟩ := ho.bytesS (S := fun k => w.heap.size + 2 ≤ k) (fun k hk => by have := HK2.out.r.lt; omega)
    subst hv
    have Hby := Lib.hid hby
    have HK3 := Lib.hid (HK2.out.step hT)
    have Hs3 := Lib.hid hs
    clear ho hby hs hT c2 HK2 Hs2 HC
    have c3 := HK3.out.r.cell
    have f3 := HK3.out.r.frozen
    obtain ⟨nt, hnt⟩ : ∃ nt, t2.length = nt := ⟨_, rfl⟩
    rw [hnt] at Hby ⊢
    have Hnt := Lib.hid hnt
    clear hnt
    go_wp2_with fail
    have hk := (HK3.out.set 0 (.bool false)).set 1 (.slice p nt c)
    simp only [List.setIfInBounds_toArray, List.set_cons_succ, List.set_cons_zero] at hk
    have hT := (R2.setT w3 (w.heap.size + 1) 0 (.bool false)).trans (R2.setT _ (w.heap.size + 1) 1 (.slice p nt c))
    have hs := Hs3.out.touch hT (by omega) (fun hne e => by have := Hg.out (HQ.out.neB hne); omega)
    have hby := BytesS.still _ (fun k => w.heap.size ≤ k) _ _ _ _ Hby.out (Kept.touch hT (fun k hk hs => by have hs' : w.heap.size + 2 ≤ k := hs; exact ⟨by omega, by omega⟩))
    have HH := Lib.hid (And.intro hby (And.intro hs hk.tch))
    have hcf := hk.r.cell
    clear hT hs hk c3 f3 hby
    refine bodyPost_ret (v := .agg #[.bool false, .slice p nt c]) (by simp [results, Tryz.results113, go_sem, hcf]) rfl ?_
    have hnt := Hnt.out
    subst hnt
    exact ⟨⟨false, t2⟩, p, c, L2, b2, rfl, HH.out.1, HH.out.2.1, HQ.out, HH.out.2.2⟩

end Go.Proofs.YthhebfknikfleaaGreat

/-
  Messages of servers (layer 7): a column that is read: the program's.
-/
namespace Go.Proofs.YthhebfknikfleaaGreat
open Go.RowKit
set_option linter.unusedVariables false
set_option linter.unusedSimpArgs false

/-- Three blocks of a call's own beside a scan. -/
structure R3 (sb : Nat) (w0 w : World) (n1 n2 n3 : Nat) (t1 t2 t3 : TypeId) (c1 c2 c3 : Array Value) : Prop where
  two : R2 sb w0 w n1 n2 t1 t2 c1 c2
  l3 : n2 < n3
  c : Blk w n3 t3 c3
section
variable {sb n1 n2 n3 : Nat} {w0 w w' : World} {t1 t2 t3 : TypeId} {c1 c2 c3 : Array Value}
theorem R3.step (h : R3 sb w0 w n1 n2 n3 t1 t2 t3 c1 c2 c3) (hT : Touch (fun k => k = sb) w w') : R3 sb w0 w' n1 n2 n3 t1 t2 t3 c1 c2 c3 := by
  obtain ⟨h1, h2, h3⟩ := h
  have q1 := h1.lt
  have q2 := h1.l1
  have q3 := h1.l2
  exact ⟨h1.step hT, h2, hT.blk h3 (by omega)⟩
theorem R3.start (h : R2 sb w0 w n1 n2 t1 t2 c1 c2) (t3 : TypeId) (c3 : Array Value) : R3 sb w0 (w.alloc (.cells c3 t3)) n1 n2 w.heap.size t1 t2 t3 c1 c2 c3 :=
  ⟨h.step ((Touch.refl _ w).alloc _), h.r.lt, Blk.new _ _ _⟩
theorem R3.set (h : R3 sb w0 w n1 n2 n3 t1 t2 t3 c1 c2 c3) (i : Nat) (u : Value) : R3 sb w0 (w.setCell ⟨n3, i, none⟩ u) n1 n2 n3 t1 t2 t3 c1 c2 (c3.setIfInBounds i u) := by
  obtain ⟨h1, h2, h3⟩ := h
  have hT := R2.setT w n3 i u
  obtain ⟨q1, q2, q3, q4, q5, q6⟩ := h1
  exact ⟨⟨q1, q2, q3, hT.blk q4 (by omega), hT.blk q5 (by omega), q6.then hT (fun k hk e => by omega)⟩, h2, h3.set_ i u⟩
theorem R3.drew (h : R3 sb w0 w n1 n2 n3 t1 t2 t3 c1 c2 c3) : R3 sb w0 w.drew n1 n2 n3 t1 t2 t3 c1 c2 c3 := h.step ((Touch.refl _ w).drew)
end

/-- Seven cells are stored into a block. -/
theorem set7 {w : World} {g : Nat} {t : TypeId} {u0 u1 u2 u3 u4 u5 u6 : Value} (v0 v1 v2 v3 v4 v5 v6 : Value) (h : Blk w g t #[u0, u1, u2, u3, u4, u5, u6]) :
    Blk (((((((w.setCell ⟨g, 0, none⟩ v0).setCell ⟨g, 1, none⟩ v1).setCell ⟨g, 2, none⟩ v2).setCell ⟨g, 3, none⟩ v3).setCell ⟨g, 4, none⟩ v4).setCell ⟨g, 5, none⟩ v5).setCell ⟨g, 6, none⟩ v6) g t #[v0, v1, v2, v3, v4, v5, v6] ∧
    Touch (fun k => k = g) w (((((((w.setCell ⟨g, 0, none⟩ v0).setCell ⟨g, 1, none⟩ v1).setCell ⟨g, 2, none⟩ v2).setCell ⟨g, 3, none⟩ v3).setCell ⟨g, 4, none⟩ v4).setCell ⟨g, 5, none⟩ v5).setCell ⟨g, 6, none⟩ v6) := by
  refine ⟨?_, (((((((R2.setT w g 0 v0).trans (R2.setT _ g 1 v1)).trans (R2.setT _ g 2 v2)).trans (R2.setT _ g 3 v3)).trans (R2.setT _ g 4 v4)).trans (R2.setT _ g 5 v5)).trans (R2.setT _ g 6 v6))⟩
  have h := (((((((h.set_ 0 v0).set_ 1 v1).set_ 2 v2).set_ 3 v3).set_ 4 v4).set_ 5 v5).set_ 6 v6)
  simpa using h

/-- What is read of a column. -/
def rdColR (sb g : Nat) (L : List UInt8) (bad : Bool) (w : World) (e : Ending) (w' : World) : Prop :=
  ∃ (x : CoV) (L' : List UInt8) (b' : Bool), e = .returned (.agg #[.string x.name, .int .i64 x.table, .int .i64 x.attr, .int .i64 x.oid, .int .i64 x.size, .int .i64 x.mod, .int .i64 x.format]) ∧ x.name.size ≤ L.length ∧ ScanO w' sb g L' b' ∧ StepO L bad coRd x L' b' ∧ Touch (fun i => i = sb) w w'

set_option maxRecDepth 100000 in
set_option maxHeartbeats 4000000 in
theorem rdCol_any (sb g : Nat) (L : List UInt8) (bad : Bool) (w : World) (h : ScanO w sb g L bad) (hL : L.length ≤ 100000) :
    Calls Tryz.prog 115 #[.agg #[.pointer (some ⟨sb, 0, none⟩)]] w (rdColR sb g L bad w) := by
  have hsb := h.lt
  have Hg := Lib.hid (fun e : L ≠ [] => h.ltg e)
  have hk := R2.start hsb 124 79 #[.pointer (some ⟨sb, 0, none⟩)] #[.string ⟨#[]⟩, .int .i64 0, .int .i64 0, .int .i64 0, .int .i64 0, .int .i64 0, .int .i64 0]
  have hs := h.touch (p := fun _ => False) (((Touch.refl _ w).alloc (.cells #[.pointer (some ⟨sb, 0, none⟩)] 124)).alloc (.cells #[.string ⟨#[]⟩, .int .i64 0, .int .i64 0, .int .i64 0, .int .i64 0, .int .i64 0, .int .i64 0] 79)) (fun e => e) (fun _ e => e)
  have HK1 := Lib.hid hk
  have Hs1 := Lib.hid hs
  clear h hk hs
  go_enter Tryz.func115, Tryz.ntmps115
  go_upto_region 1 with (fail)
  generalize (w.alloc (.cells #[.pointer (some ⟨sb, 0, none⟩)] 124)).alloc (.cells #[.string ⟨#[]⟩, .int .i64 0, .int .i64 0, .int .i64 0, .int .i64 0, .int .i64 0, .int .i64 0] 79) = w1 at *
  have c1 := HK1.out.k.cell
  obtain ⟨t1, L1, b1, hq, ht1, hc⟩ := bsText_o Hs1.out
  have HQ1 := Lib.hid hq
  have HC := Lib.hid hc
  have HT1 := Lib.hid ht1
  clear hq hc ht1
  go_upto_region 2 with (go_at_call 111; refine HC.out.mono ?_; rintro e w2 ⟨rfl, hs, hT⟩; have hz2 := hT.size; have HK2 := Lib.hid (HK1.out.step hT); have Hs2 := Lib.hid hs; clear hs hT HC c1 HK1 Hs1)
  have HK3 := Lib.hid (R3.start HK2.out 79 #[.string t1, .int .i64 0, .int .i64 0, .int .i64 0, .int .i64 0, .int .i64 0, .int .i64 0])
  have Hs3 := Lib.hid (Hs2.out.touch ((Touch.refl (fun _ => False) w2).alloc (.cells #[.string t1, .int .i64 0, .int .i64 0, .int .i64 0, .int .i64 0, .int .i64 0, .int .i64 0] 79)) (fun e => e) (fun _ e => e))
  have hgc := HK3.out.l3
  clear HK2 Hs2
  generalize w2.alloc (.cells #[.string t1, .int .i64 0, .int .i64 0, .int .i64 0, .int .i64 0, .int .i64 0, .int .i64 0] 79) = w3 at *
  generalize w2.heap.size = gc at *
  have HK3d := Lib.hid HK3.out.drew
  have Hs3d := Lib.hid (Hs3.out.touch ((Touch.refl (fun _ => False) w3).drew) (fun e => e) (fun _ e => e))
  clear HK3 Hs3
  obtain ⟨t2, L2, b2, hq, ht, hc⟩ := bsNum_o Hs3d.out 4 4 (by decide)
  have HQ2 := Lib.hid hq
  have HC2 := Lib.hid hc
  clear hq ht hc
  obtain ⟨t3, L3, b3, hq3, hn3⟩ : ∃ t3 L3 b3, StepO L2 b2 (numP 2) t3 L3 b3 ∧ ∀ w, ScanO w sb g L2 b2 → Calls Tryz.prog 110 #[.pointer (some ⟨sb, 0, none⟩), .int .i64 2] w fun e w' => e = .returned (.int .i64 t3) ∧ ScanO w' sb g L3 b3 ∧ Touch (fun i => i = sb) w w' := ⟨_, _, _, StepO.num (.inl rfl) 2, fun w h => scanNum_any sb g L2 b2 2 w h⟩
  have HQ3 := Lib.hid hq3
  have HC3 := Lib.hid hn3
  clear hq3 hn3
  obtain ⟨t4, L4, b4, hq4, hn4⟩ : ∃ t4 L4 b4, StepO L3 b3 (numP 4) t4 L4 b4 ∧ ∀ w, ScanO w sb g L3 b3 → Calls Tryz.prog 110 #[.pointer (some ⟨sb, 0, none⟩), .int .i64 4] w fun e w' => e = .returned (.int .i64 t4) ∧ ScanO w' sb g L4 b4 ∧ Touch (fun i => i = sb) w w' := ⟨_, _, _, StepO.num (.inl rfl) 4, fun w h => scanNum_any sb g L3 b3 4 w h⟩
  have HQ4 := Lib.hid hq4
  have HC4 := Lib.hid hn4
  clear hq4 hn4
  have c3 := HK3d.out.two.k.cell
  go_region_held3 (fun w' => ∀ i, w'.cell? ⟨w.heap.size, i, none⟩ = (#[.pointer (some ⟨sb, 0, none⟩)] : Array Value)[i]?)
    (first | exact c3 | with_reducible exact (((HK6.out.set 1 (.int .i64 t2)).set 2 (.int .i64 t3)).set 3 (.int .i64 t4)).two.k.cell | with_reducible exact ((HK6.out.set 1 (.int .i64 t2)).set 2 (.int .i64 t3)).two.k.cell | with_reducible exact (HK6.out.set 1 (.int .i64 t2)).two.k.cell | with_reducible exact HK6.out.two.k.cell | exact HK5.out.two.k.cell | exact HK4.out.two.k.cell | go_keep)
    (first | (go_at_call 110; refine (HC4.out _ Hs5.out).mono ?_; rintro e w6 ⟨rfl, hs, hT⟩; have HK6 := Lib.hid (HK5.out.step hT); have Hs6 := Lib.hid hs; have f6 := HK6.out.c.frozen; have cc6 := HK6.out.c.cell; clear hs hT)
           | (go_at_call 110; refine (HC3.out _ Hs4.out).mono ?_; rintro e w5 ⟨rfl, hs, hT⟩; have HK5 := Lib.hid (HK4.out.step hT); have Hs5 := Lib.hid hs; clear hs hT)
           | (go_at_call 110; refine HC2.out.mono ?_; rintro e w4 ⟨rfl, hs, hT⟩; have HK4 := Lib.hid (HK3d.out.step hT); have Hs4 := Lib.hid hs; clear hs hT))
  have hk := ((HK6.out.set 1 (.int .i64 t2)).set 2 (.int .i64 t3)).set 3 (.int .i64 t4)
  simp only [List.setIfInBounds_toArray, List.set_cons_succ, List.set_cons_zero] at hk
  have hT := ((R2.setT w6 gc 1 (.int .i64 t2)).trans (R2.setT _ gc 2 (.int .i64 t3))).trans (R2.setT _ gc 3 (.int .i64 t4))
  have hs := Hs6.out.touch hT (by omega) (fun hne e => by have := Hg.out (HQ1.out.neB (HQ2.out.neB (HQ3.out.neB (HQ4.out.neB hne)))); omega)
  have HK7 := Lib.hid hk
  have Hs7 := Lib.hid hs
  clear hk hT hs f6 cc6 HK6 Hs6 c3 HK5 HK4 Hs5 Hs4 HK3d Hs3d HC2 HC3 HC4
  generalize (((w6.setCell ⟨gc, 1, none⟩ (.int .i64 t2)).setCell ⟨gc, 2, none⟩ (.int .i64 t3)).setCell ⟨gc, 3, none⟩ (.int .i64 t4)) = w7 at *
  have c1 := HK7.out.two.k.cell
  obtain ⟨t5, L5, b5, hq, ht, hc⟩ := bsNum_o Hs7.out 2 2 (by decide)
  have HQ5 := Lib.hid hq
  have HC := Lib.hid hc
  clear hq hc ht
  have HG := Lib.hid (fun w => signed_any t5 2 w)
  obtain ⟨s5, hsg⟩ : ∃ sg, signedV t5 2 = sg := ⟨_, rfl⟩
  rw [hsg] at HG
  have HSg5 := Lib.hid hsg
  clear hsg
  go_wp2_with fail
  refine HC.out.mono ?_
  rintro e w8 ⟨rfl, hs, hT⟩
  have HK8 := Lib.hid (HK7.out.step hT)
  have Hs8 := Lib.hid hs
  clear hs hT c1 HC HK7 Hs7
  have c3 := HK8.out.c.cell
  have f3 := HK8.out.c.frozen
  go_wp2_with fail
  refine (HG.out w8).mono ?_
  rintro e wx ⟨rfl, rfl⟩
  go_upto_region 4 with (fail)
  have hk := HK8.out.set 4 (.int .i64 s5)
  simp only [List.setIfInBounds_toArray, List.set_cons_succ, List.set_cons_zero] at hk
  have hT := R2.setT w8 gc 4 (.int .i64 s5)
  have hs := Hs8.out.touch hT (by omega) (fun hne e => by have := Hg.out (HQ1.out.neB (HQ2.out.neB (HQ3.out.neB (HQ4.out.neB (HQ5.out.neB hne))))); omega)
  have HK9 := Lib.hid hk
  have Hs9 := Lib.hid hs
  clear hk hT hs HK8 Hs8 c3 f3
  generalize w8.setCell ⟨gc, 4, none⟩ (.int .i64 s5) = w9 at *
  have c1 := HK9.out.two.k.cell
  obtain ⟨t6, L6, b6, hq, ht, hc⟩ := bsNum_o Hs9.out 4 4 (by decide)
  have HQ6 := Lib.hid hq
  have HC := Lib.hid hc
  clear hq hc ht
  have HG := Lib.hid (fun w => signed_any t6 4 w)
  obtain ⟨s6, hsg⟩ : ∃ sg, signedV t6 4 = sg := ⟨_, rfl⟩
  rw [hsg] at HG
  have HSg6 := Lib.hid hsg
  clear hsg
  go_wp2_with fail
  refine HC.out.mono ?_
  rintro e w10 ⟨rfl, hs, hT⟩
  have HK10 := Lib.hid (HK9.out.step hT)
  have Hs10 := Lib.hid hs
  clear hs hT c1 HC HK9 Hs9
  have c3 := HK10.out.c.cell
  have f3 := HK10.out.c.frozen
  go_wp2_with fail
  refine (HG.out w10).mono ?_
  rintro e wx ⟨rfl, rfl⟩
  go_upto_region 5 with (fail)
  have hk := HK10.out.set 5 (.int .i64 s6)
  simp only [List.setIfInBounds_toArray, List.set_cons_succ, List.set_cons_zero] at hk
  have hT := R2.setT w10 gc 5 (.int .i64 s6)
  have hs := Hs10.out.touch hT (by omega) (fun hne e => by have := Hg.out (HQ1.out.neB (HQ2.out.neB (HQ3.out.neB (HQ4.out.neB (HQ5.out.neB (HQ6.out.neB hne)))))); omega)
  have HK11 := Lib.hid hk
  have Hs11 := Lib.hid hs
  clear hk hT hs HK10 Hs10 c3 f3
  generalize w10.setCell ⟨gc, 5, none⟩ (.int .i64 s6) = w11 at *
  have c1 := HK11.out.two.k.cell
  obtain ⟨t7, L7, b7, hq, ht, hc⟩ := bsNum_o Hs11.out 2 2 (by decide)
  have HQ7 := Lib.hid hq
  have HC := Lib.hid hc
  clear hq hc ht
  go_wp2_with fail
  refine HC.out.mono ?_
  rintro e w12 ⟨rfl, hs, hT⟩
  have HK12 := Lib.hid (HK11.out.step hT)
  have Hs12 := Lib.hid hs
  clear hs hT c1 HC HK11 Hs11
  have c3 := HK12.out.c.cell
  have f3 := HK12.out.c.frozen
  go_upto_region 6 with (fail)
  have hk := HK12.out.set 6 (.int .i64 t7)
  simp only [List.setIfInBounds_toArray, List.set_cons_succ, List.set_cons_zero] at hk
  have hT := R2.setT w12 gc 6 (.int .i64 t7)
  have hs := Hs12.out.touch hT (by omega) (fun hne e => by have := Hg.out (HQ1.out.neB (HQ2.out.neB (HQ3.out.neB (HQ4.out.neB (HQ5.out.neB (HQ6.out.neB (HQ7.out.neB hne))))))); omega)
  have HK13 := Lib.hid hk
  have Hs13 := Lib.hid hs
  clear hk hT hs HK12 Hs12 c3 f3
  generalize w12.setCell ⟨gc, 6, none⟩ (.int .i64 t7) = w13 at *
  have c3 : ∀ i, w13.cell? ⟨gc, i, none⟩ = (#[.string t1, .int .i64 t2, .int .i64 t3, .int .i64 t4, .int .i64 s5, .int .i64 s6, .int .i64 t7] : Array Value)[i]? := HK13.out.c.cell
  have c2 := HK13.out.two.r.cell
  have f2 := HK13.out.two.r.frozen
  go_wp2_with fail
  obtain ⟨hbf, hT⟩ := set7 (.string t1) (.int .i64 t2) (.int .i64 t3) (.int .i64 t4) (.int .i64 s5) (.int .i64 s6) (.int .i64 t7) HK13.out.two.r
  have hs := Hs13.out.touch hT (by omega) (fun hne e => by have := Hg.out (HQ1.out.neB (HQ2.out.neB (HQ3.out.neB (HQ4.out.neB (HQ5.out.neB (HQ6.out.neB (HQ7.out.neB hne))))))); omega)
  have ht := HK13.out.two.tch.then hT (fun k hk e => by omega)
  have HH := Lib.hid (And.intro hs ht)
  have hcf := hbf.cell
  clear hT hbf hs ht c2 c3 f2
  refine bodyPost_ret (v := .agg #[.string t1, .int .i64 t2, .int .i64 t3, .int .i64 t4, .int .i64 s5, .int .i64 s6, .int .i64 t7]) (by simp [results, Tryz.results115, go_sem, hcf]) rfl ?_
  refine ⟨⟨t1, t2, t3, t4, s5, s6, t7⟩, L7, b7, rfl, HT1.out, HH.out.1, ?_, HH.out.2⟩
  have q := coRd_o HQ1.out HQ2.out HQ3.out HQ4.out HQ5.out HQ6.out HQ7.out
  rw [HSg5.out, HSg6.out] at q
  exact q


end Go.Proofs.YthhebfknikfleaaGreat

/-
  Messages of servers (layer 7): fields that are read: the program's.
-/
namespace Go.Proofs.YthhebfknikfleaaGreat
open Go.RowKit
set_option linter.unusedVariables false
set_option linter.unusedSimpArgs false

abbrev OwnFd (B : Nat) (w : World) (v : Value) (xs : List FdV) : Prop := OwnS B 87 2 FdS (fun k => B ≤ k) w v xs
abbrev OwnCo (B : Nat) (w : World) (v : Value) (xs : List CoV) : Prop := OwnS B 79 7 CoS (fun k => B ≤ k) w v xs
theorem Tryz.info87 : (Tryz.prog.info? 87).map (fun i => (i.zero, i.size, i.bytes)) = some (some (.agg #[.int .u8 0, .string ⟨#[]⟩]), 2, 24) := by kernel_rfl
theorem info_fd : ∃ i z, Tryz.prog.info? 87 = some i ∧ i.zero = some z ∧ i.size = 2 ∧ i.bytes = 24 ∧ z.cells.size = 2 := by
  obtain ⟨i0, hi, hz0, hz1, hz2⟩ := info_parts Tryz.info87
  exact ⟨i0, _, hi, hz0, hz1, hz2, rfl⟩
theorem Tryz.info79 : (Tryz.prog.info? 79).map (fun i => (i.zero, i.size, i.bytes)) = some (some (.agg #[.string ⟨#[]⟩, .int .i64 0, .int .i64 0, .int .i64 0, .int .i64 0, .int .i64 0, .int .i64 0]), 7, 64) := by kernel_rfl
theorem info_co : ∃ i z, Tryz.prog.info? 79 = some i ∧ i.zero = some z ∧ i.size = 7 ∧ i.bytes = 64 ∧ z.cells.size = 7 := by
  obtain ⟨i0, hi, hz0, hz1, hz2⟩ := info_parts Tryz.info79
  exact ⟨i0, _, hi, hz0, hz1, hz2, rfl⟩

/-- A field behind fields. -/
theorem step_appendFd {ops : Array Oper} {rest : List Oper} {o : Oper} {a : Act} {Q : Exit → Act → World → Prop} (w : World) (hgd : o.guard = none) (s y : Operand)
    (ho : o.op = .call { callee := .builtin .append, args := #[s, y], argTypes := #[37, 37] })
    (B : Nat) (v : Value) (xs : List FdV) (hsv : a.eval s = v) (hown : OwnFd B w v xs) (p : Option Addr) (n c : Nat) (ys : List FdV) (hx : a.eval y = .slice p n c) (hs : SliceS 2 FdS (fun k => B ≤ k ∧ rowOf v ≠ some k) w [.slice p n c] ys)
    (hroom : xs.length + ys.length ≤ 1000000) (hbase : B ≤ w.heap.size)
    (h : ∀ v' w', OwnFd B w' v' (xs ++ ys) → w.grownBy w' (rowOf v) → (∀ k, rowOf v' = some k → rowOf v = some k ∨ w.heap.size ≤ k) → wpList Tryz.prog ops Q rest (a.put o.dst v') w') : wpList Tryz.prog ops Q (o :: rest) a w :=
  wpList_append_S w hgd s y 37 37 ho B 87 87 2 24 Tryz.underlying37 Tryz.underlying37 info_fd FdS FdS.still FdS.one (fun k => B ≤ k) v xs hsv hown p n c ys hx hs
    (by omega) (by simp only [maxLen]; omega) hbase h
/-- A column behind columns. -/
theorem step_appendCo {ops : Array Oper} {rest : List Oper} {o : Oper} {a : Act} {Q : Exit → Act → World → Prop} (w : World) (hgd : o.guard = none) (s y : Operand)
    (ho : o.op = .call { callee := .builtin .append, args := #[s, y], argTypes := #[35, 35] })
    (B : Nat) (v : Value) (xs : List CoV) (hsv : a.eval s = v) (hown : OwnCo B w v xs) (p : Option Addr) (n c : Nat) (ys : List CoV) (hx : a.eval y = .slice p n c) (hs : SliceS 7 CoS (fun k => B ≤ k ∧ rowOf v ≠ some k) w [.slice p n c] ys)
    (hroom : xs.length + ys.length ≤ 1000000) (hbase : B ≤ w.heap.size)
    (h : ∀ v' w', OwnCo B w' v' (xs ++ ys) → w.grownBy w' (rowOf v) → (∀ k, rowOf v' = some k → rowOf v = some k ∨ w.heap.size ≤ k) → wpList Tryz.prog ops Q rest (a.put o.dst v') w') : wpList Tryz.prog ops Q (o :: rest) a w :=
  wpList_append_S w hgd s y 35 35 ho B 79 79 7 64 Tryz.underlying35 Tryz.underlying35 info_co CoS CoS.still CoS.one (fun k => B ≤ k) v xs hsv hown p n c ys hx hs
    (by omega) (by simp only [maxLen]; omega) hbase h

def lenB7 : Value → Nat
  | .slice _ n _ => n
  | _ => 0

theorem num_shorter {T T1 : List UInt8} {t : Int} {b1 : Bool} (h : StepO T false (numP 1) t T1 b1) (hok : numOk T false 1 = true) : T1.length + 1 ≤ T.length := by
  have e : numP 1 T = some (numV T false 1, T.drop 1) := by
    unfold numP
    exact if_pos hok
  cases hb : b1 with
  | true =>
    rcases h.2.1 hb with q | q
    · cases q
    · rw [e] at q; cases q
  | false =>
    have := numP_len (.inl rfl) (h.1 hb).2
    omega
/-- What is read of fields. -/
def rdFdsR (sb g : Nat) (L : List UInt8) (bad : Bool) (w : World) (e : Ending) (w' : World) : Prop :=
  ∃ v xs L' bad', e = .returned v ∧ OwnFd w.heap.size w' v xs ∧ xs.length ≤ 100000 ∧ ScanO w' sb g L' bad' ∧ StepO L bad fieldsP xs L' bad' ∧ Touch (fun i => i = sb) w w'

theorem OwnS.lenV {α : Type} {B : Nat} {e : TypeId} {n : Nat} {R : Rd α} {S : Nat → Prop} {w : World} {v : Value} {xs : List α} (h : OwnS B e n R S w v xs) : lenB7 v = xs.length := by
  obtain ⟨css, h1, _⟩ := h
  obtain ⟨p, c, hv, _⟩ := h1.slice
  rw [hv]
  rfl

set_option maxRecDepth 100000 in
set_option maxHeartbeats 4000000 in
theorem rdFds_any (sb g : Nat) (L : List UInt8) (bad : Bool) (w : World) (h : ScanO w sb g L bad) (hL : L.length ≤ 100000) :
    Calls Tryz.prog 118 #[.agg #[.pointer (some ⟨sb, 0, none⟩)]] w (rdFdsR sb g L bad w) := by
  have hsb := h.lt
  have Hg := Lib.hid (fun e : L ≠ [] => h.ltg e)
  have hal : Below w.heap.size w (w.alloc (.cells #[.pointer (some ⟨sb, 0, none⟩)] 124)) := (Below.refl _ _).alloc (Nat.le_refl _) _
  have HA := Lib.hid hal
  have H0 := Lib.hid (h.touch (Touch.of_below (p := fun _ => False) hal) (fun e => e) (fun _ e => e))
  have Hk := Lib.hid (Blk.new w 124 #[.pointer (some ⟨sb, 0, none⟩)])
  have hz1 : w.heap.size ≤ (w.alloc (.cells #[.pointer (some ⟨sb, 0, none⟩)] 124)).heap.size := by simp
  have hk1 := Hk.out.lt
  clear h hal
  go_enter Tryz.func118, Tryz.ntmps118
  go_upto_region 1 with (fail)
  generalize w.alloc (.cells #[.pointer (some ⟨sb, 0, none⟩)] 124) = w1 at *
  go_wp2_with fail
  go_loopw [3] (fun v wr => ∃ (T : List UInt8) (b : Bool) (xs : List FdV), FsI (fieldsP L) bad T b xs ∧ (T ≠ [] → L ≠ []) ∧ T.length + xs.length ≤ L.length ∧ OwnFd w1.heap.size wr v xs ∧ ScanO wr sb g T b ∧ Touch (fun i => i = sb) w1 wr ∧ Blk wr w.heap.size 124 #[.pointer (some ⟨sb, 0, none⟩)]) (fun v _ => L.length + 1 - lenB7 v)
  case atStart => exact ⟨L, bad, [], FsI.start, fun e => e, by simp, OwnS.empty _, H0.out, Touch.refl _ _, Hk.out⟩
  case round =>
    obtain ⟨T, b, xs, hI, hTL, hTl, ho, hs, hT, hk⟩ := hrel
    have hzr := hT.size
    have HI := Lib.hid hI
    have HTL := Lib.hid hTL
    have Ho := Lib.hid ho
    have HS := Lib.hid hs
    have HT := Lib.hid hT
    have Hrow := Lib.hid ho.row
    have Hkr := Lib.hid hk
    have hcr := hk.cell
    have Hlv := Lib.hid ho.lenV
    clear hI hTL ho hs hT hk
    obtain ⟨t1, T1, b1, hq, ht, hc⟩ := bsNum_o HS.out 1 1 (by decide)
    have hwr : t1 % 256 = t1 := by have := num8B T b; rw [← ht] at this; omega
    have Hb8 : Hid (0 ≤ t1 ∧ t1 < 256) := Lib.hid (by rw [ht]; exact num8B _ _)
    have Hth := Lib.hid (fun e : t1 ≠ 0 => num_there (by rw [← ht]; exact e : numV T b 1 ≠ 0))
    have Hq := Lib.hid hq
    have HC := Lib.hid hc
    clear hq hc ht
    go_wp2_with fail
    refine HC.out.mono ?_
    rintro e w2 ⟨rfl, hs, hT⟩
    have hz2 := hT.size
    have HS2 := Lib.hid hs
    have HT2 := Lib.hid (HT.out.trans hT)
    have HO2 := Lib.hid (Ho.out.touch (S' := fun k => w1.heap.size ≤ k) FdS.still hT (fun k hk => by have := (Hrow.out k hk).1; omega) (fun k _ hk _ => ⟨hk, fun e => by have hk' : w1.heap.size ≤ k := hk; omega⟩))
    have Hk2 := Lib.hid (hT.blk Hkr.out (by omega))
    clear hs hT hcr HC
    have hc2 := Hk2.out.cell
    go_upto_region 3 with (fail)
    try simp only [hwr]
    by_cases hx : t1 = 0
    · subst hx
      have Hst := Lib.hid (HI.out.fin Hq.out (by omega))
      clear Hth Hb8
      go_wp2_with fail
      go_ret
      exact ⟨_, xs, T1, b1, rfl, ((HO2.out.base hz1).touch (S' := fun k => w.heap.size ≤ k) FdS.still (Touch.refl (fun _ => False) _) (fun _ _ e => e) (fun k _ hk _ => ⟨by have hk' : w1.heap.size ≤ k := hk; omega, fun e => e⟩)), by omega, HS2.out, Hst.out, (Touch.of_below (p := fun i => i = sb) HA.out).trans HT2.out⟩
    · obtain ⟨hbf, hok, hTp⟩ := Hth.out hx
      subst hbf
      have hx2 : (t1 == 0) = false := by simpa using hx
      have Hx := Lib.hid hx
      have hT1 : T1.length + 1 ≤ T.length := num_shorter Hq.out hok
      obtain ⟨t2, T2, b2, hq2, ht2, hc⟩ := bsText_o HS2.out
      have HI2 := Lib.hid (HI.out.more Hq.out hx hq2)
      have HTL2 : Hid (T2 ≠ [] → L ≠ []) := Lib.hid (fun e => HTL.out (Hq.out.neB (hq2.neB e)))
      have hT2 := hq2.2.2
      have Hts := Lib.hid ht2
      have HC := Lib.hid hc
      clear hq2 hc ht2 hx hok hwr
      go_wp2_with fail
      refine HC.out.mono ?_
      rintro e w3 ⟨rfl, hs, hT⟩
      have hz3 := hT.size
      have HO3 := Lib.hid (HO2.out.touch (S' := fun k => w1.heap.size ≤ k) FdS.still hT (fun k hk => by have := (Hrow.out k hk).1; omega) (fun k _ hk _ => ⟨hk, fun e => by have hk' : w1.heap.size ≤ k := hk; omega⟩))
      have hal : Below w3.heap.size w3 (w3.alloc (.cells #[.int .u8 t1, .string t2] 87)) := (Below.refl _ _).alloc (Nat.le_refl _) _
      have Ho4 := Lib.hid (HO3.out.below' FdS.still hal)
      have Hnw := Lib.hid (SliceS.new1 (S := fun k => w1.heap.size ≤ k ∧ rowOf u3 ≠ some k) (S' := fun k => w1.heap.size ≤ k ∧ rowOf u3 ≠ some k) FdS.still w3 87 #[.int .u8 t1, .string t2] ⟨t1, t2⟩ ⟨rfl, (by have := Hts.out; show t2.size ≤ maxLen; unfold maxLen; omega), Hb8.out⟩ rfl (fun k _ h => h) ⟨by omega, fun e => by have := (Hrow.out _ e).2; omega⟩)
      have HAl := Lib.hid hal
      have HS3 := Lib.hid hs
      have HT3 := Lib.hid (HT2.out.trans hT)
      have hwz : w1.heap.size ≤ (w3.alloc (.cells #[.int .u8 t1, .string t2] 87)).heap.size := by rw [World.size_alloc]; omega
      have Hk3 := Lib.hid (hT.blk Hk2.out (by omega))
      have hxr : xs.length + 1 ≤ 1000000 := by omega
      clear hal hs hT hc2 HC
      go_wp2_with (at_builtin; refine step_appendFd _ rfl (.tmp 12) (.tmp 18) rfl w1.heap.size u3 xs rfl Ho4.out (some ⟨w3.heap.size, 0, none⟩) 1 1 [⟨t1, t2⟩] rfl Hnw.out (by simpa using hxr) hwz ?_; intro v5 w5 ho5 hg5 hn5; have Ho6 := Lib.hid ho5; have HT6 := Lib.hid ((HT3.out.trans (Touch.of_below HAl.out)).then (Touch.of_row hg5) (fun i hi e => by have := (Hrow.out i e.symm).1; omega)); have HS6 := Lib.hid ((HS3.out.touch (Touch.of_below (p := fun _ => False) HAl.out) (fun e => e) (fun _ e => e)).touch (Touch.of_row hg5) (fun e => by have := (Hrow.out _ e.symm).1; omega) (fun hne e => by have := (Hrow.out _ e.symm).1; have := Hg.out (HTL2.out hne); omega)); have Hk6 := Lib.hid ((Hk3.out.alloc _).grown hg5 (fun e => by have := (Hrow.out _ e.symm).1; omega)); clear ho5 hg5 hn5)
      go_roundw
      case rel => exact ⟨T2, b2, xs ++ [⟨t1, t2⟩], HI2.out, HTL2.out, by simp; omega, Ho6.out, HS6.out, HT6.out, Hk6.out⟩
      case measure => have h1 := Ho6.out.lenV; have h2 := Hlv.out; rw [h1, h2]; simp; omega

end Go.Proofs.YthhebfknikfleaaGreat

