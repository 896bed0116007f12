/-
  Messages of servers (layer 7): a message that is being read; a Z is read; Decode of a Z; awake.
-/
import Derived.Test.YthhebfknikfleaaGreatBaT
import Derived.Test.YthhebfknikfleaaGreatBaE
import Derived.Test.YthhebfknikfleaaGreatBaQ
import Derived.Test.YthhebfknikfleaaGreatPackC
import Derived.Test.YthhebfknikfleaaGreatPackA
namespace Go.Proofs.YthhebfknikfleaaGreat
open Go.RowKit
set_option linter.unusedVariables false
set_option linter.unusedSimpArgs false

/-- The result's block n, the message's block behind it, its lists; the scan's block is all that is touched. -/
structure BmI (sb n : Nat) (w0 w : World) (f : BaV) (a : BaP) : Prop where
  lt : sb < w0.heap.size
  hn : w0.heap.size ≤ n
  b2 : Blk w n 39 baZ
  b3 : Blk w (n + 1) 39 (baCells f a)
  lst : BaL (fun k => n + 2 ≤ k) w f a
  tch : Touch (fun k => k = sb) w0 w
section
variable {sb n : Nat} {w0 w w' : World} {f f' : BaV} {a a' : BaP}
theorem BmI.step (h : BmI sb n w0 w f a) (hT : Touch (fun k => k = sb) w w') : BmI sb n w0 w' f a := by
  have h1 := h.lt
  have h2 := h.hn
  exact ⟨h1, h2, hT.blk h.b2 (by omega), hT.blk h.b3 (by omega), h.lst.keep (Kept.touch hT (fun k hk hs => ⟨hs, fun e => by have hs' : n + 2 ≤ k := hs; omega⟩)), h.tch.trans hT⟩
theorem BmI.tset (w : World) (n i : Nat) (u : Value) : Touch (fun k => k = n + 1) w (w.setCell ⟨n + 1, i, none⟩ u) :=
  (Touch.refl (fun k => k = n + 1) w).setCell (x := ⟨n + 1, i, none⟩) (fun _ => rfl) _
theorem BmI.set (h : BmI sb n w0 w f a) (i : Nat) (u : Value) (hl : BaL (fun k => n + 2 ≤ k) w f' a') (hc : (baCells f a).setIfInBounds i u = baCells f' a') : BmI sb n w0 (w.setCell ⟨n + 1, i, none⟩ u) f' a' := by
  have h1 := h.lt
  have h2 := h.hn
  have hT := BmI.tset w n i u
  refine ⟨h1, h2, hT.blk h.b2 (by omega), ?_, hl.keep (Kept.touch hT (fun k hk hs => ⟨hs, fun e => by have hs' : n + 2 ≤ k := hs; omega⟩)), h.tch.then hT (fun k hk e => by omega)⟩
  rw [← hc]
  exact h.b3.set_ i u
end
theorem BaL.nil (S : Nat → Prop) (w : World) (x : BaV) (ho : x.oids = []) (hc : x.cols = []) (hr : x.row = []) (hf : x.fields = []) : BaL S w x baNil := by
  refine ⟨?_, ?_, ?_, ?_⟩
  · rw [ho]; exact SliceS.empty none 0 (by simp [maxLen])
  · rw [hc]; exact SliceS.empty none 0 (by simp [maxLen])
  · rw [hr]; exact SliceS.empty none 0 (by simp [maxLen])
  · rw [hf]; exact SliceS.empty none 0 (by simp [maxLen])
theorem BaL.zero (S : Nat → Prop) (w : World) (k : Int) : BaL S w (baZero k) baNil := BaL.nil S w _ rfl rfl rfl rfl

/-- The start: the result's block, the message's. -/
theorem BmI.start (sb : Nat) (w0 w : World) (k : Int) (hT : Touch (fun k => k = sb) w0 w) (hsb : sb < w0.heap.size) :
    BmI sb w.heap.size w0 ((w.alloc (.cells baZ 39)).alloc (.cells (baCells (baZero k) baNil) 39)) (baZero k) baNil := by
  have e1 : (w.alloc (.cells baZ 39)).heap.size = w.heap.size + 1 := by simp
  refine ⟨hsb, hT.size, (Blk.new _ _ _).alloc _, ?_, BaL.zero _ _ _, (hT.alloc _).alloc _⟩
  have := Blk.new (w.alloc (.cells baZ 39)) 39 (baCells (baZero k) baNil)
  rw [e1] at this
  exact this

/-- A Z of no transaction. -/
def zB : BaV := { baZero 90 with status := 73 }

set_option maxRecDepth 100000 in
set_option maxHeartbeats 4000000 in
theorem bmsg_Z (sb g : Nat) (w : World) (h : ScanO w sb g [73] false) :
    Calls Tryz.prog 82 #[.agg #[.pointer (some ⟨sb, 0, none⟩)], .int .u8 90] w fun e w' => e = .returned (.tuple #[.agg #[.int .u8 90, .int .u8 73, .string ⟨#[]⟩, .string ⟨#[]⟩, .string ⟨#[]⟩, .int .i64 0, .int .i64 0, .slice none 0 0, .slice none 0 0, .slice none 0 0, .slice none 0 0], .bool true]) ∧ ScanO w' sb g [] false ∧ Touch (fun k => k = sb) w w' := by
  have hsb := h.lt
  have hA : Below w.heap.size w (w.alloc (.cells #[.pointer (some ⟨sb, 0, none⟩)] 124)) := (Below.refl _ _).alloc (Nat.le_refl _) _
  have hm := BmI.start sb w (w.alloc (.cells #[.pointer (some ⟨sb, 0, none⟩)] 124)) 90 (Touch.of_below hA) hsb
  rw [show (w.alloc (.cells #[.pointer (some ⟨sb, 0, none⟩)] 124)).heap.size = w.heap.size + 1 by simp] at hm
  have hk := ((Blk.new w 124 #[.pointer (some ⟨sb, 0, none⟩)]).alloc (.cells baZ 39)).alloc (.cells (baCells (baZero 90) baNil) 39)
  have hs := h.touch (p := fun _ => False) ((((Touch.refl _ w).alloc (.cells #[.pointer (some ⟨sb, 0, none⟩)] 124)).alloc (.cells baZ 39)).alloc (.cells (baCells (baZero 90) baNil) 39)) (fun e => e) (fun _ e => e)
  unfold baZ at hm hk hs
  rw [show baCells (baZero 90) baNil = #[.int .u8 90, .int .u8 0, .string ⟨#[]⟩, .string ⟨#[]⟩, .string ⟨#[]⟩, .int .i64 0, .int .i64 0, .slice none 0 0, .slice none 0 0, .slice none 0 0, .slice none 0 0] from rfl] at hm hk hs
  have Hm1 := Lib.hid hm
  have HK1 := Lib.hid hk
  have Hs1 := Lib.hid hs
  clear h hA hm hk hs
  go_enter Tryz.func82, Tryz.ntmps82
  go_upto_region 2 with (fail)
  generalize ((w.alloc (.cells #[.pointer (some ⟨sb, 0, none⟩)] 124)).alloc (.cells #[.int .u8 0, .int .u8 0, .string ⟨#[]⟩, .string ⟨#[]⟩, .string ⟨#[]⟩, .int .i64 0, .int .i64 0, .slice none 0 0, .slice none 0 0, .slice none 0 0, .slice none 0 0] 39)).alloc (.cells #[.int .u8 90, .int .u8 0, .string ⟨#[]⟩, .string ⟨#[]⟩, .string ⟨#[]⟩, .int .i64 0, .int .i64 0, .slice none 0 0, .slice none 0 0, .slice none 0 0, .slice none 0 0] 39) = w1 at *
  have c1 : ∀ i, w1.cell? ⟨w.heap.size, i, none⟩ = (#[.pointer (some ⟨sb, 0, none⟩)] : Array Value)[i]? := HK1.out.cell
  have hc := scanNum_yes sb g [73] 1 w1 Hs1.out rfl (by simp)
  rw [show be (List.take 1 [(73 : UInt8)]) = 73 from by decide] at hc
  have HC := Lib.hid hc
  clear hc
  have hw73 : IntKind.u8.wrap 73 = 73 := by decide
  go_upto_region 24 with (go_at_call 110; refine HC.out.mono ?_; rintro e w2 ⟨rfl, hs, hT⟩; have hz2 := hT.size; have Hm2 := Lib.hid (Hm1.out.step hT); have HK2 := Lib.hid (hT.blk HK1.out (by omega)); have Hs2 : Hid (ScanO w2 sb g [] false) := Lib.hid hs; have c3 : ∀ i, w2.cell? ⟨w.heap.size + 1 + 1, i, none⟩ = (#[.int .u8 90, .int .u8 0, .string ⟨#[]⟩, .string ⟨#[]⟩, .string ⟨#[]⟩, .int .i64 0, .int .i64 0, .slice none 0 0, .slice none 0 0, .slice none 0 0, .slice none 0 0] : Array Value)[i]? := Hm2.out.b3.cell; have f3 := Hm2.out.b3.frozen; clear hs hT HC c1 Hm1 HK1 Hs1)
  have hm := Hm2.out.set 1 (.int .u8 73) (f' := zB) (a' := baNil) (BaL.nil _ _ _ rfl rfl rfl rfl) rfl
  have hT := BmI.tset w2 (w.heap.size + 1) 1 (.int .u8 73)
  have hs := Hs2.out.touch hT (by omega) (fun hne e => by exact absurd rfl hne)
  have Hm3 := Lib.hid hm
  have Hs3 := Lib.hid hs
  clear hm hT hs Hm2 HK2 Hs2 c3 f3
  generalize w2.setCell ⟨w.heap.size + 1 + 1, 1, none⟩ (.int .u8 73) = w3 at *
  have c3 : ∀ i, w3.cell? ⟨w.heap.size + 1 + 1, i, none⟩ = (#[.int .u8 90, .int .u8 73, .string ⟨#[]⟩, .string ⟨#[]⟩, .string ⟨#[]⟩, .int .i64 0, .int .i64 0, .slice none 0 0, .slice none 0 0, .slice none 0 0, .slice none 0 0] : Array Value)[i]? := Hm3.out.b3.cell
  have c2 : ∀ i, w3.cell? ⟨w.heap.size + 1, i, none⟩ = (#[.int .u8 0, .int .u8 0, .string ⟨#[]⟩, .string ⟨#[]⟩, .string ⟨#[]⟩, .int .i64 0, .int .i64 0, .slice none 0 0, .slice none 0 0, .slice none 0 0, .slice none 0 0] : Array Value)[i]? := Hm3.out.b2.cell
  have f2 := Hm3.out.b2.frozen
  go_wp2_with fail
  have hT := setEl_touch w3 (w.heap.size + 1) (.int .u8 90) (.int .u8 73) (.string ⟨#[]⟩) (.string ⟨#[]⟩) (.string ⟨#[]⟩) (.int .i64 0) (.int .i64 0) (.slice none 0 0) (.slice none 0 0) (.slice none 0 0) (.slice none 0 0)
  have hbf := setEl_blk (.int .u8 90) (.int .u8 73) (.string ⟨#[]⟩) (.string ⟨#[]⟩) (.string ⟨#[]⟩) (.int .i64 0) (.int .i64 0) (.slice none 0 0) (.slice none 0 0) (.slice none 0 0) (.slice none 0 0) Hm3.out.b2
  have hs := Hs3.out.touch hT (by omega) (fun hne e => absurd rfl hne)
  have ht := Hm3.out.tch.then hT (fun k hk e => by omega)
  have HH := Lib.hid (And.intro hs ht)
  unfold setEl at hbf HH
  have hcf := hbf.cell
  clear hT hbf hs ht c2 c3 f2
  refine bodyPost_ret (v := .tuple #[.agg #[.int .u8 90, .int .u8 73, .string ⟨#[]⟩, .string ⟨#[]⟩, .string ⟨#[]⟩, .int .i64 0, .int .i64 0, .slice none 0 0, .slice none 0 0, .slice none 0 0, .slice none 0 0], .bool true]) (by simp [results, Tryz.results82, go_sem, hcf]) rfl ?_
  exact ⟨rfl, HH.out.1, HH.out.2⟩

/-- The message's block, the result's block. -/
structure BdI (w0 w : World) (c : Array Value) : Prop where
  m : Blk w w0.heap.size 42 c
  r : Blk w (w0.heap.size + 1) 39 baZ
  bel : Below w0.heap.size w0 w
section
variable {w0 w w' : World} {c : Array Value} {P : Nat → Prop}
theorem BdI.step (h : BdI w0 w c) (hT : Touch P w w') (hP : ∀ j, P j → w0.heap.size + 2 ≤ j) : BdI w0 w' c :=
  ⟨hT.blk h.m (fun e => by have := hP _ e; omega), hT.blk h.r (fun e => by have := hP _ e; omega), h.bel.trans (hT.below h.bel.size (fun j e => by have := hP _ e; omega))⟩
theorem BdI.bstep (h : BdI w0 w c) (hb : Below w.heap.size w w') : BdI w0 w' c := h.step (Touch.of_below (p := fun _ => False) hb) (fun _ e => e.elim)
theorem BdI.start (w : World) (c : Array Value) : BdI w ((w.alloc (.cells c 42)).alloc (.cells baZ 39)) c := by
  have e1 : (w.alloc (.cells c 42)).heap.size = w.heap.size + 1 := by simp
  refine ⟨(Blk.new _ _ _).alloc _, ?_, (((Below.refl _ _).alloc (Nat.le_refl _) _).alloc (by simp) _)⟩
  have := Blk.new (w.alloc (.cells c 42)) 39 baZ
  rw [e1] at this
  exact this
end

theorem zB_ok : checkB zB = 0 := by decide +kernel

set_option maxRecDepth 100000 in
set_option maxHeartbeats 4000000 in
theorem bdec_Z (p : Option Addr) (cap : Nat) (w : World) (hb : BytesIn w p [73]) :
    Calls Tryz.prog 25 #[.agg #[.int .u8 90, .slice p 1 cap]] w fun e w' => e = .returned (.tuple #[.agg #[.int .u8 90, .int .u8 73, .string ⟨#[]⟩, .string ⟨#[]⟩, .string ⟨#[]⟩, .int .i64 0, .int .i64 0, .slice none 0 0, .slice none 0 0, .slice none 0 0, .slice none 0 0], .int .i64 0]) ∧ Below w.heap.size w w' := by
  have H1 := Lib.hid (BdI.start w #[.int .u8 90, .slice p 1 cap])
  have HK := Lib.hid (fun w0 : World => bknown_any 90 (by decide) (by decide) w0)
  rw [show servK 90 = true from rfl] at HK
  have Hb1 : Hid (BytesIn ((w.alloc (.cells #[.int .u8 90, .slice p 1 cap] 42)).alloc (.cells baZ 39)) p [73]) := Lib.hid ((((Touch.refl (fun _ => False) w).alloc _).alloc _).bytesIn hb (fun _ _ _ e => e))
  unfold baZ at H1 Hb1
  clear hb
  go_enter Tryz.func25, Tryz.ntmps25
  go_upto_region 1 with (fail)
  generalize (w.alloc (.cells #[.int .u8 90, .slice p 1 cap] 42)).alloc (.cells #[.int .u8 0, .int .u8 0, .string ⟨#[]⟩, .string ⟨#[]⟩, .string ⟨#[]⟩, .int .i64 0, .int .i64 0, .slice none 0 0, .slice none 0 0, .slice none 0 0, .slice none 0 0] 39) = w1 at *
  have c1 := H1.out.m.cell
  go_wp2_with fail
  refine (HK.out w1).mono ?_
  rintro e w2 ⟨rfl, hb⟩
  have H2 := Lib.hid (H1.out.bstep hb)
  have Hb2 : Hid (BytesIn w2 p [73]) := Lib.hid ((Touch.of_below (p := fun _ => False) hb).bytesIn Hb1.out (fun _ _ _ e => e))
  clear hb c1 Hb1 H1 HK
  have c2 := H2.out.m.cell
  have HN := Lib.hid (scanNew_any p [73] cap w2 (by simp) Hb2.out)
  go_upto_region 4 with (go_at_call 81; refine HN.out.mono ?_; rintro e w3 ⟨sb, g, rfl, hs, hsb, hg, hT⟩; have H3 := Lib.hid (H2.out.step hT (fun _ e => e.elim)); have Hs3 := Lib.hid hs; have hz3 := hT.size; clear hs hT HN c2)
  have hw2 := H2.out.r.lt
  have hal : Below w3.heap.size w3 (w3.alloc (.cells #[.pointer (some ⟨sb, 0, none⟩)] 124)) := (Below.refl _ _).alloc (Nat.le_refl _) _
  have H4 := Lib.hid (H3.out.bstep hal)
  have Hs4 := Lib.hid (Hs3.out.touch (Touch.of_below (p := fun _ => False) hal) (fun e => e) (fun _ e => e))
  have Hr4 : Hid (Blk (w3.alloc (.cells #[.pointer (some ⟨sb, 0, none⟩)] 124)) w3.heap.size 124 #[.pointer (some ⟨sb, 0, none⟩)]) := Lib.hid (Blk.new _ _ _)
  have hz4 : w3.heap.size < (w3.alloc (.cells #[.pointer (some ⟨sb, 0, none⟩)] 124)).heap.size := by simp
  have hsl := Hs3.out.lt
  clear hal H3 Hs3 H2 Hb2
  generalize w3.alloc (.cells #[.pointer (some ⟨sb, 0, none⟩)] 124) = w4 at *
  generalize w3.heap.size = rb at *
  have c4 := H4.out.m.cell
  have r4 := Hr4.out.cell
  have HM := Lib.hid (bmsg_Z sb g w4 Hs4.out)
  go_upto_region 5 with (go_at_call 82; refine HM.out.mono ?_; rintro e w5 ⟨rfl, hs, hT⟩; have H5 := Lib.hid (H4.out.step hT (fun j e => by omega)); have Hs5 := Lib.hid hs; have Hr5 := Lib.hid (hT.blk Hr4.out (by omega)); have hz5 := hT.size; clear hs hT HM c4 r4 H4 Hs4 Hr4)
  have hw5 := H5.out.r.lt
  have hal : Below w5.heap.size w5 (w5.alloc (.cells #[.int .u8 90, .int .u8 73, .string ⟨#[]⟩, .string ⟨#[]⟩, .string ⟨#[]⟩, .int .i64 0, .int .i64 0, .slice none 0 0, .slice none 0 0, .slice none 0 0, .slice none 0 0] 39)) := (Below.refl _ _).alloc (Nat.le_refl _) _
  have H6 := Lib.hid (H5.out.bstep hal)
  have Hs6 := Lib.hid (Hs5.out.touch (Touch.of_below (p := fun _ => False) hal) (fun e => e) (fun _ e => e))
  have Hr6 := Lib.hid (Hr5.out.below hal Hr5.out.lt)
  have Hf6 : Hid (Blk (w5.alloc (.cells #[.int .u8 90, .int .u8 73, .string ⟨#[]⟩, .string ⟨#[]⟩, .string ⟨#[]⟩, .int .i64 0, .int .i64 0, .slice none 0 0, .slice none 0 0, .slice none 0 0, .slice none 0 0] 39)) w5.heap.size 39 #[.int .u8 90, .int .u8 73, .string ⟨#[]⟩, .string ⟨#[]⟩, .string ⟨#[]⟩, .int .i64 0, .int .i64 0, .slice none 0 0, .slice none 0 0, .slice none 0 0, .slice none 0 0]) := Lib.hid (Blk.new _ _ _)
  have hz6 : w5.heap.size < (w5.alloc (.cells #[.int .u8 90, .int .u8 73, .string ⟨#[]⟩, .string ⟨#[]⟩, .string ⟨#[]⟩, .int .i64 0, .int .i64 0, .slice none 0 0, .slice none 0 0, .slice none 0 0, .slice none 0 0] 39)).heap.size := by simp
  clear hal H5 Hs5 Hr5
  generalize w5.alloc (.cells #[.int .u8 90, .int .u8 73, .string ⟨#[]⟩, .string ⟨#[]⟩, .string ⟨#[]⟩, .int .i64 0, .int .i64 0, .slice none 0 0, .slice none 0 0, .slice none 0 0, .slice none 0 0] 39) = w6 at *
  generalize w5.heap.size = gf at *
  have r6 := Hr6.out.cell
  have f6 := Hf6.out.cell
  have HD := Lib.hid (scanDone_any sb g [] false w6 Hs6.out)
  rw [show (!false && ([] : List UInt8).isEmpty) = true from rfl] at HD
  have HC := Lib.hid (bcheck_any (fun _ => True) zB baNil w6 (BaL.nil _ _ _ rfl rfl rfl rfl) ⟨by decide, by decide, by decide, by decide⟩)
  rw [zB_ok, show baArg zB baNil = .agg #[.int .u8 90, .int .u8 73, .string ⟨#[]⟩, .string ⟨#[]⟩, .string ⟨#[]⟩, .int .i64 0, .int .i64 0, .slice none 0 0, .slice none 0 0, .slice none 0 0, .slice none 0 0] from rfl] at HC
  go_upto_region 7 with (first | (go_at_call 83; refine HD.out.mono ?_; rintro e w7 ⟨rfl, rfl⟩) | (go_at_call 19; refine HC.out.mono ?_; rintro e w7 ⟨rfl, hb⟩))
  have H7 := Lib.hid (H6.out.bstep hb)
  have Hf7 := Lib.hid (Hf6.out.below hb Hf6.out.lt)
  clear hb r6 f6 H6 Hs6 Hr6 Hf6 HD HC
  have c2 : ∀ i, w7.cell? ⟨w.heap.size + 1, i, none⟩ = (#[.int .u8 0, .int .u8 0, .string ⟨#[]⟩, .string ⟨#[]⟩, .string ⟨#[]⟩, .int .i64 0, .int .i64 0, .slice none 0 0, .slice none 0 0, .slice none 0 0, .slice none 0 0] : Array Value)[i]? := H7.out.r.cell
  have f2 := H7.out.r.frozen
  have f7 := Hf7.out.cell
  go_wp2_with fail
  have hT := setEl_touch w7 (w.heap.size + 1) (.int .u8 90) (.int .u8 73) (.string ⟨#[]⟩) (.string ⟨#[]⟩) (.string ⟨#[]⟩) (.int .i64 0) (.int .i64 0) (.slice none 0 0) (.slice none 0 0) (.slice none 0 0) (.slice none 0 0)
  have hbf := setEl_blk (.int .u8 90) (.int .u8 73) (.string ⟨#[]⟩) (.string ⟨#[]⟩) (.string ⟨#[]⟩) (.int .i64 0) (.int .i64 0) (.slice none 0 0) (.slice none 0 0) (.slice none 0 0) (.slice none 0 0) H7.out.r
  have HH := Lib.hid (H7.out.bel.trans (hT.below H7.out.bel.size (fun j e => by omega)))
  unfold setEl at hbf HH
  have hcf := hbf.cell
  clear hT hbf c2 f2 f7
  refine bodyPost_ret (v := .tuple #[.agg #[.int .u8 90, .int .u8 73, .string ⟨#[]⟩, .string ⟨#[]⟩, .string ⟨#[]⟩, .int .i64 0, .int .i64 0, .slice none 0 0, .slice none 0 0, .slice none 0 0, .slice none 0 0], .int .i64 0]) (by simp [results, Tryz.results25, go_sem, hcf]) rfl ?_
  exact ⟨rfl, HH.out⟩

theorem zB_body : bodyB zB = [73] := by decide +kernel
theorem zB_bytes : bytesB [zB] = [90, 0, 0, 0, 5, 73] := by decide +kernel
theorem zB_small : SmallB zB := ⟨by decide +kernel, by decide +kernel, by decide +kernel, by decide +kernel, by decide +kernel, (fun c hc => by cases hc), by decide +kernel, (fun c hc => by cases hc), by decide +kernel, (fun c hc => by cases hc)⟩
theorem zB_short : ShortB zB := ⟨zB_small, by rw [zB_body]; decide⟩
theorem zB_bas (S : Nat → Prop) (w : World) : BaS S w (#[.int .u8 90, .int .u8 73, .string ⟨#[]⟩, .string ⟨#[]⟩, .string ⟨#[]⟩, .int .i64 0, .int .i64 0, .slice none 0 0, .slice none 0 0, .slice none 0 0, .slice none 0 0] : Array Value).toList zB :=
  ⟨baNil, rfl, BaL.nil _ _ _ rfl rfl rfl rfl, by decide, by decide, by decide, by decide⟩

set_option maxRecDepth 100000 in
set_option maxHeartbeats 4000000 in
theorem baAwake_any (w : World) : Calls Tryz.prog 16 #[] w fun e w' => e = .returned (.bool true) ∧ Below w.heap.size w w' := by
  have Hev : Hid (encB zB = (90, [73], 0)) := Lib.hid (by unfold encB; rw [if_pos zB_ok, zB_body]; rfl)
  have Hbd := Lib.hid (benc_any (fun _ => True) zB baNil w (BaL.nil _ _ _ rfl rfl rfl rfl) ⟨by decide, by decide, by decide, by decide⟩ zB_small)
  unfold EncB at Hbd
  rw [Hev.out, show baArg zB baNil = .agg #[.int .u8 90, .int .u8 73, .string ⟨#[]⟩, .string ⟨#[]⟩, .string ⟨#[]⟩, .int .i64 0, .int .i64 0, .slice none 0 0, .slice none 0 0, .slice none 0 0, .slice none 0 0] from rfl] at Hbd
  dsimp only at Hbd
  have HDc := Lib.hid (fun (p : Option Addr) (c : Nat) (w : World) hb => bdec_Z p c w hb)
  have HBy := Lib.hid (fun w0 : World => bbytes_any _ _ _ 1 [zB] _ (SliceS.new1 (S := fun _ => False) BaS.still w0 39 #[.int .u8 90, .int .u8 73, .string ⟨#[]⟩, .string ⟨#[]⟩, .string ⟨#[]⟩, .int .i64 0, .int .i64 0, .slice none 0 0, .slice none 0 0, .slice none 0 0, .slice none 0 0] zB (zB_bas _ _) rfl (S' := fun _ => True) (fun _ _ h => h.elim) trivial) (by show 1 ≤ 1000; omega) (fun x hx => by rw [List.mem_singleton] at hx; subst hx; exact zB_short))
  rw [zB_bytes] at HBy
  go_enter Tryz.func16, Tryz.ntmps16
  go_wp2_with fail
  refine Hbd.out.mono ?_
  rintro e w2 ⟨v2, rfl, ho2, hb2⟩
  obtain ⟨p2, c2, hv2, -, -, q2, -⟩ := OwnBR.slice ho2
  subst hv2
  have q2' : BytesIn w2 p2 [73] := q2
  have Hp := Lib.hid (HDc.out p2 c2 _ (q2'.below ((Below.refl _ _).alloc (Nat.le_refl _) (.cells #[.int .u8 90, .slice p2 1 c2] 42))))
  have HW2 := Lib.hid (hb2.alloc hb2.size (.cells #[.int .u8 90, .slice p2 1 c2] 42))
  clear ho2 hb2 q2 q2' Hbd HDc
  go_wp2_with fail
  refine Hp.out.mono ?_
  rintro e w3 ⟨rfl, hb3⟩
  have HW3 := Lib.hid (HW2.out.trans (hb3.mono HW2.out.size))
  have HW4 := Lib.hid ((HW3.out.alloc HW3.out.size (.cells #[.int .u8 90, .int .u8 73, .string ⟨#[]⟩, .string ⟨#[]⟩, .string ⟨#[]⟩, .int .i64 0, .int .i64 0, .slice none 0 0, .slice none 0 0, .slice none 0 0, .slice none 0 0] 39)))
  have HW5 := Lib.hid ((HW4.out.alloc HW4.out.size (.cells #[.int .u8 90, .int .u8 73, .string ⟨#[]⟩, .string ⟨#[]⟩, .string ⟨#[]⟩, .int .i64 0, .int .i64 0, .slice none 0 0, .slice none 0 0, .slice none 0 0, .slice none 0 0] 39)))
  have Hy := Lib.hid (HBy.out (w3.alloc (.cells #[.int .u8 90, .int .u8 73, .string ⟨#[]⟩, .string ⟨#[]⟩, .string ⟨#[]⟩, .int .i64 0, .int .i64 0, .slice none 0 0, .slice none 0 0, .slice none 0 0, .slice none 0 0] 39)))
  clear hb3 HBy Hp HW2
  go_upto_region 3 with fail
  have hc4 := (Blk.new w3 39 #[.int .u8 90, .int .u8 73, .string ⟨#[]⟩, .string ⟨#[]⟩, .string ⟨#[]⟩, .int .i64 0, .int .i64 0, .slice none 0 0, .slice none 0 0, .slice none 0 0, .slice none 0 0]).cell
  generalize w3.alloc (.cells #[.int .u8 90, .int .u8 73, .string ⟨#[]⟩, .string ⟨#[]⟩, .string ⟨#[]⟩, .int .i64 0, .int .i64 0, .slice none 0 0, .slice none 0 0, .slice none 0 0, .slice none 0 0] 39) = w4 at *
  go_wp2_with fail
  generalize w4.alloc (.cells #[.int .u8 90, .int .u8 73, .string ⟨#[]⟩, .string ⟨#[]⟩, .string ⟨#[]⟩, .int .i64 0, .int .i64 0, .slice none 0 0, .slice none 0 0, .slice none 0 0, .slice none 0 0] 39) = w5 at *
  refine Hy.out.mono ?_
  rintro e w6 ⟨v6, rfl, ho6, hb6⟩
  obtain ⟨p6, c6, hv6, -, -, q6, -⟩ := ho6.slice
  subst hv6
  have HW6 := Lib.hid (HW5.out.trans (hb6.mono HW5.out.size))
  have HW7 := Lib.hid (HW6.out.alloc HW6.out.size (.cells #[.int .u8 90, .int .u8 0, .int .u8 0, .int .u8 0, .int .u8 5, .int .u8 73] 5))
  have he := equal_any p6 (some ⟨w6.heap.size, 0, none⟩) [90, 0, 0, 0, 5, 73] [90, 0, 0, 0, 5, 73] c6 6 _ (q6.alloc (.cells #[.int .u8 90, .int .u8 0, .int .u8 0, .int .u8 0, .int .u8 5, .int .u8 73] 5)) (BytesIn.newB w6 [90, 0, 0, 0, 5, 73] #[.int .u8 90, .int .u8 0, .int .u8 0, .int .u8 0, .int .u8 5, .int .u8 73] 5 rfl)
  rw [beq_self_eq_true] at he
  have He := Lib.hid he
  clear ho6 hb6 q6 he Hy
  go_wp2_with fail
  refine He.out.mono ?_
  rintro e wx ⟨rfl, rfl⟩
  go_wp2_with fail
  go_ret
  exact ⟨rfl, HW7.out⟩

end Go.Proofs.YthhebfknikfleaaGreat
