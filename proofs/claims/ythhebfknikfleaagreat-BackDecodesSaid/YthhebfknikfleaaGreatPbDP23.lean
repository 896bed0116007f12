/-
  Ground: BbK, BbL, FpM, BbS, BbM, MgS, BbMr.
-/
import Derived.Test.YthhebfknikfleaaGreatPbDXBbJ
import Derived.Test.YthhebfknikfleaaGreatPbDP6
import Derived.Test.YthhebfknikfleaaGreatPbDP4
import Derived.Test.YthhebfknikfleaaGreatPbDP1
import Derived.Test.YthhebfknikfleaaGreatPbDP21
import Derived.Test.YthhebfknikfleaaGreatPbDP17
import Derived.Test.YthhebfknikfleaaGreatPbDP0
/-
  Messages of servers (layer 7): a message that is read, a T, and any kind: the document's.
-/
namespace Go.Proofs.YthhebfknikfleaaGreat
open Go.RowKit
set_option linter.unusedVariables false
set_option linter.unusedSimpArgs false

/-- What holds of a message's blocks while a list grows. -/
structure BmG (sb n : Nat) (w0 w : World) (f : BaV) (a : BaP) : Prop where
  lt : sb < w0.heap.size
  hn : w0.heap.size ≤ n
  b2 : Blk w n 39 baZ
  b3 : Blk w (n + 1) 39 (baCells f a)
  tch : Touch (fun k => k = sb) w0 w
theorem BmI.grow {sb n : Nat} {w0 w w' : World} {f : BaV} {a : BaP} {row : Option Nat} (h : BmI sb n w0 w f a) (o : Obj) (hg : (w.alloc o).grownBy w' row) (hr : ∀ k, row = some k → n + 2 ≤ k ∧ k < w.heap.size) : BmG sb n w0 w' f a := by
  have h1 := h.lt
  have h2 := h.hn
  refine ⟨h1, h2, (h.b2.alloc o).grown hg (fun e => ?_), (h.b3.alloc o).grown hg (fun e => ?_), (h.tch.alloc o).then (Touch.of_row hg) (fun i hi e => ?_)⟩
  · have := hr n e.symm; omega
  · have := hr (n + 1) e.symm; omega
  · have := hr i e.symm; omega
theorem BmG.set {sb n : Nat} {w0 w : World} {f f' : BaV} {a a' : BaP} (h : BmG sb n w0 w f a) (i : Nat) (u : Value) (hl : BaL (fun k => n + 2 ≤ k) w f' a') (hc : (baCells f a).setIfInBounds i u = baCells f' a') : BmI sb n w0 (w.setCell ⟨n + 1, i, none⟩ u) f' a' := by
  have h1 := h.lt
  have h2 := h.hn
  have hT := BmI.tset w n i u
  refine ⟨h1, h2, hT.blk h.b2 (by omega), ?_, hl.keep (Kept.touch hT (fun k hk hs => ⟨hs, fun e => by have hs' : n + 2 ≤ k := hs; omega⟩)), h.tch.then hT (fun k hk e => by omega)⟩
  rw [← hc]
  exact h.b3.set_ i u
theorem BmG.lists {sb n : Nat} {w0 w : World} {f : BaV} {a : BaP} {xs : List CoV} {p : Option Addr} {c : Nat} (h : BmG sb n w0 w f a) (ho : OwnCo (n + 2) w (.slice p xs.length c) xs) : BaL (fun k => n + 2 ≤ k) w { baZero 84 with cols := xs } { baNil with pc := p, cc := c } := by
  obtain ⟨p', c', e, hs⟩ := OwnCo.lstB ho (n + 2) (Nat.le_refl _)
  injection e with e1 e2 e3
  subst e1 e3
  exact ⟨SliceS.empty none 0 (by simp [maxLen]), hs, SliceS.empty none 0 (by simp [maxLen]), SliceS.empty none 0 (by simp [maxLen])⟩

set_option maxRecDepth 100000 in
set_option maxHeartbeats 4000000 in
theorem brmsg_T (sb g : Nat) (L : List UInt8) (bad : Bool) (w : World) (h : RefS w sb g L bad) (hL : L.length ≤ 100000) :
    Calls Tryz.prog 85 #[.pointer (some ⟨sb, 0, none⟩), .int .u8 84] w (brmsgR sb g L bad 84 w) := by
  have hsb := h.lt
  have Hg := Lib.hid (fun e : L ≠ [] => h.ltgF e)
  have hm := BmI.start sb w w 84 (Touch.refl _ w) hsb
  have hs := h.touch (p := fun _ => False) (((Touch.refl _ w).alloc (.cells baZ 39)).alloc (.cells (baCells (baZero 84) baNil) 39)) (fun e => e) (fun _ e => e)
  unfold baZ at hm hs
  rw [show baCells (baZero 84) baNil = #[.int .u8 84, .int .u8 0, .string ⟨#[]⟩, .string ⟨#[]⟩, .string ⟨#[]⟩, .int .i64 0, .int .i64 0, .slice none 0 0, .slice none 0 0, .slice none 0 0, .slice none 0 0] from rfl] at hm hs
  have Hm1 := Lib.hid hm
  have Hs1 := Lib.hid hs
  clear h hm hs
  go_enter Tryz.func85, Tryz.ntmps85
  go_upto_region 2 with (fail)
  generalize (w.alloc (.cells #[.int .u8 0, .int .u8 0, .string ⟨#[]⟩, .string ⟨#[]⟩, .string ⟨#[]⟩, .int .i64 0, .int .i64 0, .slice none 0 0, .slice none 0 0, .slice none 0 0, .slice none 0 0] 39)).alloc (.cells #[.int .u8 84, .int .u8 0, .string ⟨#[]⟩, .string ⟨#[]⟩, .string ⟨#[]⟩, .int .i64 0, .int .i64 0, .slice none 0 0, .slice none 0 0, .slice none 0 0, .slice none 0 0] 39) = w1 at *
  obtain ⟨nx1, L1, b1, hq, ht, hc⟩ := brNum_o Hs1.out 2 2 (by decide)
  obtain ⟨nn, hnn, hnb⟩ := num16 L bad
  have hnx : nx1 = (nn : Int) := by rw [ht]; exact hnn
  have HQ := Lib.hid hq
  have hL1 := hq.2.2
  have HNE := Lib.hid (fun e => hq.neB e)
  have HC := Lib.hid hc
  rw [hnx] at HC HQ
  clear hq hc ht hnn hnx
  go_wp2_with fail
  refine HC.out.mono ?_
  rintro e w2 ⟨rfl, hs2, hT2⟩
  have hz2 := hT2.size
  have HS2 := Lib.hid hs2
  have Hm2 := Lib.hid (Hm1.out.step hT2)
  clear hs2 hT2 HC Hm1 Hs1
  go_wp2_with fail
  go_loopw [6] (fun i wr => ∃ (m : Nat) (T : List UInt8) (b : Bool) (xs : List CoV) (p : Option Addr) (c : Nat), xs.length + m = nn ∧ i = .int .i64 (m : Int) ∧ MnI coRd (manyP coRd nn L1) b1 m T b xs ∧ (T ≠ [] → L ≠ []) ∧ T.length ≤ L1.length ∧ OwnCo (w.heap.size + 2) wr (.slice p xs.length c) xs ∧ RefS wr sb g T b ∧ BmI sb w.heap.size w wr { baZero 84 with cols := xs } { baNil with pc := p, cc := c }) (fun i _ => (intOf i).toNat)
  case atStart => exact ⟨nn, L1, b1, [], none, 0, by simp, rfl, MnI.start nn, HNE.out, Nat.le_refl _, OwnS.empty _, HS2.out, Hm2.out⟩
  case round =>
    obtain ⟨m, T, b, xs, p, c, hm6, rfl, hI, hTL, hTl, ho, hs, hm⟩ := hrel
    have hzr := hm.tch.size
    have HI := Lib.hid hI
    have HTL := Lib.hid hTL
    have Ho := Lib.hid ho
    have HS := Lib.hid hs
    have Hm := Lib.hid hm
    have Hrow := Lib.hid ho.row
    have Hfin := Lib.hid (fun hm : m = 0 ∨ b = true => MnI.fin HQ.out rfl hI hm hTl)
    have hb3 := hm.b3.lt
    obtain ⟨pq, cq, hcr⟩ := hs.cellsF
    clear hI hTL ho hs hm
    cases m with
    | zero =>
      have Hst := Lib.hid (Hfin.out (.inl rfl))
      clear hcr
      go_upto_region 26 with (fail)
      have c3 : ∀ i, wr.cell? ⟨w.heap.size + 1, i, none⟩ = (#[.int .u8 84, .int .u8 0, .string ⟨#[]⟩, .string ⟨#[]⟩, .string ⟨#[]⟩, .int .i64 0, .int .i64 0, .slice none 0 0, .slice p xs.length c, .slice none 0 0, .slice none 0 0] : Array Value)[i]? := Hm.out.b3.cell
      have c2 : ∀ i, wr.cell? ⟨w.heap.size, i, none⟩ = (#[.int .u8 0, .int .u8 0, .string ⟨#[]⟩, .string ⟨#[]⟩, .string ⟨#[]⟩, .int .i64 0, .int .i64 0, .slice none 0 0, .slice none 0 0, .slice none 0 0, .slice none 0 0] : Array Value)[i]? := Hm.out.b2.cell
      have f2 := Hm.out.b2.frozen
      go_wp2_with fail
      have hT := setEl_touch wr w.heap.size (.int .u8 84) (.int .u8 0) (.string ⟨#[]⟩) (.string ⟨#[]⟩) (.string ⟨#[]⟩) (.int .i64 0) (.int .i64 0) (.slice none 0 0) (.slice p xs.length c) (.slice none 0 0) (.slice none 0 0)
      have hbf := setEl_blk (.int .u8 84) (.int .u8 0) (.string ⟨#[]⟩) (.string ⟨#[]⟩) (.string ⟨#[]⟩) (.int .i64 0) (.int .i64 0) (.slice none 0 0) (.slice p xs.length c) (.slice none 0 0) (.slice none 0 0) Hm.out.b2
      have hl := Hm.out.lst.keep (S' := fun k => w.heap.size ≤ k) (Kept.touch hT (fun k hk hs => by have hs' : w.heap.size + 2 ≤ k := hs; exact ⟨by omega, by omega⟩))
      have hs := HS.out.touch hT (by omega) (fun hne e => by have := Hg.out (HTL.out hne); omega)
      have ht := Hm.out.tch.then hT (fun k hk e => by omega)
      have HH := Lib.hid (And.intro hl (And.intro hs ht))
      unfold setEl at hbf HH
      have hcf := hbf.cell
      clear hT hbf hl hs ht c2 c3 f2
      refine bodyPost_ret (v := .agg #[.int .u8 84, .int .u8 0, .string ⟨#[]⟩, .string ⟨#[]⟩, .string ⟨#[]⟩, .int .i64 0, .int .i64 0, .slice none 0 0, .slice p xs.length c, .slice none 0 0, .slice none 0 0]) (by simp [results, Tryz.results85, go_sem, hcf]) rfl ?_
      exact ⟨{ baZero 84 with cols := xs }, { baNil with pc := p, cc := c }, T, b, rfl, HH.out.1, HH.out.2.1, readB_T Hst.out, HH.out.2.2⟩
    | succ m =>
      obtain ⟨mi, hmi⟩ : ∃ mi : Int, ((m + 1 : Nat) : Int) = mi := ⟨_, rfl⟩
      rw [hmi]
      have hpos : 0 < mi := by omega
      have hwm : IntKind.i64.wrap (mi - 1) = (m : Int) := by rw [IntKind.wrap_i64]; omega
      have Hmi := Lib.hid hmi
      clear hmi
      cases b with
      | true =>
        have Hst := Lib.hid (Hfin.out (.inr rfl))
        go_upto_region 26 with (fail)
        clear hcr
        have c3 : ∀ i, wr.cell? ⟨w.heap.size + 1, i, none⟩ = (#[.int .u8 84, .int .u8 0, .string ⟨#[]⟩, .string ⟨#[]⟩, .string ⟨#[]⟩, .int .i64 0, .int .i64 0, .slice none 0 0, .slice p xs.length c, .slice none 0 0, .slice none 0 0] : Array Value)[i]? := Hm.out.b3.cell
        have c2 : ∀ i, wr.cell? ⟨w.heap.size, i, none⟩ = (#[.int .u8 0, .int .u8 0, .string ⟨#[]⟩, .string ⟨#[]⟩, .string ⟨#[]⟩, .int .i64 0, .int .i64 0, .slice none 0 0, .slice none 0 0, .slice none 0 0, .slice none 0 0] : Array Value)[i]? := Hm.out.b2.cell
        have f2 := Hm.out.b2.frozen
        go_wp2_with fail
        have hT := setEl_touch wr w.heap.size (.int .u8 84) (.int .u8 0) (.string ⟨#[]⟩) (.string ⟨#[]⟩) (.string ⟨#[]⟩) (.int .i64 0) (.int .i64 0) (.slice none 0 0) (.slice p xs.length c) (.slice none 0 0) (.slice none 0 0)
        have hbf := setEl_blk (.int .u8 84) (.int .u8 0) (.string ⟨#[]⟩) (.string ⟨#[]⟩) (.string ⟨#[]⟩) (.int .i64 0) (.int .i64 0) (.slice none 0 0) (.slice p xs.length c) (.slice none 0 0) (.slice none 0 0) Hm.out.b2
        have hl := Hm.out.lst.keep (S' := fun k => w.heap.size ≤ k) (Kept.touch hT (fun k hk hs => by have hs' : w.heap.size + 2 ≤ k := hs; exact ⟨by omega, by omega⟩))
        have hs := HS.out.touch hT (by omega) (fun hne e => by have := Hg.out (HTL.out hne); omega)
        have ht := Hm.out.tch.then hT (fun k hk e => by omega)
        have HH := Lib.hid (And.intro hl (And.intro hs ht))
        unfold setEl at hbf HH
        have hcf := hbf.cell
        clear hT hbf hl hs ht c2 c3 f2
        refine bodyPost_ret (v := .agg #[.int .u8 84, .int .u8 0, .string ⟨#[]⟩, .string ⟨#[]⟩, .string ⟨#[]⟩, .int .i64 0, .int .i64 0, .slice none 0 0, .slice p xs.length c, .slice none 0 0, .slice none 0 0]) (by simp [results, Tryz.results85, go_sem, hcf]) rfl ?_
        exact ⟨{ baZero 84 with cols := xs }, { baNil with pc := p, cc := c }, T, true, rfl, HH.out.1, HH.out.2.1, readB_T Hst.out, HH.out.2.2⟩

      | false =>
        clear Hfin
        have HSd := Lib.hid (HS.out.touch ((Touch.refl (fun _ => False) wr).drew) (fun e => e) (fun _ e => e))
        have HC := Lib.hid (rrdCol_any sb g T false wr.drew HSd.out (by omega))
        have Hmd := Lib.hid (Hm.out.step ((Touch.refl _ wr).drew))
        have Hod := Lib.hid (Ho.out.touch (S' := fun k => w.heap.size + 2 ≤ k) CoS.still ((Touch.refl (fun _ => False) wr).drew) (fun _ _ e => e) (fun k _ hk _ => ⟨hk, fun e => e⟩))
        have hzd : wr.drew.heap.size = wr.heap.size := rfl
        have hrm : xs.length + 1 ≤ 1000000 := by omega
        go_upto_region 20 with (fail)
        clear hcr
        have c3 : ∀ i, wr.drew.cell? ⟨w.heap.size + 1, i, none⟩ = (#[.int .u8 84, .int .u8 0, .string ⟨#[]⟩, .string ⟨#[]⟩, .string ⟨#[]⟩, .int .i64 0, .int .i64 0, .slice none 0 0, .slice p xs.length c, .slice none 0 0, .slice none 0 0] : Array Value)[i]? := Hmd.out.b3.cell
        generalize hxl : xs.length = nxs at *
        go_region_law (first
          | (refine rgn_callF rfl 123 _ _ HC.out (by go_simp) ?_; rintro e w4 ⟨⟨n4, t4, a4, o4, s4, m4, f4⟩, L4, b4, rfl, hn4, hs4, hq4, hT4⟩; refine ⟨_, rfl, ?_⟩; have hz4 := hT4.size; have HT4 := Lib.hid hT4; have Hs4 := Lib.hid hs4; have Hq4 := Lib.hid hq4; have Hn4 := Lib.hid hn4; have hm4 := Hmd.out.step hT4; have c4 : ∀ i, w4.cell? ⟨w.heap.size + 1, i, none⟩ = (#[.int .u8 84, .int .u8 0, .string ⟨#[]⟩, .string ⟨#[]⟩, .string ⟨#[]⟩, .int .i64 0, .int .i64 0, .slice none 0 0, .slice p nxs c, .slice none 0 0, .slice none 0 0] : Array Value)[i]? := (by have := hm4.b3.cell; rw [← hxl]; exact this); have c4a : ∀ i, (w4.alloc (.cells #[.string n4, .int .i64 t4, .int .i64 a4, .int .i64 o4, .int .i64 s4, .int .i64 m4, .int .i64 f4] 79)).cell? ⟨w.heap.size + 1, i, none⟩ = (#[.int .u8 84, .int .u8 0, .string ⟨#[]⟩, .string ⟨#[]⟩, .string ⟨#[]⟩, .int .i64 0, .int .i64 0, .slice none 0 0, .slice p nxs c, .slice none 0 0, .slice none 0 0] : Array Value)[i]? := (by have := (hm4.b3.alloc (.cells #[.string n4, .int .i64 t4, .int .i64 a4, .int .i64 o4, .int .i64 s4, .int .i64 m4, .int .i64 f4] 79)).cell; rw [← hxl]; exact this); have Hm4 := Lib.hid hm4; have Ho4 : Hid (OwnCo (w.heap.size + 2) w4 (.slice p nxs c) xs) := Lib.hid (Hod.out.touch (S' := fun k => w.heap.size + 2 ≤ k) CoS.still hT4 (fun k hk => by have := (Hrow.out k hk).1; omega) (fun k _ hk _ => ⟨hk, fun e => by have hk' : w.heap.size + 2 ≤ k := hk; omega⟩)); clear hs4 hq4 hT4 hn4 hm4)
          | (refine rgn_appendCo rfl (.tmp 66) (.tmp 69) rfl (w.heap.size + 2) (.slice p nxs c) xs rfl (Ho4.out.below' CoS.still ((Below.refl _ _).alloc (Nat.le_refl _) _)) (some ⟨w4.heap.size, 0, none⟩) 1 1 [⟨n4, t4, a4, o4, s4, m4, f4⟩] rfl (SliceS.new1 (S := fun k => w.heap.size + 2 ≤ k ∧ rowOf (.slice p nxs c) ≠ some k) (S' := fun k => w.heap.size + 2 ≤ k ∧ rowOf (.slice p nxs c) ≠ some k) CoS.still w4 79 #[.string n4, .int .i64 t4, .int .i64 a4, .int .i64 o4, .int .i64 s4, .int .i64 m4, .int .i64 f4] ⟨n4, t4, a4, o4, s4, m4, f4⟩ ⟨rfl, (by have h : n4.size ≤ T.length := Hn4.out; show n4.size ≤ maxLen; unfold maxLen; omega)⟩ rfl (fun k _ h => h) ⟨by omega, fun e => by have := (Hrow.out _ e).2; omega⟩) (by rw [hxl]; simpa using hrm) (by rw [World.size_alloc]; omega) ?_; intro v5 w5 ho5 hg5 hn5; obtain ⟨p5, k5, hv5⟩ : ∃ p c, v5 = .slice p (nxs + 1) c := (by obtain ⟨css, h1, _⟩ := ho5; obtain ⟨p, c, h, _⟩ := h1.slice; exact ⟨p, c, by rw [h, List.length_append, hxl]; rfl⟩); subst hv5; have hz5 := hg5.size; have hG5 := Hm4.out.grow _ hg5 (fun k e => ⟨(Hrow.out k e).1, by have := (Hrow.out k e).2; omega⟩); have c5 : ∀ i, w5.cell? ⟨w.heap.size + 1, i, none⟩ = (#[.int .u8 84, .int .u8 0, .string ⟨#[]⟩, .string ⟨#[]⟩, .string ⟨#[]⟩, .int .i64 0, .int .i64 0, .slice none 0 0, .slice p nxs c, .slice none 0 0, .slice none 0 0] : Array Value)[i]? := (by have := hG5.b3.cell; rw [← hxl]; exact this); have f5 := hG5.b3.frozen; have HG5 := Lib.hid hG5; have Ho5 := Lib.hid ho5; have HS5 := Lib.hid ((Hs4.out.touch ((Touch.refl (fun _ => False) w4).alloc _) (fun e => e) (fun _ e => e)).touch (Touch.of_row hg5) (fun e => by have := (Hrow.out _ e.symm).1; omega) (fun hne e => by have := (Hrow.out _ e.symm).1; have := Hg.out (HTL.out (Hq4.out.neB hne)); omega)); clear hG5 ho5 hg5 hn5))
        all_goals
          have hl := HG5.out.lists (xs := xs ++ [⟨n4, t4, a4, o4, s4, m4, f4⟩]) (p := p5) (c := k5) (by have := Ho5.out; rw [show nxs + 1 = (xs ++ [(⟨n4, t4, a4, o4, s4, m4, f4⟩ : CoV)]).length by rw [List.length_append, hxl]; rfl] at this; exact this)
          have hm6 := HG5.out.set 8 (.slice p5 (nxs + 1) k5) hl (by rw [show nxs + 1 = (xs ++ [(⟨n4, t4, a4, o4, s4, m4, f4⟩ : CoV)]).length by rw [List.length_append, hxl]; rfl]; rfl)
          have hT := BmI.tset w5 w.heap.size 8 (.slice p5 (nxs + 1) k5)
          have ho6 := Ho5.out.touch (S' := fun k => w.heap.size + 2 ≤ k) CoS.still hT (fun k hk e => by have h := (Ho5.out.row k hk).1; omega) (fun k _ hk _ => ⟨hk, fun e => by have hk' : w.heap.size + 2 ≤ k := hk; omega⟩)
          have hs6 := HS5.out.touch hT (by omega) (fun hne e => by have := Hg.out (HTL.out (Hq4.out.neB hne)); omega)
          have HH := Lib.hid (And.intro hm6 (And.intro ho6 hs6))
          have HI4 := Lib.hid (HI.out.step Hq4.out)
          have HTL4 : Hid (L4 ≠ [] → L ≠ []) := Lib.hid (fun e => HTL.out (Hq4.out.neB e))
          have hTl4 : L4.length ≤ L1.length := Nat.le_trans Hq4.out.2.2 hTl
          clear hl hm6 hT ho6 hs6 c5 f5 c3 c4 c4a
          generalize w5.setCell ⟨w.heap.size + 1, 8, none⟩ (.slice p5 (nxs + 1) k5) = w6 at *
          go_wp2_with fail
          go_roundw
          case rel => exact ⟨m, L4, b4, xs ++ [⟨n4, t4, a4, o4, s4, m4, f4⟩], p5, k5, by simp; omega, by first | rfl | trivial, HI4.out, HTL4.out, hTl4, (by have := HH.out.2.1; rw [show nxs + 1 = (xs ++ [(⟨n4, t4, a4, o4, s4, m4, f4⟩ : CoV)]).length by rw [List.length_append, hxl]; rfl] at this; exact this), HH.out.2.2, HH.out.1⟩
          case measure => have := Hmi.out; simp [intOf]; omega


theorem brmsg_any (sb g : Nat) (L : List UInt8) (bad : Bool) (w : World) (h : RefS w sb g L bad) (hL : L.length ≤ 100000) (k : Int) :
    Calls Tryz.prog 85 #[.pointer (some ⟨sb, 0, none⟩), .int .u8 k] w (brmsgR sb g L bad k w) := by
  by_cases h0 : k = 82
  · subst h0; exact brmsg_R sb g L bad w h hL
  by_cases h1 : k = 83
  · subst h1; exact brmsg_S sb g L bad w h hL
  by_cases h2 : k = 75
  · subst h2; exact brmsg_K sb g L bad w h hL
  by_cases h3 : k = 90
  · subst h3; exact brmsg_Z sb g L bad w h hL
  by_cases h4 : k = 67
  · subst h4; exact brmsg_C sb g L bad w h hL
  by_cases h5 : k = 68
  · subst h5; exact brmsg_D sb g L bad w h hL
  by_cases h6 : k = 84
  · subst h6; exact brmsg_T sb g L bad w h hL
  by_cases h7 : k = 116
  · subst h7; exact brmsg_t sb g L bad w h hL
  by_cases h8 : k = 69
  · subst h8; exact brmsg_69 sb g L bad w h hL
  by_cases h9 : k = 78
  · subst h9; exact brmsg_78 sb g L bad w h hL
  exact brmsg_other sb g L bad w h hL k h0 h1 h2 h3 h4 h5 h6 h7 (by omega)

end Go.Proofs.YthhebfknikfleaaGreat

/-
  Messages of servers (layer 7): Decode, the document's.
-/
namespace Go.Proofs.YthhebfknikfleaaGreat
open Go.RowKit
set_option linter.unusedVariables false
set_option linter.unusedSimpArgs false

set_option maxRecDepth 100000 in
set_option maxHeartbeats 4000000 in
theorem rbdec_any (k : Int) (h0 : 0 ≤ k) (h1 : k < 256) (p : Option Addr) (l : List UInt8) (cap : Nat) (w : World) (hl : l.length ≤ 100000) (hb : BytesIn w p l) :
    Calls Tryz.prog 26 #[.agg #[.int .u8 k, .slice p l.length cap]] w (DecBR k l w) := by
  have H1 := Lib.hid (BdI.start w #[.int .u8 k, .slice p l.length cap])
  have HK := Lib.hid (fun w0 : World => rkind_any k w0)
  have HU := Lib.hid (fun h : servK k = false => decB_unknown (L := l) h)
  have HQ := Lib.hid (fun (L' : List UInt8) (f : BaV) (b : Bool) (h1 : servK k = true) h2 h3 => @decB_bad k l L' f b h1 h2 h3)
  have HG := Lib.hid (fun (f : BaV) (h1 : servK k = true) h2 => @decB_ok k l f h1 h2)
  have Hb1 : Hid (BytesIn ((w.alloc (.cells #[.int .u8 k, .slice p l.length cap] 42)).alloc (.cells baZ 39)) p l) := Lib.hid ((((Touch.refl (fun _ => False) w).alloc _).alloc _).bytesIn hb (fun _ _ _ e => e))
  unfold baZ at H1 Hb1
  clear hb
  go_enter Tryz.func26, Tryz.ntmps26
  go_upto_region 1 with (fail)
  generalize (w.alloc (.cells #[.int .u8 k, .slice p l.length cap] 42)).alloc (.cells #[.int .u8 0, .int .u8 0, .string ⟨#[]⟩, .string ⟨#[]⟩, .string ⟨#[]⟩, .int .i64 0, .int .i64 0, .slice none 0 0, .slice none 0 0, .slice none 0 0, .slice none 0 0] 39) = w1 at *
  have c1 := H1.out.m.cell
  go_wp2_with fail
  refine (HK.out w1).mono ?_
  rintro e w2 ⟨rfl, hb⟩
  have H2 : Hid (BdI w w2 #[.int .u8 k, .slice p l.length cap]) := Lib.hid (by rw [← hb]; exact H1.out)
  have Hb2 : Hid (BytesIn w2 p l) := Lib.hid (by rw [← hb]; exact Hb1.out)
  clear hb c1 Hb1 H1 HK
  generalize hkv : servK k = kv at *
  clear hkv
  cases kv with
  | false =>
    have Hd := Lib.hid (HU.out rfl)
    clear HQ HG HU
    have c2 : ∀ i, w2.cell? ⟨w.heap.size + 1, i, none⟩ = (#[.int .u8 0, .int .u8 0, .string ⟨#[]⟩, .string ⟨#[]⟩, .string ⟨#[]⟩, .int .i64 0, .int .i64 0, .slice none 0 0, .slice none 0 0, .slice none 0 0, .slice none 0 0] : Array Value)[i]? := H2.out.r.cell
    have f2 := H2.out.r.frozen
    go_wp2_with fail
    obtain ⟨hbf, hl', hB⟩ := H2.out.done (BaL.zero (fun _ => False) w2 0) (fun _ e => e.elim)
    have HH := Lib.hid (And.intro hl' hB)
    clear hl' hB c2 f2
    unfold setEl baCells baZero baNil at hbf
    unfold setEl at HH
    dsimp only [List.length_nil] at hbf
    have hcf := hbf.cell
    clear hbf
    refine bodyPost_ret (v := .tuple #[.agg #[.int .u8 0, .int .u8 0, .string ⟨#[]⟩, .string ⟨#[]⟩, .string ⟨#[]⟩, .int .i64 0, .int .i64 0, .slice none 0 0, .slice none 0 0, .slice none 0 0, .slice none 0 0], .int .i64 9]) (by simp [results, Tryz.results26, go_sem, hcf]) rfl ?_
    unfold DecBR
    rw [Hd.out]
    exact ⟨baNil, rfl, HH.out.1, HH.out.2⟩

  | true =>
    have Hq := Lib.hid (fun L' f b => HQ.out L' f b rfl)
    have Hg := Lib.hid (fun f => HG.out f rfl)
    clear HQ HG HU
    have c2 := H2.out.m.cell
    have HN := Lib.hid (refSNew_any p l cap w2 (by omega) Hb2.out)
    go_upto_region 4 with (go_at_call 84; refine HN.out.mono ?_; rintro e w3 ⟨sb, g, rfl, hs, hsb, hg, hT⟩; have H3 := Lib.hid (H2.out.step hT (fun _ e => e.elim)); have Hs3 := Lib.hid hs; have hz3 := hT.size; clear hs hT HN c2)
    have hw2 := H2.out.r.lt
    have hsl := Hs3.out.lt
    have H4 := Lib.hid H3.out
    have Hs4 := Lib.hid Hs3.out
    clear H3 Hs3 H2 Hb2
    generalize w3 = w4 at *
    have c4 := H4.out.m.cell
    have HM := Lib.hid (brmsg_any sb g l false w4 Hs4.out hl k)
    unfold brmsgR baArg baCells at HM
    go_upto_region 5 with (go_at_call 85; refine HM.out.mono ?_; rintro e w5 ⟨f, a, L', b', rfl, hfl, hs, hq, hT⟩; have H5 := Lib.hid (H4.out.step hT (fun j e => by omega)); have Hs5 := Lib.hid hs; have Hfl5 := Lib.hid hfl; have HQ := Lib.hid hq; have hz5 := hT.size; clear hs hT hfl hq HM c4 H4 Hs4)
    obtain ⟨xk, xs, xt, xn, xv, xa, xb, xo, xc, xr, xf⟩ := f
    obtain ⟨apo, aco, apc, acc, apr, acr, apf, acf⟩ := a
    dsimp only
    have hw5 := H5.out.r.lt
    have hal : Below w5.heap.size w5 (w5.alloc (.cells #[.int .u8 xk, .int .u8 xs, .string xt, .string xn, .string xv, .int .i64 xa, .int .i64 xb, .slice apo xo.length aco, .slice apc xc.length acc, .slice apr xr.length acr, .slice apf xf.length acf] 39)) := (Below.refl _ _).alloc (Nat.le_refl _) _
    have H6 := Lib.hid (H5.out.bstep hal)
    have Hs6 := Lib.hid (Hs5.out.touch (Touch.of_below (p := fun _ => False) hal) (fun e => e) (fun _ e => e))
    have Hf6 : Hid (Blk (w5.alloc (.cells #[.int .u8 xk, .int .u8 xs, .string xt, .string xn, .string xv, .int .i64 xa, .int .i64 xb, .slice apo xo.length aco, .slice apc xc.length acc, .slice apr xr.length acr, .slice apf xf.length acf] 39)) w5.heap.size 39 #[.int .u8 xk, .int .u8 xs, .string xt, .string xn, .string xv, .int .i64 xa, .int .i64 xb, .slice apo xo.length aco, .slice apc xc.length acc, .slice apr xr.length acr, .slice apf xf.length acf]) := Lib.hid (Blk.new _ _ _)
    have Hfl6 := Lib.hid (Hfl5.out.below hal)
    have hz6 : w5.heap.size < (w5.alloc (.cells #[.int .u8 xk, .int .u8 xs, .string xt, .string xn, .string xv, .int .i64 xa, .int .i64 xb, .slice apo xo.length aco, .slice apc xc.length acc, .slice apr xr.length acr, .slice apf xf.length acf] 39)).heap.size := by simp
    clear hal H5 Hs5 Hfl5
    generalize w5.alloc (.cells #[.int .u8 xk, .int .u8 xs, .string xt, .string xn, .string xv, .int .i64 xa, .int .i64 xb, .slice apo xo.length aco, .slice apc xc.length acc, .slice apr xr.length acr, .slice apf xf.length acf] 39) = w6 at *
    generalize w5.heap.size = gf at *
    have f6 := Hf6.out.cell
    have HD := Lib.hid (refSDone_any sb g L' b' w6 Hs6.out)
    have HQ' := Lib.hid HQ.out
    clear HQ
    generalize hem : (!b' && L'.isEmpty) = em at *
    cases em with
    | false =>
      have Hd := Lib.hid (Hq.out _ _ _ HQ'.out hem)
      clear hem
      have c2 : ∀ i, w6.cell? ⟨w.heap.size + 1, i, none⟩ = (#[.int .u8 0, .int .u8 0, .string ⟨#[]⟩, .string ⟨#[]⟩, .string ⟨#[]⟩, .int .i64 0, .int .i64 0, .slice none 0 0, .slice none 0 0, .slice none 0 0, .slice none 0 0] : Array Value)[i]? := H6.out.r.cell
      have f2 := H6.out.r.frozen
      go_wp2_with (go_at_call 86; refine HD.out.mono ?_; rintro e w7 ⟨rfl, rfl⟩)
      obtain ⟨hbf, hl', hB⟩ := H6.out.done (BaL.zero (fun _ => False) w6 0) (fun _ e => e.elim)
      have HH := Lib.hid (And.intro hl' hB)
      clear hl' hB c2 f2
      unfold setEl baCells baZero baNil at hbf
      unfold setEl at HH
      dsimp only [List.length_nil] at hbf
      have hcf := hbf.cell
      clear hbf
      refine bodyPost_ret (v := .tuple #[.agg #[.int .u8 0, .int .u8 0, .string ⟨#[]⟩, .string ⟨#[]⟩, .string ⟨#[]⟩, .int .i64 0, .int .i64 0, .slice none 0 0, .slice none 0 0, .slice none 0 0, .slice none 0 0], .int .i64 4]) (by simp [results, Tryz.results26, go_sem, hcf]) rfl ?_
      unfold DecBR
      rw [Hd.out]
      exact ⟨baNil, rfl, HH.out.1, HH.out.2⟩

    | true =>
      have hb' : b' = false := by cases b' <;> simp at hem ⊢
      subst hb'
      have hL' : L' = [] := by cases L' <;> simp at hem ⊢
      subst hL'
      clear hem
      have hrd := (HQ'.out.1 rfl).2
      have hpt := readB_parts hrd
      have htx := readB_texts hrd
      have hfb : BaB ⟨xk, xs, xt, xn, xv, xa, xb, xo, xc, xr, xf⟩ := ⟨by have := hpt.kind; dsimp only at this; show 0 ≤ xk; omega, by have := hpt.kind; dsimp only at this; show xk < 256; omega, hpt.status.1, hpt.status.2⟩
      have HC := Lib.hid (rbcheck_any _ ⟨xk, xs, xt, xn, xv, xa, xb, xo, xc, xr, xf⟩ ⟨apo, aco, apc, acc, apr, acr, apf, acf⟩ w6 Hfl6.out hfb (by have := htx.1; dsimp only at this ⊢; simp [maxLen]; omega) (by have := htx.2.1; dsimp only at this ⊢; simp [maxLen]; omega) (by have := htx.2.2; dsimp only at this ⊢; simp [maxLen]; omega))
      have Hd := Lib.hid (Hg.out _ HQ'.out)
      clear hrd hpt htx hfb HQ' Hq Hg
      unfold baArg baCells at HC
      dsimp only at HC
      generalize hcv : checkB ⟨xk, xs, xt, xn, xv, xa, xb, xo, xc, xr, xf⟩ = cv at *
      clear hcv
      by_cases hc0 : cv = 0
      · subst hc0
        have Hd' : Hid (decB k l = (⟨xk, xs, xt, xn, xv, xa, xb, xo, xc, xr, xf⟩, 0)) := Lib.hid (by rw [Hd.out, if_pos rfl])
        clear Hd
        go_upto_region 7 with (first | (go_at_call 86; refine HD.out.mono ?_; rintro e w7 ⟨rfl, rfl⟩) | (go_at_call 20; refine HC.out.mono ?_; rintro e w7 ⟨rfl, hb⟩))
        have H7 := Lib.hid (H6.out.bstep hb)
        have Hf7 := Lib.hid (Hf6.out.below hb Hf6.out.lt)
        have Hfl7 := Lib.hid (Hfl6.out.below hb)
        clear hb f6 H6 Hs6 Hfl6 Hf6 HD HC
        have c2 : ∀ i, w7.cell? ⟨w.heap.size + 1, i, none⟩ = (#[.int .u8 0, .int .u8 0, .string ⟨#[]⟩, .string ⟨#[]⟩, .string ⟨#[]⟩, .int .i64 0, .int .i64 0, .slice none 0 0, .slice none 0 0, .slice none 0 0, .slice none 0 0] : Array Value)[i]? := H7.out.r.cell
        have f2 := H7.out.r.frozen
        have f7 := Hf7.out.cell
        go_wp2_with fail
        obtain ⟨hbf, hl', hB⟩ := H7.out.done Hfl7.out (fun j hj => ⟨by omega, by omega⟩)
        have HH := Lib.hid (And.intro hl' hB)
        clear hl' hB c2 f2 f7
        unfold setEl baCells at hbf
        unfold setEl at HH
        dsimp only at hbf HH
        have hcf := hbf.cell
        clear hbf
        refine bodyPost_ret (v := .tuple #[.agg #[.int .u8 xk, .int .u8 xs, .string xt, .string xn, .string xv, .int .i64 xa, .int .i64 xb, .slice apo xo.length aco, .slice apc xc.length acc, .slice apr xr.length acr, .slice apf xf.length acf], .int .i64 0]) (by simp [results, Tryz.results26, go_sem, hcf]) rfl ?_
        unfold DecBR
        rw [Hd'.out]
        exact ⟨⟨apo, aco, apc, acc, apr, acr, apf, acf⟩, rfl, HH.out.1, HH.out.2⟩
      · have Hd' : Hid (decB k l = (baZero 0, 4)) := Lib.hid (by rw [Hd.out, if_neg hc0])
        clear Hd
        have hci : (cv != 0) = true := by simpa using hc0
        go_upto_region 6 with (first | (go_at_call 86; refine HD.out.mono ?_; rintro e w7 ⟨rfl, rfl⟩) | (go_at_call 20; refine HC.out.mono ?_; rintro e w7 ⟨rfl, hb⟩))
        have H7 := Lib.hid (H6.out.bstep hb)
        clear hb f6 H6 Hs6 Hfl6 Hf6 HD HC
        have Hd := Hd'
        clear Hd'
        have c2 : ∀ i, w7.cell? ⟨w.heap.size + 1, i, none⟩ = (#[.int .u8 0, .int .u8 0, .string ⟨#[]⟩, .string ⟨#[]⟩, .string ⟨#[]⟩, .int .i64 0, .int .i64 0, .slice none 0 0, .slice none 0 0, .slice none 0 0, .slice none 0 0] : Array Value)[i]? := H7.out.r.cell
        have f2 := H7.out.r.frozen
        go_wp2_with fail
        obtain ⟨hbf, hl', hB⟩ := H7.out.done (BaL.zero (fun _ => False) w7 0) (fun _ e => e.elim)
        have HH := Lib.hid (And.intro hl' hB)
        clear hl' hB c2 f2
        unfold setEl baCells baZero baNil at hbf
        unfold setEl at HH
        dsimp only [List.length_nil] at hbf
        have hcf := hbf.cell
        clear hbf
        refine bodyPost_ret (v := .tuple #[.agg #[.int .u8 0, .int .u8 0, .string ⟨#[]⟩, .string ⟨#[]⟩, .string ⟨#[]⟩, .int .i64 0, .int .i64 0, .slice none 0 0, .slice none 0 0, .slice none 0 0, .slice none 0 0], .int .i64 4]) (by simp [results, Tryz.results26, go_sem, hcf]) rfl ?_
        unfold DecBR
        rw [Hd.out]
        exact ⟨baNil, rfl, HH.out.1, HH.out.2⟩


end Go.Proofs.YthhebfknikfleaaGreat

/-
  Plain laws of sizes: texts, numbers and values as bytes.
-/
namespace Go.Proofs.YthhebfknikfleaaGreat
open Go.RowKit
set_option linter.unusedVariables false
set_option linter.unusedSimpArgs false

theorem numsC_len {z : Nat} (l : List Int) : (numsC z l).length = z * l.length := by
  induction l with
  | nil => rfl
  | cons n l ih =>
    have e : numsC z (n :: l) = putB n z z ++ numsC z l := rfl
    rw [e, List.length_append, putB_length, ih, List.length_cons, Nat.mul_succ, Nat.add_comm]
theorem listC_len {z : Nat} (l : List Int) : (listC z l).length = 2 + z * l.length := by
  unfold listC
  rw [List.length_append, putB_length, numsC_len]
theorem cellC_len (c : CeV) : (cellC c).length ≤ 4 + c.bytes.length ∧ 4 ≤ (cellC c).length ∧ (c.null = false → (cellC c).length = 4 + c.bytes.length) := by
  unfold cellC
  split
  · rename_i h
    rw [putB_length]
    exact ⟨by omega, by omega, fun e => by rw [e] at h; cases h⟩
  · rw [List.length_append, putB_length]
    exact ⟨by omega, by omega, fun _ => rfl⟩
theorem cellsC_len (l : List CeV) (B : Nat) (h : ∀ c ∈ l, c.bytes.length ≤ B) : (cellsC l).length ≤ (4 + B) * l.length := by
  induction l with
  | nil => simp [cellsC]
  | cons c l ih =>
    have h1 := ih (fun x hx => h x (by simp [hx]))
    have h2 := h c (by simp)
    have h3 := (cellC_len c).1
    have e : cellsC (c :: l) = cellC c ++ cellsC l := rfl
    rw [e, List.length_append, List.length_cons, Nat.mul_succ]
    omega
/-- Values are no more, and no longer, than their bytes. -/
theorem cellsC_many (l : List CeV) (h : ∀ c ∈ l, rightC c) : 4 * l.length ≤ (cellsC l).length ∧ ∀ c ∈ l, c.bytes.length ≤ (cellsC l).length := by
  induction l with
  | nil => exact ⟨Nat.zero_le _, fun c hc => by cases hc⟩
  | cons c l ih =>
    obtain ⟨h1, h2⟩ := ih (fun x hx => h x (by simp [hx]))
    have h3 := cellC_len c
    have e : cellsC (c :: l) = cellC c ++ cellsC l := rfl
    have hc : c.bytes.length ≤ (cellC c).length := by
      cases hn : c.null with
      | true => rw [(h c (by simp)).1 hn]; exact Nat.zero_le _
      | false => rw [h3.2.2 hn]; omega
    rw [e, List.length_append, List.length_cons]
    refine ⟨by omega, fun x hx => ?_⟩
    rcases List.mem_cons.1 hx with rfl | hx
    · omega
    · have := h2 x hx; omega
theorem strP_len (s : ByteArray) : (strP s).length = s.size + 1 := by
  unfold strP
  rw [List.length_append, size_data]
  rfl

end Go.Proofs.YthhebfknikfleaaGreat

/-
  Messages of servers (layer 7): what is read of few bytes is small: a plain law.
-/
namespace Go.Proofs.YthhebfknikfleaaGreat
open Go.RowKit
set_option linter.unusedVariables false
set_option linter.unusedSimpArgs false

theorem colsC_many (l : List CoV) : 19 * l.length ≤ (colsC l).length ∧ ∀ c ∈ l, c.name.size ≤ (colsC l).length := by
  induction l with
  | nil => exact ⟨Nat.zero_le _, fun c hc => by cases hc⟩
  | cons c l ih =>
    obtain ⟨h1, h2⟩ := ih
    have e : colsC (c :: l) = colC c ++ colsC l := rfl
    have hc : (colC c).length = c.name.size + 19 := by
      unfold colC
      simp only [List.length_append, putB_length, strP_len]
    rw [e, List.length_append, List.length_cons]
    refine ⟨by omega, fun x hx => ?_⟩
    rcases List.mem_cons.1 hx with rfl | hx
    · omega
    · have := h2 x hx; omega
theorem fieldsC_many (l : List FdV) : 2 * l.length ≤ (fieldsC l).length ∧ ∀ c ∈ l, c.text.size ≤ (fieldsC l).length := by
  induction l with
  | nil => exact ⟨Nat.zero_le _, fun c hc => by cases hc⟩
  | cons c l ih =>
    obtain ⟨h1, h2⟩ := ih
    have e : fieldsC (c :: l) = fieldC c ++ fieldsC l := rfl
    have hc : (fieldC c).length = c.text.size + 2 := by
      unfold fieldC
      rw [List.length_append, putB_length, strP_len]
      omega
    rw [e, List.length_append, List.length_cons]
    refine ⟨by omega, fun x hx => ?_⟩
    rcases List.mem_cons.1 hx with rfl | hx
    · omega
    · have := h2 x hx; omega
/-- Lists that a kind does not have are empty. -/
theorem kept_lists {x : BaV} (h : x = keptB x) : (x.kind ≠ 84 → x.cols = []) ∧ (x.kind ≠ 68 → x.row = []) ∧ (¬ (x.kind = 69 ∨ x.kind = 78) → x.fields = []) := by
  unfold keptB at h
  refine ⟨fun hk => ?_, fun hk => ?_, fun hk => ?_⟩
  · have e := congrArg BaV.cols h
    rw [e]
    repeat' split
    all_goals first | rfl | (exfalso; omega)
  · have e := congrArg BaV.row h
    rw [e]
    repeat' split
    all_goals first | rfl | (exfalso; omega)
  · have e := congrArg BaV.fields h
    rw [e]
    repeat' split
    all_goals first | rfl | (exfalso; omega)
theorem read_smallB {k : Int} {L : List UInt8} {x : BaV} (h : readB k L = some (x, [])) (hc : checkB x = 0) (hL : L.length ≤ 2000) : SmallB x := by
  have hr := readB_parts h
  have ht := readB_texts h
  have ok := checkB_ok hc
  obtain ⟨l1, l2, l3⟩ := kept_lists ok.kept
  have hb := hr.body
  have hcs : x.cols.length ≤ 1000 ∧ ∀ c ∈ x.cols, c.name.size ≤ 10000 := by
    by_cases hk : x.kind = 84
    · unfold bodyBC at hb
      rw [if_neg (by omega), if_neg (by omega), if_neg (by omega), if_neg (by omega), if_neg (by omega), if_neg (by omega), if_pos hk] at hb
      have hl := congrArg List.length hb
      unfold colLC at hl
      rw [List.length_append, putB_length] at hl
      have := colsC_many x.cols
      exact ⟨by omega, fun c hc => by have := this.2 c hc; omega⟩
    · rw [l1 hk]
      exact ⟨by simp, fun c hc => by cases hc⟩
  have hrs : x.row.length ≤ 1000 ∧ ∀ c ∈ x.row, c.bytes.length ≤ 2000 := by
    by_cases hk : x.kind = 68
    · unfold bodyBC at hb
      rw [if_neg (by omega), if_neg (by omega), if_neg (by omega), if_neg (by omega), if_neg (by omega), if_pos hk] at hb
      have hl := congrArg List.length hb
      unfold rowC at hl
      rw [List.length_append, putB_length] at hl
      have := cellsC_many x.row ok.row.2
      exact ⟨by omega, fun c hc => by have := this.2 c hc; omega⟩
    · rw [l2 hk]
      exact ⟨by simp, fun c hc => by cases hc⟩
  have hfs : x.fields.length ≤ 1000 ∧ ∀ c ∈ x.fields, c.text.size ≤ 10000 := by
    by_cases hk : x.kind = 69 ∨ x.kind = 78
    · unfold bodyBC at hb
      rw [if_neg (by omega), if_neg (by omega), if_neg (by omega), if_neg (by omega), if_neg (by omega), if_neg (by omega), if_neg (by omega), if_neg (by omega), if_pos hk] at hb
      have hl := congrArg List.length hb
      rw [List.length_append, putB_length] at hl
      have := fieldsC_many x.fields
      exact ⟨by omega, fun c hc => by have := this.2 c hc; omega⟩
    · rw [l3 hk]
      exact ⟨by simp, fun c hc => by cases hc⟩
  exact ⟨by omega, by omega, by omega, by have := ok.oids.1; omega, hcs.1, hcs.2, hrs.1, hrs.2, hfs.1, hfs.2⟩
/-- Decode: nothing, or a message that may be, with just these bytes. -/
theorem dec_partsB (k : Int) (L : List UInt8) (hL : L.length ≤ 2000) :
    ((decB k L).2 = 0 ∧ encB (decB k L).1 = (k, L, 0) ∧ BaB (decB k L).1 ∧ SmallB (decB k L).1) ∨ ((decB k L).2 ≠ 0 ∧ (decB k L).1 = baZero 0) := by
  unfold decB
  split
  · rename_i hk
    split
    · rename_i f hf
      split
      · rename_i hc
        have hr := readB_parts hf
        have hb : bodyB f = L := by rw [bodyB_c (checkB_ok hc) hr.status hr.codes]; exact hr.body
        have h8 := servK_byte hk
        refine .inl ⟨rfl, ?_, ⟨?_, ?_, hr.status.1, hr.status.2⟩, read_smallB hf hc hL⟩
        · show encB f = _
          unfold encB
          rw [if_pos hc, hb, hr.kind]
        · show 0 ≤ f.kind
          rw [hr.kind]; exact h8.1
        · show f.kind < 256
          rw [hr.kind]; exact h8.2
      · exact .inr ⟨by show (4 : Int) ≠ 0; decide, rfl⟩
    · exact .inr ⟨by show (4 : Int) ≠ 0; decide, rfl⟩
  · exact .inr ⟨by show (9 : Int) ≠ 0; decide, rfl⟩
/-- The codes of a message's fields in memory are bytes. -/
theorem BaL.codes {S : Nat → Prop} {w : World} {x : BaV} {a : BaP} (h : BaL S w x a) : FdsB x := by
  intro f hf
  obtain ⟨i, hi, rfl⟩ := List.mem_iff_getElem.1 hf
  obtain ⟨b, o, _, _, _, _, _, _, h0, h1⟩ := fd_at h.lf hi
  exact ⟨h0, h1⟩

end Go.Proofs.YthhebfknikfleaaGreat

/-
  Messages of servers (layer 7): the walk of BackDecodes.
-/
namespace Go.Proofs.YthhebfknikfleaaGreat
open Go.RowKit
set_option linter.unusedVariables false
set_option linter.unusedSimpArgs false

/-- The message's block and bytes. -/
structure BnI (w0 w : World) (k : Int) (p : Option Addr) (l : List UInt8) (c : Nat) : Prop where
  m : Blk w w0.heap.size 42 #[.int .u8 k, .slice p l.length c]
  y : BytesIn w p l
  bel : Below w0.heap.size w0 w
/-- One message in two blocks. -/
structure Bn2 (w : World) (g h : Nat) (x : BaV) (a b : BaP) : Prop where
  b1 : Blk w g 39 (baCells x a)
  b2 : Blk w h 39 (baCells x b)
  l1 : BaL (fun _ => True) w x a
  l2 : BaL (fun _ => True) w x b
section
variable {w0 w w' : World} {x y : BaV} {a b : BaP} {g h : Nat} {k : Int} {l : List UInt8} {p q : Option Addr} {c d : Nat}
theorem BnI.step (H : BnI w0 w k p l c) (hb : Below w.heap.size w w') : BnI w0 w' k p l c := ⟨H.m.below hb H.m.lt, H.y.below hb, H.bel.trans (hb.mono H.bel.size)⟩
theorem Bn2.step (H : Bn2 w g h x a b) (hb : Below w.heap.size w w') : Bn2 w' g h x a b := ⟨H.b1.below hb H.b1.lt, H.b2.below hb H.b2.lt, H.l1.below hb, H.l2.below hb⟩
theorem Bn2.cells (H : Bn2 w g h x a b) : (∀ i, w.cell? ⟨g, i, none⟩ = (baCells x a)[i]?) ∧ (∀ i, w.cell? ⟨h, i, none⟩ = (baCells x b)[i]?) := ⟨H.b1.cell, H.b2.cell⟩
theorem BnI.start {w : World} (hy : BytesIn w p l) : BnI w (w.alloc (.cells #[.int .u8 k, .slice p l.length c] 42)) k p l c := by
  have hb : Below w.heap.size w (w.alloc (.cells #[.int .u8 k, .slice p l.length c] 42)) := (Below.refl _ _).alloc (Nat.le_refl _) _
  exact ⟨Blk.new _ _ _, hy.below hb, hb⟩
end

set_option maxRecDepth 100000 in
set_option maxHeartbeats 4000000 in
theorem backDecodes_walk (k : Int) (h0 : 0 ≤ k) (h1 : k < 256) (p : Option Addr) (l : List UInt8) (c : Nat) (w : World) (hin : BytesIn w p l) :
    Calls Tryz.prog 6 #[.agg #[.int .u8 k, .slice p l.length c]] w fun e w' => e = .returned (.bool true) ∧ Below w.heap.size w w' := by
  have H0 : Hid (BnI w (w.alloc (.cells #[.int .u8 k, .slice p l.length c] 42)) k p l c) := Lib.hid (BnI.start hin)
  have Haw := Lib.hid (fun w0 => baAwake_any w0)
  have HC : Hid (∀ w1 : World, BnI w w1 k p l c → (∀ i, w1.cell? ⟨w.heap.size, i, none⟩ = (#[.int .u8 k, .slice p l.length c] : Array Value)[i]?)) := Lib.hid (fun w1 H => H.m.cell)
  have HE := Lib.hid (fun (hl : l.length ≤ 100000) (w0 : World) (H : BnI w w0 k p l c) => bdec_any k h0 h1 p l c w0 hl H.y)
  have HR := Lib.hid (fun (hl : l.length ≤ 100000) (w0 : World) (H : BnI w w0 k p l c) => rbdec_any k h0 h1 p l c w0 hl H.y)
  unfold DecBR at HE HR
  generalize decB k l = dv at *
  obtain ⟨x, er⟩ := dv
  dsimp only at HE HR
  clear hin
  go_enter Tryz.func6, Tryz.ntmps6
  go_upto_region 1 with (fail)
  generalize w.alloc (.cells #[.int .u8 k, .slice p l.length c] 42) = w1 at *
  have c1 := HC.out w1 H0.out
  by_cases hbig : (2000 : Int) < (l.length : Int)
  · go_wp2_with (first | (go_at_call 16; refine (Haw.out _).mono ?_; rintro e wz ⟨rfl, hb⟩; have HZ := Lib.hid (H0.out.step hb); clear hb))
    go_ret
    exact ⟨rfl, HZ.out.bel⟩
  · have hl : l.length ≤ 100000 := by omega
    have HE1 := Lib.hid (HE.out hl w1 H0.out)
    have HR1 := Lib.hid (HR.out hl)
    clear hl HE HR
    go_wp2_with fail
    refine HE1.out.mono ?_
    rintro e w4 ⟨a, rfl, hf4, hb4⟩
    have hal : Below w4.heap.size w4 (w4.alloc (.cells (baCells x a) 39)) := (Below.refl _ _).alloc (Nat.le_refl _) _
    have H4 := Lib.hid ((H0.out.step hb4).step hal)
    have Hf4 := Lib.hid (hf4.below hal)
    have Hm4 : Hid (Blk (w4.alloc (.cells (baCells x a) 39)) w4.heap.size 39 (baCells x a)) := Lib.hid (Blk.new _ _ _)
    clear hf4 hb4 hal c1 HE1
    obtain ⟨apo, aco, apc, acc, apr, acr, apf, acf⟩ := a
    have HDf : Hid (∀ (a b : BaP) (g h : Nat) (w1 : World), Bn2 w1 g h x a b → (∀ i, w1.cell? ⟨g, i, none⟩ = (baCells x a)[i]?) ∧ (∀ i, w1.cell? ⟨h, i, none⟩ = (baCells x b)[i]?)) := Lib.hid (fun a b g h w1 H => H.cells)
    have HS := Lib.hid (fun (a b : BaP) (g h : Nat) (w0 : World) (H : Bn2 w0 g h x a b) => rbsame_any _ _ x x a b w0 H.l1 H.l2)
    rw [baEq_self] at HS
    have HM : Hid (∀ (a b : BaP) (g h : Nat) (w w' : World), Blk w g 39 (baCells x a) → BaL (fun _ => True) w x a → Blk w' h 39 (baCells x b) → BaL (fun _ => True) w' x b → Below w.heap.size w w' → Bn2 w' g h x a b) := Lib.hid (fun a b g h w w' b1 l1 b2 l2 hb => ⟨b1.below hb b1.lt, b2, l1.below hb, l2⟩)
    obtain ⟨xk, xs, xt, xn, xv, xa, xb, xo, xc, xr, xf⟩ := x
    unfold baArg at *
    unfold baCells at HR1 Hm4 H4 Hf4 HDf HS HM ⊢
    dsimp only at *
    go_upto_region 4 with fail
    generalize w4.alloc (.cells #[.int .u8 xk, .int .u8 xs, .string xt, .string xn, .string xv, .int .i64 xa, .int .i64 xb, .slice apo xo.length aco, .slice apc xc.length acc, .slice apr xr.length acr, .slice apf xf.length acf] 39) = w5 at *
    generalize w4.heap.size = g4 at *
    have c5 := HC.out w5 H4.out
    have HR5 := Lib.hid (HR1.out w5 H4.out)
    go_wp2_with fail
    refine HR5.out.mono ?_
    rintro e w6 ⟨⟨bpo, bco, bpc, bcc, bpr, bcr, bpf, bcf⟩, rfl, hf6, hb6⟩
    try dsimp only at hf6 ⊢
    have hal : Below w6.heap.size w6 (w6.alloc (.cells #[.int .u8 xk, .int .u8 xs, .string xt, .string xn, .string xv, .int .i64 xa, .int .i64 xb, .slice bpo xo.length bco, .slice bpc xc.length bcc, .slice bpr xr.length bcr, .slice bpf xf.length bcf] 39)) := (Below.refl _ _).alloc (Nat.le_refl _) _
    have hab := hb6.trans (hal.mono hb6.size)
    have H6 := Lib.hid (H4.out.step hab)
    have HD6 := Lib.hid (HM.out _ _ _ _ w5 (w6.alloc (.cells #[.int .u8 xk, .int .u8 xs, .string xt, .string xn, .string xv, .int .i64 xa, .int .i64 xb, .slice bpo xo.length bco, .slice bpc xc.length bcc, .slice bpr xr.length bcr, .slice bpf xf.length bcf] 39)) Hm4.out Hf4.out.any (Blk.new _ _ _) (hf6.below hal).any hab)
    clear hf6 hb6 hal hab c5 HR5 Hm4 Hf4 HM
    go_upto_region 5 with fail
    try dsimp only at HD6
    generalize w6.alloc (.cells #[.int .u8 xk, .int .u8 xs, .string xt, .string xn, .string xv, .int .i64 xa, .int .i64 xb, .slice bpo xo.length bco, .slice bpc xc.length bcc, .slice bpr xr.length bcr, .slice bpf xf.length bcf] 39) = w7 at *
    generalize w6.heap.size = g6 at *
    have hS1 := HDf.out _ _ _ _ w7 HD6.out
    have HSm := Lib.hid (HS.out _ _ _ _ _ HD6.out)
    obtain ⟨s1, s2⟩ := hS1
    go_wp2_with (first
        | (go_at_call 22; refine HSm.out.mono ?_; rintro e w9 ⟨rfl, hb⟩; have H9 := Lib.hid (H6.out.step hb); clear hb)
        | (go_at_call 16; refine (Haw.out _).mono ?_; rintro e wA ⟨rfl, hb⟩; have HA := Lib.hid (H9.out.step hb); clear hb))
    go_ret
    exact ⟨rfl, HA.out.bel⟩

end Go.Proofs.YthhebfknikfleaaGreat

/-
  A message's type and bytes as an argument.
-/
namespace Go.Proofs.YthhebfknikfleaaGreat
open Go.RowKit
set_option linter.unusedVariables false
set_option linter.unusedSimpArgs false

/-- A type with its bytes, as it is handed over. -/
def MgS : Rd (Int × List UInt8) := fun S w cs x => (0 ≤ x.1 ∧ x.1 < 256) ∧ ∃ p c, cs = [.int .u8 x.1, .slice p x.2.length c] ∧ BytesS S w [.slice p x.2.length c] x.2
theorem opensS_mg : OpensS Tryz.prog 42 MgS := by
  intro H enc w base spare held fuel cs x h
  have S : StructOf Tryz.prog 42 _ := ⟨Tryz.underlying42, by kernel_rfl, by kernel_rfl⟩
  have hl := S.len h
  match cs, hl with
  | [c0, c1], _ =>
    obtain ⟨y0, e0, hw⟩ := S.field h 0 _ rfl c0 rfl (opens_int Tryz.underlying5)
    obtain ⟨y1, hy1⟩ := S.field h 1 _ rfl c1 rfl (opensS_bytes Tryz.underlying25 Tryz.underlying5 (by kernel_rfl))
    obtain ⟨p, c, rfl⟩ := BytesS.shape hy1
    simp only [List.cons.injEq, and_true] at e0
    subst e0
    exact ⟨(y0, y1), byte_of_wf hw, p, c, rfl, hy1⟩

end Go.Proofs.YthhebfknikfleaaGreat

/-
  Messages of servers (layer 7): BackDecodes' walk, of what a statement's arguments hold.
-/
namespace Go.Proofs.YthhebfknikfleaaGreat
open Go.RowKit
set_option linter.unusedVariables false
set_option linter.unusedSimpArgs false

theorem backDecodes_read (s : Array Value) (x : Int × List UInt8) (w : World) (h : MgS (fun k => k < w.heap.size) w s.toList x) :
    Calls Tryz.prog 6 #[.agg s] w fun e w' => e = .returned (.bool true) ∧ Below w.heap.size w w' := by
  obtain ⟨hb, p, c, hs, hl⟩ := h
  obtain rfl : s = #[.int .u8 x.1, .slice p x.2.length c] := Array.toList_inj.1 hs
  exact backDecodes_walk x.1 hb.1 hb.2 p x.2 c w hl.parts.2.2.2

end Go.Proofs.YthhebfknikfleaaGreat

