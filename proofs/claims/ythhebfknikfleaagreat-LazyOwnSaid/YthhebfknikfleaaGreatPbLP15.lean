/-
  Ground: GrC, GrD, LzC, Concat, LzD, LzE.
-/
import Derived.Test.YthhebfknikfleaaGreatPbLP14
import Derived.Test.YthhebfknikfleaaGreatPbLP1
import Derived.Test.YthhebfknikfleaaGreatPbLP0
import Derived.Lib.AppendZerosOnto
import Derived.Deep.RegionHeld3
/-
  What is said first (layer 11): Backs and Bytes of both; whether there are too many parameters.
-/
namespace Go.Proofs.YthhebfknikfleaaGreat
open Go.RowKit
set_option linter.unusedVariables false
set_option linter.unusedSimpArgs false

theorem greet_len (l : List PaV) (id : Int) : (greetV l id).length = l.length + 3 := by unfold greetV; simp

set_option maxRecDepth 100000 in
set_option maxHeartbeats 4000000 in
theorem backs_any (S : Nat → Prop) (p : Option Addr) (n c : Nat) (l : List PaV) (id : Int) (w : World) (h : SliceS 2 PaS S w [.slice p n c] l) (hl : l.length ≤ 1000) :
    Calls Tryz.prog 34 #[.slice p n c, .int .i64 id] w fun e w' => ∃ p c, e = .returned (.slice p (l.length + 3) c) ∧ SliceS 11 BaS (fun k => w.heap.size ≤ k) w' [.slice p (l.length + 3) c] (greetV l id) ∧ Below w.heap.size w w' := by
  obtain ⟨rfl, hlc, hcm⟩ := h.len
  unfold maxLen at hcm
  have Hk := Lib.hid (keys_any id w)
  have hal : Below w.heap.size w (w.alloc (.cells #[.int .u8 82, .int .u8 0, .string ⟨#[]⟩, .string ⟨#[]⟩, .string ⟨#[]⟩, .int .i64 0, .int .i64 0, .slice none 0 0, .slice none 0 0, .slice none 0 0, .slice none 0 0] 39)) := (Below.refl _ _).alloc (Nat.le_refl _) _
  have Hs := Lib.hid (settings_any S p _ c l _ (h.below PaS.still hal) hl)
  have Hd := Lib.hid (OwnBa.new1 w.heap.size w #[.int .u8 82, .int .u8 0, .string ⟨#[]⟩, .string ⟨#[]⟩, .string ⟨#[]⟩, .int .i64 0, .int .i64 0, .slice none 0 0, .slice none 0 0, .slice none 0 0, .slice none 0 0] (baZero 82) (Nat.le_refl _) rfl (fun _ _ => r_ba _ _))
  have HBa := Lib.hid hal
  have hlg : w.heap.size < (w.alloc (.cells #[.int .u8 82, .int .u8 0, .string ⟨#[]⟩, .string ⟨#[]⟩, .string ⟨#[]⟩, .int .i64 0, .int .i64 0, .slice none 0 0, .slice none 0 0, .slice none 0 0, .slice none 0 0] 39)).heap.size := by simp
  have Hln : Hid ((baZero 82 :: l.map setV).length ≤ 1001) := Lib.hid (by simp; omega)
  clear h hal
  go_enter Tryz.func34, Tryz.ntmps34
  go_wp2_with fail
  refine Hk.out.mono ?_
  rintro e wx ⟨rfl, rfl⟩
  go_wp2_with fail
  generalize w.alloc (.cells #[.int .u8 82, .int .u8 0, .string ⟨#[]⟩, .string ⟨#[]⟩, .string ⟨#[]⟩, .int .i64 0, .int .i64 0, .slice none 0 0, .slice none 0 0, .slice none 0 0, .slice none 0 0] 39) = wa at *
  refine Hs.out.mono ?_
  rintro e w2 ⟨p2, c2, rfl, hs2, hb2⟩
  have Hd2 := Lib.hid (OwnS.below' BaS.still Hd.out hb2)
  have Hs2 := Lib.hid hs2
  have HB2 := Lib.hid (HBa.out.trans (hb2.mono HBa.out.size))
  have Hrd := Lib.hid Hd2.out.row
  have hz2 := HB2.out.size
  clear hs2 hb2 Hs Hk
  go_upto_region 3 with (at_builtin; refine step_appendBa _ rfl (.tmp 14) (.tmp 16) rfl w.heap.size (.slice (some ⟨w.heap.size, 0, none⟩) 1 1) [baZero 82] rfl Hd2.out p2 l.length c2 (l.map setV) rfl (SliceS.weak BaS.still Hs2.out (fun k' _ hk' => by have hk2 : wa.heap.size ≤ k' := hk'; exact ⟨by omega, fun e => by rw [rowOf_pos (by omega)] at e; have e2 := Option.some.inj e; omega⟩)) (by rw [List.length_map, List.length_singleton]; omega) hz2 ?_; intro v3 w3 ho3 hg3 hn3; have Ho3 : Hid (OwnBa w.heap.size w3 v3 (baZero 82 :: l.map setV)) := Lib.hid ho3; have HB3 := Lib.hid (HB2.out.trans (Below.of_row hg3 hz2 (fun k hk => (Hrd.out k hk).1))); clear ho3 hg3 hn3)
  have Hn := Lib.hid (show SliceS 11 BaS (fun j => j = w3.heap.size) (w3.alloc (.cells #[.int .u8 75, .int .u8 0, .string ⟨#[]⟩, .string ⟨#[]⟩, .string ⟨#[]⟩, .int .i64 (keyI id), .int .i64 (keyM id), .slice none 0 0, .slice none 0 0, .slice none 0 0, .slice none 0 0, .int .u8 90, .int .u8 73, .string ⟨#[]⟩, .string ⟨#[]⟩, .string ⟨#[]⟩, .int .i64 0, .int .i64 0, .slice none 0 0, .slice none 0 0, .slice none 0 0, .slice none 0 0] 39)) [.slice (some ⟨w3.heap.size, 0, none⟩) 2 2] [keyB id, idleB] from slice2Ba w3 [.int .u8 75, .int .u8 0, .string ⟨#[]⟩, .string ⟨#[]⟩, .string ⟨#[]⟩, .int .i64 (keyI id), .int .i64 (keyM id), .slice none 0 0, .slice none 0 0, .slice none 0 0, .slice none 0 0] [.int .u8 90, .int .u8 73, .string ⟨#[]⟩, .string ⟨#[]⟩, .string ⟨#[]⟩, .int .i64 0, .int .i64 0, .slice none 0 0, .slice none 0 0, .slice none 0 0, .slice none 0 0] (keyB id) idleB rfl rfl (fun _ _ => key_ba id _ _) (fun _ _ => idle_ba _ _))
  have Hob := Lib.hid (OwnS.below' BaS.still Ho3.out ((Below.refl _ _).alloc (Nat.le_refl _) (.cells #[.int .u8 75, .int .u8 0, .string ⟨#[]⟩, .string ⟨#[]⟩, .string ⟨#[]⟩, .int .i64 (keyI id), .int .i64 (keyM id), .slice none 0 0, .slice none 0 0, .slice none 0 0, .slice none 0 0, .int .u8 90, .int .u8 73, .string ⟨#[]⟩, .string ⟨#[]⟩, .string ⟨#[]⟩, .int .i64 0, .int .i64 0, .slice none 0 0, .slice none 0 0, .slice none 0 0, .slice none 0 0] 39)))
  have Hr3 := Lib.hid Ho3.out.row
  have hz3 := HB3.out.size
  have HBb := Lib.hid (HB3.out.alloc hz3 (.cells #[.int .u8 75, .int .u8 0, .string ⟨#[]⟩, .string ⟨#[]⟩, .string ⟨#[]⟩, .int .i64 (keyI id), .int .i64 (keyM id), .slice none 0 0, .slice none 0 0, .slice none 0 0, .slice none 0 0, .int .u8 90, .int .u8 73, .string ⟨#[]⟩, .string ⟨#[]⟩, .string ⟨#[]⟩, .int .i64 0, .int .i64 0, .slice none 0 0, .slice none 0 0, .slice none 0 0, .slice none 0 0] 39))
  generalize keyI id = ki at *
  generalize keyM id = km at *
  go_wp2_with (at_builtin; refine step_appendBa _ rfl (.tmp 18) (.tmp 23) rfl w.heap.size _ _ rfl Hob.out (some ⟨w3.heap.size, 0, none⟩) 2 2 [keyB id, idleB] rfl (SliceS.weak BaS.still Hn.out (fun k' _ hk' => by have hk2 : k' = w3.heap.size := hk'; exact ⟨by omega, fun e => by have := (Hr3.out k' e).2; omega⟩)) (by have := Hln.out; show _ + 2 ≤ 1000000; omega) HBb.out.size ?_; intro v9 w9 ho9 hg9 hn9; obtain ⟨p9, c9, hv9, hs9⟩ := OwnBa.lst ho9; subst hv9; have Hs9 : Hid (SliceS 11 BaS (fun k => w.heap.size ≤ k) w9 [.slice p9 (greetV l id).length c9] (greetV l id)) := Lib.hid hs9; have HB9 := Lib.hid (HBb.out.trans (Below.of_row hg9 HBb.out.size (fun k hk => (Hr3.out k hk).1))); clear ho9 hg9 hn9 hs9)
  rw [greet_len] at Hs9
  go_ret
  exact ⟨_, _, rfl, Hs9.out, HB9.out⟩

set_option maxRecDepth 100000 in
set_option maxHeartbeats 4000000 in
theorem rbacks_any (S : Nat → Prop) (p : Option Addr) (n c : Nat) (l : List PaV) (id : Int) (w : World) (h : SliceS 2 PaS S w [.slice p n c] l) (hl : l.length ≤ 1000) :
    Calls Tryz.prog 27 #[.slice p n c, .int .i64 id] w fun e w' => ∃ p c, e = .returned (.slice p (l.length + 3) c) ∧ SliceS 11 BaS (fun k => w.heap.size ≤ k) w' [.slice p (l.length + 3) c] (greetV l id) ∧ Below w.heap.size w w' := by
  obtain ⟨rfl, hlc, hcm⟩ := h.len
  unfold maxLen at hcm
  have Hk := Lib.hid (fun w0 : World => rkeys_any id w0)
  have Hd := Lib.hid (OwnBa.new1 w.heap.size w #[.int .u8 82, .int .u8 0, .string ⟨#[]⟩, .string ⟨#[]⟩, .string ⟨#[]⟩, .int .i64 0, .int .i64 0, .slice none 0 0, .slice none 0 0, .slice none 0 0, .slice none 0 0] (baZero 82) (Nat.le_refl _) rfl (fun _ _ => r_ba _ _))
  have HBa := Lib.hid ((Below.refl w.heap.size w).alloc (Nat.le_refl _) (.cells #[.int .u8 82, .int .u8 0, .string ⟨#[]⟩, .string ⟨#[]⟩, .string ⟨#[]⟩, .int .i64 0, .int .i64 0, .slice none 0 0, .slice none 0 0, .slice none 0 0, .slice none 0 0] 39))
  have H := Lib.hid h
  have Hln : Hid ((baZero 82 :: l.map setV).length ≤ 1001) := Lib.hid (by simp; omega)
  clear h
  go_enter Tryz.func27, Tryz.ntmps27
  go_upto_region 2 with fail
  generalize w.alloc (.cells #[.int .u8 82, .int .u8 0, .string ⟨#[]⟩, .string ⟨#[]⟩, .string ⟨#[]⟩, .int .i64 0, .int .i64 0, .slice none 0 0, .slice none 0 0, .slice none 0 0, .slice none 0 0] 39) = wa at *
  go_wp2_with fail
  go_loopw [5, 6] (fun v i wr => ∃ k : Nat, k ≤ l.length ∧ i = .int .i64 k ∧ OwnBa w.heap.size wr v (baZero 82 :: (l.take k).map setV) ∧ Below w.heap.size w wr) (fun _ i _ => l.length - (intOf i).toNat)
  case atStart => exact ⟨0, Nat.zero_le _, rfl, Hd.out, HBa.out⟩
  case round =>
    obtain ⟨k, hk, rfl, ho, hb⟩ := hrel
    have hsz := hb.size
    have Hb := Lib.hid hb
    have Ho := Lib.hid ho
    by_cases hlt : k < l.length
    · obtain ⟨b, o, rfl, hS, hbl, c0, c1⟩ := pa_at (H.out.below PaS.still hb) hlt
      have Htk : Hid (baZero 82 :: (l.take (k + 1)).map setV = (baZero 82 :: (l.take k).map setV) ++ [setV l[k]]) := Lib.hid (by rw [List.take_succ_eq_append_getElem hlt, List.map_append]; rfl)
      have Hl9 : Hid ((baZero 82 :: (l.take k).map setV).length ≤ 1001) := Lib.hid (by simp; omega)
      clear ho hb hS
      generalize l[k] = x at *
      obtain ⟨xn, xv⟩ := x
      dsimp only at *
      have hlti : (k : Int) < (l.length : Int) := by omega
      have Hra := Lib.hid Ho.out.row
      obtain ⟨cs, hcs⟩ : ∃ cs : Array Value, cs = #[.int .u8 83, .int .u8 0, .string ⟨#[]⟩, .string xn, .string xv, .int .i64 0, .int .i64 0, .slice none 0 0, .slice none 0 0, .slice none 0 0, .slice none 0 0] := ⟨_, rfl⟩
      have Hcs := Lib.hid hcs
      have Hn : ∀ w1 : World, SliceS 11 BaS (fun j => j = w1.heap.size) (w1.alloc (.cells #[.int .u8 83, .int .u8 0, .string ⟨#[]⟩, .string xn, .string xv, .int .i64 0, .int .i64 0, .slice none 0 0, .slice none 0 0, .slice none 0 0, .slice none 0 0] 39)) [.slice (some ⟨w1.heap.size, 0, none⟩) 1 1] [setV ⟨xn, xv⟩] := fun w1 => SliceS.new1 (S := fun _ => False) BaS.still w1 39 #[.int .u8 83, .int .u8 0, .string ⟨#[]⟩, .string xn, .string xv, .int .i64 0, .int .i64 0, .slice none 0 0, .slice none 0 0, .slice none 0 0, .slice none 0 0] (setV ⟨xn, xv⟩) (set_ba ⟨xn, xv⟩ _ _) rfl (fun _ _ h => h.elim) rfl
      have HN := Lib.hid Hn
      clear hcs Hn
      go_upto_region 5 with fail
      go_region_law (first
        | (refine rgn_appendBa rfl (.tmp 17) (.tmp 29) rfl w.heap.size _ _ rfl (OwnS.below' BaS.still (OwnS.below' BaS.still Ho.out ((Below.refl _ _).alloc (Nat.le_refl _) _)) (bel_drew _)) (some ⟨wr.heap.size, 0, none⟩) 1 1 [setV ⟨xn, xv⟩] rfl (SliceS.weak BaS.still ((HN.out wr).below BaS.still (bel_drew _)) (fun k' _ hk' => by have hk2 : k' = wr.heap.size := hk'; exact ⟨by omega, fun e => by have := (Hra.out k' e).2; omega⟩)) (by have := Hl9.out; show _ + 1 ≤ 1000000; omega) (show w.heap.size ≤ (wr.alloc _).heap.size by rw [World.size_alloc]; exact Nat.le_succ_of_le hsz) ?_; intro v5 w5 ho5 hg5 hn5; have Ho5 := Lib.hid ho5; have HB5 : Hid (Below w.heap.size w w5) := Lib.hid (((Hb.out.alloc hsz _).trans ((bel_drew _).mono (by rw [World.size_alloc]; exact Nat.le_succ_of_le hsz))).trans (Below.of_row hg5 (show w.heap.size ≤ (wr.alloc _).heap.size by rw [World.size_alloc]; exact Nat.le_succ_of_le hsz) (fun k hk => (Hra.out k hk).1))); clear ho5 hg5 hn5))
      all_goals
        rw [← Htk.out] at Ho5
        clear c0 c1
        go_wp2_with fail
        go_roundw
        case rel => exact ⟨k + 1, by omega, by go_num, Ho5.out, HB5.out⟩
        case measure => simp [intOf]; omega
    · obtain rfl : k = l.length := by omega
      rw [List.take_length] at ho
      have Ho3 : Hid (OwnBa w.heap.size wr u5 (baZero 82 :: l.map setV)) := Lib.hid ho
      have HB3 := Hb
      clear ho hb Ho Hb
      obtain ⟨w3, hw3⟩ : ∃ w3, w3 = wr := ⟨_, rfl⟩
      clear hw3 w3
      go_wp2_with fail
      refine (Hk.out _).mono ?_
      rintro e wx ⟨rfl, rfl⟩
      go_upto_region 7 with fail
      have Hn := Lib.hid (show SliceS 11 BaS (fun j => j = wr.heap.size) (wr.alloc (.cells #[.int .u8 75, .int .u8 0, .string ⟨#[]⟩, .string ⟨#[]⟩, .string ⟨#[]⟩, .int .i64 (keyI id), .int .i64 (keyM id), .slice none 0 0, .slice none 0 0, .slice none 0 0, .slice none 0 0, .int .u8 90, .int .u8 73, .string ⟨#[]⟩, .string ⟨#[]⟩, .string ⟨#[]⟩, .int .i64 0, .int .i64 0, .slice none 0 0, .slice none 0 0, .slice none 0 0, .slice none 0 0] 39)) [.slice (some ⟨wr.heap.size, 0, none⟩) 2 2] [keyB id, idleB] from slice2Ba wr [.int .u8 75, .int .u8 0, .string ⟨#[]⟩, .string ⟨#[]⟩, .string ⟨#[]⟩, .int .i64 (keyI id), .int .i64 (keyM id), .slice none 0 0, .slice none 0 0, .slice none 0 0, .slice none 0 0] [.int .u8 90, .int .u8 73, .string ⟨#[]⟩, .string ⟨#[]⟩, .string ⟨#[]⟩, .int .i64 0, .int .i64 0, .slice none 0 0, .slice none 0 0, .slice none 0 0, .slice none 0 0] (keyB id) idleB rfl rfl (fun _ _ => key_ba id _ _) (fun _ _ => idle_ba _ _))
      have Hob := Lib.hid (OwnS.below' BaS.still Ho3.out ((Below.refl _ _).alloc (Nat.le_refl _) (.cells #[.int .u8 75, .int .u8 0, .string ⟨#[]⟩, .string ⟨#[]⟩, .string ⟨#[]⟩, .int .i64 (keyI id), .int .i64 (keyM id), .slice none 0 0, .slice none 0 0, .slice none 0 0, .slice none 0 0, .int .u8 90, .int .u8 73, .string ⟨#[]⟩, .string ⟨#[]⟩, .string ⟨#[]⟩, .int .i64 0, .int .i64 0, .slice none 0 0, .slice none 0 0, .slice none 0 0, .slice none 0 0] 39)))
      have Hr3 := Lib.hid Ho3.out.row
      have hz3 := HB3.out.size
      have HBb := Lib.hid (HB3.out.alloc hz3 (.cells #[.int .u8 75, .int .u8 0, .string ⟨#[]⟩, .string ⟨#[]⟩, .string ⟨#[]⟩, .int .i64 (keyI id), .int .i64 (keyM id), .slice none 0 0, .slice none 0 0, .slice none 0 0, .slice none 0 0, .int .u8 90, .int .u8 73, .string ⟨#[]⟩, .string ⟨#[]⟩, .string ⟨#[]⟩, .int .i64 0, .int .i64 0, .slice none 0 0, .slice none 0 0, .slice none 0 0, .slice none 0 0] 39))
      generalize keyI id = ki at *
      generalize keyM id = km at *
      go_wp2_with (at_builtin; refine step_appendBa _ rfl (.tmp 36) (.tmp 41) rfl w.heap.size _ _ rfl Hob.out (some ⟨wr.heap.size, 0, none⟩) 2 2 [keyB id, idleB] rfl (SliceS.weak BaS.still Hn.out (fun k' _ hk' => by have hk2 : k' = wr.heap.size := hk'; exact ⟨by omega, fun e => by have := (Hr3.out k' e).2; omega⟩)) (by have := Hln.out; show _ + 2 ≤ 1000000; omega) HBb.out.size ?_; intro v9 w9 ho9 hg9 hn9; obtain ⟨p9, c9, hv9, hs9⟩ := OwnBa.lst ho9; subst hv9; have Hs9 : Hid (SliceS 11 BaS (fun k => w.heap.size ≤ k) w9 [.slice p9 (greetV l id).length c9] (greetV l id)) := Lib.hid hs9; have HB9 := Lib.hid (HBb.out.trans (Below.of_row hg9 HBb.out.size (fun k hk => (Hr3.out k hk).1))); clear ho9 hg9 hn9 hs9)
      rw [greet_len] at Hs9
      go_ret
      exact ⟨_, _, rfl, Hs9.out, HB9.out⟩

set_option maxRecDepth 100000 in
theorem gbytes_any (S : Nat → Prop) (p : Option Addr) (n c : Nat) (l : List PaV) (id : Int) (w : World) (h : SliceS 2 PaS S w [.slice p n c] l) (hl : l.length ≤ 900) (hs : ∀ x ∈ greetV l id, ShortB x) :
    Calls Tryz.prog 14 #[.slice p n c, .int .i64 id] w fun e w' => ∃ p d, e = .returned (.slice p (bytesB (greetV l id)).length d) ∧ (BytesIn w' p (bytesB (greetV l id)) ∧ (bytesB (greetV l id)).length ≤ d ∧ d ≤ maxLen) ∧ Below w.heap.size w w' := by
  have Hb := Lib.hid (backs_any S p n c l id w h (by omega))
  have Hy := Lib.hid (fun (w0 : World) p c (h : SliceS 11 BaS (fun k => w.heap.size ≤ k) w0 [.slice p (l.length + 3) c] (greetV l id)) => bbytes_any _ p _ c _ w0 h (by rw [greet_len]; omega) hs)
  clear h hs
  generalize bytesB (greetV l id) = res at *
  go_enter Tryz.func14, Tryz.ntmps14
  go_wp2_with fail
  refine Hb.out.mono ?_
  rintro e w1 ⟨p1, c1, rfl, hs1, hb1⟩
  have Hc := Lib.hid (Hy.out w1 p1 c1 hs1)
  have HB1 := Lib.hid hb1
  clear hs1 hb1 Hb Hy
  go_wp2_with fail
  refine Hc.out.mono ?_
  rintro e w2 ⟨v2, rfl, ho, hb⟩
  obtain ⟨p2, d2, hv2, g1, g2, q2, -⟩ := ho.slice
  have Hq := Lib.hid (And.intro q2 (And.intro g1 g2))
  have HB2 := Lib.hid (HB1.out.trans (hb.mono HB1.out.size))
  subst hv2
  clear ho hb q2 g1 g2
  go_wp2_with fail
  go_ret
  exact ⟨_, _, rfl, Hq.out, HB2.out⟩

set_option maxRecDepth 100000 in
theorem rgbytes_any (S : Nat → Prop) (p : Option Addr) (n c : Nat) (l : List PaV) (id : Int) (w : World) (h : SliceS 2 PaS S w [.slice p n c] l) (hl : l.length ≤ 900) (hs : ∀ x ∈ greetV l id, ShortB x) :
    Calls Tryz.prog 9 #[.slice p n c, .int .i64 id] w fun e w' => ∃ p d, e = .returned (.slice p (bytesB (greetV l id)).length d) ∧ (BytesIn w' p (bytesB (greetV l id)) ∧ (bytesB (greetV l id)).length ≤ d ∧ d ≤ maxLen) ∧ Below w.heap.size w w' := by
  have Hb := Lib.hid (rbacks_any S p n c l id w h (by omega))
  have Hy := Lib.hid (fun (w0 : World) p c (h : SliceS 11 BaS (fun k => w.heap.size ≤ k) w0 [.slice p (l.length + 3) c] (greetV l id)) => rbbytes_any _ p _ c _ w0 h (by rw [greet_len]; omega) hs)
  clear h hs
  generalize bytesB (greetV l id) = res at *
  go_enter Tryz.func9, Tryz.ntmps9
  go_wp2_with fail
  refine Hb.out.mono ?_
  rintro e w1 ⟨p1, c1, rfl, hs1, hb1⟩
  have Hc := Lib.hid (Hy.out w1 p1 c1 hs1)
  have HB1 := Lib.hid hb1
  clear hs1 hb1 Hb Hy
  go_wp2_with fail
  refine Hc.out.mono ?_
  rintro e w2 ⟨v2, rfl, ho, hb⟩
  obtain ⟨p2, d2, hv2, g1, g2, q2, -⟩ := ho.slice
  have Hq := Lib.hid (And.intro q2 (And.intro g1 g2))
  have HB2 := Lib.hid (HB1.out.trans (hb.mono HB1.out.size))
  subst hv2
  clear ho hb q2 g1 g2
  go_wp2_with fail
  go_ret
  exact ⟨_, _, rfl, Hq.out, HB2.out⟩

end Go.Proofs.YthhebfknikfleaaGreat

/-
  What is said first (layer 11): far, awake, HasSuffix.
-/
namespace Go.Proofs.YthhebfknikfleaaGreat
open Go.RowKit
set_option linter.unusedVariables false
set_option linter.unusedSimpArgs false

def NearP (l : List PaV) : Prop := l.length ≤ 40 ∧ ∀ (j : Nat) (hj : j < l.length), l[j].name.size ≤ 200 ∧ l[j].value.size ≤ 200
def FarR (l : List PaV) (w : World) (e : Ending) (w' : World) : Prop := ∃ b, e = .returned (.bool b) ∧ (b = false → NearP l) ∧ Below w.heap.size w w'
theorem FarR.far {l : List PaV} {w w' : World} (h : Below w.heap.size w w') : FarR l w (.returned (.bool true)) w' := ⟨true, rfl, (fun e => by cases e), h⟩
theorem FarR.near {l : List PaV} {w w' : World} (hn : NearP l) (h : Below w.heap.size w w') : FarR l w (.returned (.bool false)) w' := ⟨false, rfl, (fun _ => hn), h⟩
theorem greet_short {l : List PaV} (id : Int) (h : NearP l) : ∀ x ∈ greetV l id, ShortB x := by
  have nil : ∀ (m : Nat), ∀ c ∈ ([] : List CoV), c.name.size ≤ m := fun m c hc => by cases hc
  intro x hx
  simp only [greetV, List.mem_append, List.mem_cons, List.mem_map, List.not_mem_nil, or_false] at hx
  rcases hx with (rfl | ⟨q, hq, rfl⟩) | rfl | rfl
  · refine ⟨⟨Nat.zero_le _, Nat.zero_le _, Nat.zero_le _, Nat.zero_le _, Nat.zero_le _, fun c hc => (by cases hc), Nat.zero_le _, fun c hc => (by cases hc), Nat.zero_le _, fun c hc => (by cases hc)⟩, ?_⟩
    have := putV_len4 [] 0 4
    show (putV [] 0 4).length ≤ 100000
    simp only [List.length_nil] at this
    omega
  · obtain ⟨j, hj, rfl⟩ := List.getElem_of_mem hq
    have hs := h.2 j hj
    refine ⟨⟨Nat.zero_le _, show l[j].name.size ≤ 100000 by omega, show l[j].value.size ≤ 100000 by omega, Nat.zero_le _, Nat.zero_le _, fun c hc => (by cases hc), Nat.zero_le _, fun c hc => (by cases hc), Nat.zero_le _, fun c hc => (by cases hc)⟩, ?_⟩
    have h1 := strB_len [] l[j].name
    have h2 := strB_len (strB [] l[j].name) l[j].value
    show (strB (strB [] l[j].name) l[j].value).length ≤ 100000
    simp only [List.length_nil] at h1
    omega
  · refine ⟨⟨Nat.zero_le _, Nat.zero_le _, Nat.zero_le _, Nat.zero_le _, Nat.zero_le _, fun c hc => (by cases hc), Nat.zero_le _, fun c hc => (by cases hc), Nat.zero_le _, fun c hc => (by cases hc)⟩, ?_⟩
    have h1 := putV_len4 [] (keyI id) 4
    have h2 := putV_len4 (putV [] (keyI id) 4) (keyM id) 4
    show (putV (putV [] (keyI id) 4) (keyM id) 4).length ≤ 100000
    simp only [List.length_nil] at h1
    omega
  · refine ⟨⟨Nat.zero_le _, Nat.zero_le _, Nat.zero_le _, Nat.zero_le _, Nat.zero_le _, fun c hc => (by cases hc), Nat.zero_le _, fun c hc => (by cases hc), Nat.zero_le _, fun c hc => (by cases hc)⟩, ?_⟩
    show ([UInt8.ofNat (73 : Int).toNat] : List UInt8).length ≤ 100000
    decide
theorem near_nil : NearP [] := ⟨Nat.zero_le _, fun j hj => by simp at hj⟩
theorem near_ab : NearP [⟨⟨#[97]⟩, ⟨#[98]⟩⟩] := ⟨by show 1 ≤ 40; omega, fun j hj => by
  have : j = 0 := by simpa using hj
  subst this
  exact ⟨by show (1 : Nat) ≤ 200; omega, by show (1 : Nat) ≤ 200; omega⟩⟩
theorem len28 : (bytesB (greetV [] 0)).length = 28 := by decide +kernel
theorem key0 : keyI 0 = 1 ∧ keyM 0 = 7919 := by decide

theorem BytesIn.dropB {w : World} {b o : Nat} {l m : List UInt8} (h : BytesIn w (some ⟨b, o, none⟩) (l ++ m)) : BytesIn w (some ⟨b, o + l.length, none⟩) m := by
  intro i hi
  obtain ⟨b', o', e, hc⟩ := h (l.length + i) (by rw [List.length_append]; omega)
  simp only [Option.some.injEq, Addr.mk.injEq, and_true] at e
  obtain ⟨rfl, rfl⟩ := e
  refine ⟨b, o + l.length, rfl, ?_⟩
  rw [Nat.add_assoc, hc]
  congr 1
  simp [byteV, List.getD_eq_getElem?_getD, List.getElem?_append_right]

end Go.Proofs.YthhebfknikfleaaGreat

/-
  Ground (layer 38): a session's keys as bytes; the parameters' clone; New; Made.
-/
namespace Go.Proofs.YthhebfknikfleaaGreat
open Go.RowKit
set_option linter.unusedVariables false
set_option linter.unusedSimpArgs false

set_option maxRecDepth 100000 in
set_option maxHeartbeats 1000000 in
theorem lzKeys_any (id : Int) (w : World) : Calls Tryz.prog 32 #[.int .i64 id] w fun e w' => ∃ p d, e = .returned (.slice p (bytesB [keyB id, idleB]).length d) ∧ (BytesIn w' p (bytesB [keyB id, idleB]) ∧ (bytesB [keyB id, idleB]).length ≤ d ∧ d ≤ maxLen) ∧ Below w.heap.size w w' := by
  have HK := Lib.hid (keys_any id w)
  have hal : Below w.heap.size w (w.alloc (.cells #[.int .u8 75, .int .u8 0, .string ⟨#[]⟩, .string ⟨#[]⟩, .string ⟨#[]⟩, .int .i64 (keyI id), .int .i64 (keyM id), .slice none 0 0, .slice none 0 0, .slice none 0 0, .slice none 0 0, .int .u8 90, .int .u8 73, .string ⟨#[]⟩, .string ⟨#[]⟩, .string ⟨#[]⟩, .int .i64 0, .int .i64 0, .slice none 0 0, .slice none 0 0, .slice none 0 0, .slice none 0 0] 39)) := (Below.refl _ _).alloc (Nat.le_refl _) _
  have HB := Lib.hid hal
  have Hy := Lib.hid (bbytes_any _ _ _ 2 [keyB id, idleB] _ (show SliceS 11 BaS (fun j => j = w.heap.size) (w.alloc (.cells #[.int .u8 75, .int .u8 0, .string ⟨#[]⟩, .string ⟨#[]⟩, .string ⟨#[]⟩, .int .i64 (keyI id), .int .i64 (keyM id), .slice none 0 0, .slice none 0 0, .slice none 0 0, .slice none 0 0, .int .u8 90, .int .u8 73, .string ⟨#[]⟩, .string ⟨#[]⟩, .string ⟨#[]⟩, .int .i64 0, .int .i64 0, .slice none 0 0, .slice none 0 0, .slice none 0 0, .slice none 0 0] 39)) [.slice (some ⟨w.heap.size, 0, none⟩) 2 2] [keyB id, idleB] from slice2Ba w [.int .u8 75, .int .u8 0, .string ⟨#[]⟩, .string ⟨#[]⟩, .string ⟨#[]⟩, .int .i64 (keyI id), .int .i64 (keyM id), .slice none 0 0, .slice none 0 0, .slice none 0 0, .slice none 0 0] [.int .u8 90, .int .u8 73, .string ⟨#[]⟩, .string ⟨#[]⟩, .string ⟨#[]⟩, .int .i64 0, .int .i64 0, .slice none 0 0, .slice none 0 0, .slice none 0 0, .slice none 0 0] (keyB id) idleB rfl rfl (fun _ _ => key_ba id _ _) (fun _ _ => idle_ba _ _)) (by show 2 ≤ 1000; omega) (fun x hx => greet_short (l := []) id near_nil x (by unfold greetV; simp at hx ⊢; rcases hx with rfl | rfl <;> simp)))
  clear hal
  generalize bytesB [keyB id, idleB] = L at *
  generalize keyI id = ki at *
  generalize keyM id = km at *
  go_enter Tryz.func32, Tryz.ntmps32
  go_wp2_with fail
  refine HK.out.mono ?_
  rintro e wx ⟨rfl, rfl⟩
  go_wp2_with fail
  refine Hy.out.mono ?_
  rintro e w2 ⟨v2, rfl, ho, hb⟩
  obtain ⟨p2, d2, hv2, g1, g2, q2, -⟩ := ho.slice
  have Hq := Lib.hid (And.intro q2 (And.intro g1 g2))
  have HB2 := Lib.hid (HB.out.trans (hb.mono HB.out.size))
  subst hv2
  clear ho hb q2 g1 g2
  go_wp2_with fail
  go_ret
  exact ⟨_, _, rfl, Hq.out, HB2.out⟩

abbrev OwnPa (B : Nat) (w : World) (v : Value) (xs : List PaV) : Prop := OwnS B 55 2 PaS (fun _ => True) w v xs
theorem PaS.one (S : Nat → Prop) (w : World) (cs : List Value) (x : PaV) (h : PaS S w cs x) : ∀ u ∈ cs, u.oneCell' = true := by
  obtain ⟨rfl, _⟩ := h
  intro u hu
  simp only [List.mem_cons, List.not_mem_nil, or_false] at hu
  rcases hu with rfl | rfl <;> rfl
theorem Tryz.info55 : (Tryz.prog.info? 55).map (fun i => (i.zero, i.size, i.bytes)) = some (some (.agg #[.string ⟨#[]⟩, .string ⟨#[]⟩]), 2, 32) := by kernel_rfl
theorem info_pa : ∃ i z, Tryz.prog.info? 55 = some i ∧ i.zero = some z ∧ i.size = 2 ∧ i.bytes = 32 ∧ z.cells.size = 2 := by
  obtain ⟨i0, hi, hz0, hz1, hz2⟩ := info_parts Tryz.info55
  exact ⟨i0, _, hi, hz0, hz1, hz2, rfl⟩
theorem OwnPa.lst {B : Nat} {w : World} {v : Value} {xs : List PaV} (h : OwnPa B w v xs) : ∃ p c, v = .slice p xs.length c ∧ SliceS 2 PaS (fun k => B ≤ k) w [.slice p xs.length c] xs := by
  obtain ⟨css, h1, h2⟩ := h
  obtain ⟨p, c, rfl, k1, k2, k3⟩ := h1.slice
  refine ⟨p, c, rfl, p, c, css, rfl, k1, k2, fun j u hu => ?_, h2.imp (fun _ _ hx => ⟨hx.1, hx.2⟩)⟩
  obtain ⟨g, rfl, hg, hB, hc⟩ := k3 j u hu
  exact ⟨g, 0, rfl, hB, by rw [Nat.zero_add]; exact hc⟩

set_option maxRecDepth 100000 in
theorem clone_pas (S : Nat → Prop) (p : Option Addr) (m c : Nat) (xs : List PaV) (w : World) (h : SliceS 2 PaS S w [.slice p m c] xs) (hl : xs.length ≤ 100000) :
    Calls Tryz.prog 28 #[.slice p m c] w fun e w' => ∃ v, e = .returned v ∧ OwnPa w.heap.size w' v xs ∧ Below w.heap.size w w' := by
  have q22 : ∀ (w : World) (a : Option Addr) (n c n' c' : Nat), (binOp .eql 22 (.slice a n c) (.slice none n' c')).run Tryz.prog w = .ok (.bool a.isNone) w :=
    fun w a n c n' c' => Lib.run_eql_slice_nil w _ _ a n c n' c' Tryz.underlying22
  obtain ⟨rfl, hlc, hcm⟩ := h.len
  have H := Lib.hid (SliceS.below PaS.still h ((Below.refl _ _).alloc (Nat.le_refl _) (.cells #[] 55)))
  cases p with
  | none =>
    have hx := SliceS.nilLen (by omega) h
    subst hx
    clear h
    go_enter Tryz.func28, Tryz.ntmps28
    go_wp2
    go_ret
    exact ⟨_, rfl, OwnS.empty _, Below.refl _ _⟩
  | some a =>
    unfold maxLen at hcm
    clear h
    go_enter Tryz.func28, Tryz.ntmps28
    go_wp2_with (first | (at_builtin; refine wpList_append_S _ rfl (.tmp 5) (.tmp 6) 22 22 rfl w.heap.size 55 55 2 32 Tryz.underlying22 Tryz.underlying22 info_pa PaS PaS.still PaS.one (fun _ => True) (.slice (some ⟨w.heap.size, 0, none⟩) 0 0) [] rfl (OwnS.empty _) (some a) xs.length c xs rfl (SliceS.weak PaS.still H.out (fun k _ hs => ⟨trivial, by rw [rowOf_zero]; simp⟩)) (by simp; omega) (by simp [maxLen]; omega) (by simp) ?_; intro v1 w1 ho1 hg1 _; have Ho1 := Lib.hid ho1; have Hb1 := Lib.hid (((Below.refl _ _).alloc (Nat.le_refl _) (.cells #[] 55)).trans (Below.of_row hg1 (by simp) (fun k hk => by rw [rowOf_zero] at hk; cases hk))); clear ho1 hg1))
    go_ret
    exact ⟨_, rfl, by simpa using Ho1.out, Hb1.out⟩


/-- A Greets in memory: the parameters, whether it is done, what all say alike, how often it was made. -/
structure LzO (w0 w : World) (g : Nat) (l : List PaV) (pp : Option Addr) (cp : Nat) (d : Int) (A : Value) : Prop where
  hg : w0.heap.size ≤ g
  b : Blk w g 73 #[.slice pp l.length cp, .int .u32 d, .int .i32 0, .int .u32 0, A, .int .i32 d, .bool true]
  p : SliceS 2 PaS (fun k => k ≠ g) w [.slice pp l.length cp] l
  bel : Below w0.heap.size w0 w

set_option maxRecDepth 100000 in
theorem lzNew_any (S : Nat → Prop) (p : Option Addr) (n c : Nat) (l : List PaV) (w : World) (h : SliceS 2 PaS S w [.slice p n c] l) (hl : l.length ≤ 100000) :
    Calls Tryz.prog 10 #[.slice p n c] w fun e w' => ∃ g pp cp, e = .returned (.pointer (some ⟨g, 0, none⟩)) ∧ LzO w w' g l pp cp 0 (.slice none 0 0) := by
  have HC := Lib.hid (clone_pas S p n c l w h hl)
  clear h
  go_enter Tryz.func10, Tryz.ntmps10
  go_wp2_with fail
  refine HC.out.mono ?_
  rintro e w1 ⟨v1, rfl, ho, hb⟩
  obtain ⟨pp, cp, hv, hs⟩ := ho.lst
  subst hv
  have hz := hb.size
  have hal := (Below.refl w1.heap.size w1).alloc (Nat.le_refl _) (.cells #[.slice pp l.length cp, .int .u32 0, .int .i32 0, .int .u32 0, .slice none 0 0, .int .i32 0, .bool true] 73)
  have HO : Hid (LzO w (w1.alloc (.cells #[.slice pp l.length cp, .int .u32 0, .int .i32 0, .int .u32 0, .slice none 0 0, .int .i32 0, .bool true] 73)) w1.heap.size l pp cp 0 (.slice none 0 0)) :=
    Lib.hid ⟨hz, Blk.new _ _ _, (SliceS.weak PaS.still hs (fun k hk _ => by omega)).below PaS.still hal, hb.trans (hal.mono hz)⟩
  clear ho hs hb hal
  go_wp2_with fail
  go_ret
  exact ⟨_, _, _, rfl, HO.out⟩

theorem lzMade_nil (w : World) : Calls Tryz.prog 13 #[.pointer none] w fun e w' => e = .returned (.int .i64 0) ∧ w' = w := by
  go_enter Tryz.func13, Tryz.ntmps13
  go_wp2
  go_ret
  exact ⟨rfl, rfl⟩
set_option maxRecDepth 100000 in
theorem lzMade_at (g : Nat) (n : Int) (w : World) (hn : n = 0 ∨ n = 1) (hc : w.cell? ⟨g, 5, none⟩ = some (.int .i32 n)) : Calls Tryz.prog 13 #[.pointer (some ⟨g, 0, none⟩)] w fun e w' => e = .returned (.int .i64 n) ∧ w' = w := by
  have HC := Lib.hid (lzCount ⟨g, 5, none⟩ n w hc)
  have hw : IntKind.i64.wrap n = n := by rw [IntKind.wrap_i64]; omega
  go_enter Tryz.func13, Tryz.ntmps13
  go_wp2_with (first | (go_at_call 33; refine HC.out.mono ?_; rintro e w' ⟨rfl, rfl⟩))
  go_ret
  exact ⟨rfl, rfl⟩
theorem lzOf_nil (id : Int) (w : World) : Calls Tryz.prog 11 #[.pointer none, .int .i64 id] w fun e w' => e = .returned (.slice none 0 0) ∧ w' = w := by
  go_enter Tryz.func11, Tryz.ntmps11
  go_wp2
  go_ret
  exact ⟨rfl, rfl⟩
theorem lzOf_zero (g : Nat) (id : Int) (w : World) (hc : w.cell? ⟨g, 6, none⟩ = some (.bool false)) : Calls Tryz.prog 11 #[.pointer (some ⟨g, 0, none⟩), .int .i64 id] w fun e w' => e = .returned (.slice none 0 0) ∧ w' = w := by
  go_enter Tryz.func11, Tryz.ntmps11
  go_wp2
  go_ret
  exact ⟨rfl, rfl⟩

end Go.Proofs.YthhebfknikfleaaGreat

/-
  The contracts of slices.Grow (of nil) and slices.Concat at bytes.
-/
namespace Go.Proofs.YthhebfknikfleaaGreat
open Go.RowKit

theorem Tryz.under_int : Tryz.prog.underlying 3 = some (.int .i64) := Tryz.underlying3

/-- make([]byte, n) appended to nil. -/
theorem run_grow_nil (n : Nat) (h0 : 0 < n) (hn : n ≤ 1000000000) (ty : TypeId) (w : World) :
    ∃ c cs, n ≤ c ∧ c ≤ maxLen ∧ cs.size = c ∧ (Builtin.append_ #[25, 3] ty #[.slice none 0 0, .int .i64 (n : Int)]).run Tryz.prog w = .ok (.slice (some ⟨w.heap.size, 0, none⟩) n c) (w.drew.alloc (.cells cs 5)) := by
  obtain ⟨i, hi, hz, hz1, hz2⟩ := info_parts Tryz.info5
  have hge := grownCap_ge w (0 + n) 0 5
  have hcm := grownCap_le_maxLen w (0 + n) 0 5 (by simp only [maxLen]; omega)
  have hf : (Builtin.firstCells i.size 0 (.slice none 0 0)).run Tryz.prog w.drew = .ok ([] : List Value).toArray w.drew := by simp [Builtin.firstCells]
  have hr := Lib.run_append_grow_zeros (P := Tryz.prog) w 25 3 ty 5 i (.int .u8 0) .i64 .i64 Tryz.underlying25 Tryz.underlying3 hi hz none 0 0 [] hf n h0 (by omega) (by omega) (by omega) (by rw [hz2]; omega)
    (by rw [Nat.zero_add, nextslicecap_zero (by omega), hz2]; omega)
  rw [Nat.zero_add] at hr hge hcm
  have hc1 : (Value.int .u8 0).cells.size = 1 := rfl
  refine ⟨_, _, hge, hcm, ?_, hr⟩
  rw [Array.size_append, Array.size_append, size_zeroCells, size_zeroCells, hc1]
  simp
  omega

/-- The same as a step of the walk. -/
theorem wpList_grow_nil {ops : Array Oper} {rest : List Oper} {o : Oper} {a : Act} {Q : Exit → Act → World → Prop} (w : World) (hgd : o.guard = none) (s y : Operand)
    (ho : o.op = .call { callee := .builtin .append, args := #[s, y], argTypes := #[25, 3] }) (n : Nat) (hs : a.eval s = .slice none 0 0) (hy : a.eval y = .int .i64 (n : Int)) (h0 : 0 < n) (hn : n ≤ 1000000000)
    (h : ∀ c w', n ≤ c → c ≤ 1152921504606846976 * 8 - 1 → OwnBR w.heap.size w' (.slice (some ⟨w.heap.size, 0, none⟩) 0 c) [] → Below w.heap.size w w' → wpList Tryz.prog ops Q rest (a.put o.dst (.slice (some ⟨w.heap.size, 0, none⟩) n c)) w') :
    wpList Tryz.prog ops Q (o :: rest) a w := by
  refine wpList_plain hgd fun K hK => ?_
  obtain ⟨c, cs, h1, h2, h3, hrun⟩ := run_grow_nil n h0 hn o.type w
  unfold Oper.wp
  simp [execOp, ho, resolve, invoke, builtin, hs, hy, hrun, Result.andThen]
  have hg : w.grownBy (w.drew.alloc (.cells cs 5)) none := ⟨rfl, rfl, rfl, by simp, fun k hk _ => Below.heap_alloc w.drew _ k hk⟩
  refine hK _ _ (h c _ h1 (by unfold maxLen at h2; omega) ⟨by simp [bytesV], .inr ⟨_, c, cs, rfl, by omega, Nat.le_refl _, heap_alloc_new w.drew _, by simp, h2, by omega, by simp [bytesV]⟩⟩ (Below.of_row hg (Nat.le_refl _) (fun k hk => by cases hk)))

theorem grow_any (n : Nat) (hn : n ≤ 1000000000) (w : World) :
    Calls Tryz.prog 91 #[.slice none 0 0, .int .i64 (n : Int)] w fun e w' =>
      ∃ v, e = .returned v ∧ OwnBR w.heap.size w' v [] ∧ Below w.heap.size w w' := by
  have hneg : ¬ ((n : Int) < 0) := by omega
  by_cases h0 : n = 0
  · subst h0
    go_enter Tryz.func91, Tryz.ntmps91
    go_wp2
    go_ret
    exact ⟨_, rfl, OwnBR.empty _ _ _, Below.refl _ _⟩
  · have hpos : 0 < n := by omega
    go_enter Tryz.func91, Tryz.ntmps91
    go_wp2_with (at_builtin; refine wpList_grow_nil _ rfl (.tmp 20) (.tmp 21) rfl n rfl rfl hpos hn ?_; intro c w1 h1 h2 ho1 hb1; have Ho1 := Lib.hid ho1; have Hb1 := Lib.hid hb1; clear ho1 hb1)
    go_ret
    exact ⟨_, rfl, Ho1.out, Hb1.out⟩

/-- The bytes of lists up to the k-th. -/
def joined (ls : List (List UInt8)) (k : Nat) : List UInt8 := (ls.take k).flatten

theorem joined_succ (ls : List (List UInt8)) (k : Nat) (l : List UInt8) (h : ls[k]? = some l) : joined ls (k + 1) = joined ls k ++ l := by
  have hk : k < ls.length := (List.getElem?_eq_some_iff.1 h).1
  have e : ls[k] = l := (List.getElem?_eq_some_iff.1 h).2
  unfold joined
  rw [List.take_succ_eq_append_getElem hk, List.flatten_append, e]
  simp

theorem joined_le (ls : List (List UInt8)) (k : Nat) : (joined ls k).length ≤ ls.flatten.length := by
  have h : ls.flatten = (ls.take k).flatten ++ (ls.drop k).flatten := by rw [← List.flatten_append, List.take_append_drop]
  unfold joined
  rw [h, List.length_append]
  omega

theorem joined_all (ls : List (List UInt8)) : joined ls ls.length = ls.flatten := by unfold joined; rw [List.take_length]

set_option maxHeartbeats 1000000 in
theorem concat_any (p : Option Addr) (n c : Nat) (ls : List (List UInt8)) (S : Nat → Prop) (w : World) (h : SliceS 1 BytesS S w [.slice p n c] ls) (hl : ls.flatten.length ≤ 1000000000) :
    Calls Tryz.prog 31 #[.slice p n c] w fun e w' =>
      ∃ v, e = .returned v ∧ OwnBR w.heap.size w' v ls.flatten ∧ Below w.heap.size w w' := by
  have H := Lib.hid h
  obtain ⟨p', c', css, h1, hlc, hcm, _, _⟩ := h
  simp only [List.cons.injEq, Value.slice.injEq, and_true] at h1
  obtain ⟨rfl, rfl, rfl⟩ := h1
  unfold maxLen at hcm
  go_enter Tryz.func31, Tryz.ntmps31
  go_wp2
  go_loop [3, 5, 11] (fun s _ i => ∃ k : Nat, k ≤ ls.length ∧ i = .int .i64 k ∧ s = .int .i64 ((joined ls k).length : Nat)) (fun _ _ i => ls.length - (intOf i).toNat)
  case atStart => exact ⟨0, Nat.zero_le _, rfl, rfl⟩
  case round =>
    obtain ⟨k, hk, rfl, rfl⟩ := hrel
    have hj := joined_le ls k
    by_cases hlt : k < ls.length
    · obtain ⟨b, o, cs, rfl, _, _, _, hc, hr⟩ := H.out.elem (by omega) k ls[k] (List.getElem?_eq_getElem hlt)
      have hs := joined_succ ls k ls[k] (List.getElem?_eq_getElem hlt)
      have hj1 := joined_le ls (k + 1)
      generalize ls[k] = l at hr hs
      obtain ⟨q, d, rfl, hq1, hq2, _, _⟩ := hr
      have hs' := congrArg List.length hs
      rw [List.length_append] at hs'
      have Hs := Lib.hid hs'
      have hsum : (joined ls k).length + l.length ≤ 1000000000 := by omega
      unfold maxLen at hq2
      have hcell := hc 0 _ rfl
      simp only [Nat.mul_one, Nat.add_zero] at hcell
      clear hs hs' hc hj1
      go_wp2
      go_round
      case rel => exact ⟨k + 1, by omega, by go_num, by rw [Hs.out]; go_num⟩
      case measure => simp [intOf]; omega
    · obtain rfl : k = ls.length := by omega
      have HJ := Lib.hid (joined_all ls)
      go_wp2_with fail
      refine (grow_any _ (by omega) w).mono ?_
      rintro e w1 ⟨v1, rfl, ho1, hb1⟩
      have Ho1 := Lib.hid ho1
      have Hb1 := Lib.hid hb1
      clear ho1 hb1
      go_wp2_with fail
      go_loopw [6, 8, 27] (fun v _ i wr => ∃ k : Nat, k ≤ ls.length ∧ i = .int .i64 k ∧ OwnBR w.heap.size wr v (joined ls k) ∧ Below w.heap.size w wr) (fun _ _ i _ => ls.length - (intOf i).toNat)
      case atStart => exact ⟨0, Nat.zero_le _, rfl, Ho1.out, Hb1.out⟩
      case round =>
        clear Ho1 Hb1
        obtain ⟨k, hk, rfl, ho, hb⟩ := hrel
        have hbs := hb.size
        have Ho := Lib.hid ho
        have Hb := Lib.hid hb
        have hj := joined_le ls k
        clear ho hb
        by_cases hlt : k < ls.length
        · obtain ⟨b, o, cs, rfl, _, hbl, _, hc, hr⟩ := H.out.elem (by omega) k ls[k] (List.getElem?_eq_getElem hlt)
          have hs := joined_succ ls k ls[k] (List.getElem?_eq_getElem hlt)
          have hj1 := joined_le ls (k + 1)
          generalize ls[k] = l at hr hs
          have Hr := Lib.hid (hr.below Hb.out)
          obtain ⟨q, d, rfl, hq1, hq2, _, _⟩ := hr
          have Hs := Lib.hid hs
          have hsum : (joined ls k).length + l.length ≤ 1000000000 := by rw [hs, List.length_append] at hj1; omega
          unfold maxLen at hq2
          have hcell := (Hb.out.cell (p := ⟨b, o + k * 1 + 0, none⟩) hbl).trans (hc 0 _ rfl)
          simp only [Nat.mul_one, Nat.add_zero] at hcell
          clear hs hc hj1
          go_wp2_with (at_builtin; refine step_appendBR _ rfl _ _ rfl w.heap.size _ _ rfl Ho.out _ l _ _ rfl rfl Hr.out.parts.2.2.2 (by omega) hbs ?_; intro v2 w2 ho2 hg2 _; have Ho2 := Lib.hid ho2; have Hb2 := Lib.hid (Hb.out.trans (Below.of_row hg2 hbs (fun k hk => (Ho.out.row k hk).1))); clear ho2 hg2)
          go_roundw
          case rel => exact ⟨k + 1, by omega, by go_num, by rw [Hs.out]; exact Ho2.out, Hb2.out⟩
          case measure => simp [intOf]; omega
        · obtain rfl : k = ls.length := by omega
          go_wp2
          go_ret
          exact ⟨_, rfl, by rw [← HJ.out]; exact Ho.out, Hb.out⟩

end Go.Proofs.YthhebfknikfleaaGreat

/-
  Ground (layer 38): what all say alike is made; Of.
-/
namespace Go.Proofs.YthhebfknikfleaaGreat
open Go.RowKit
set_option linter.unusedVariables false
set_option linter.unusedSimpArgs false

/-- What all say alike. -/
def alikeL (l : List PaV) : List UInt8 := bytesB (baZero 82 :: l.map setV)
/-- What make leaves. -/
def MkR (w : World) (g : Nat) (l : List PaV) (pp : Option Addr) (cp : Nat) (w' : World) : Prop :=
  ∃ pa ca, Blk w' g 73 #[.slice pp l.length cp, .int .u32 0, .int .i32 1, .int .u32 0, (.slice pa (alikeL l).length ca), .int .i32 1, .bool true] ∧ BytesS (fun k => w.heap.size ≤ k) w' [.slice pa (alikeL l).length ca] (alikeL l) ∧ Touch (fun k => k = g) w w'

set_option maxRecDepth 100000 in
set_option maxHeartbeats 2000000 in
theorem lzMake (g : Nat) (l : List PaV) (pp : Option Addr) (cp : Nat) (w : World) (hb : Blk w g 73 #[.slice pp l.length cp, .int .u32 0, .int .i32 1, .int .u32 0, (.slice none 0 0), .int .i32 0, .bool true]) (hp : SliceS 2 PaS (fun k => k ≠ g) w [.slice pp l.length cp] l) (hs : NearP l) :
    Calls Tryz.prog 30 #[.pointer (some ⟨g, 0, none⟩)] w fun e w' => e = .returned (.tuple #[]) ∧ MkR w g l pp cp w' := by
  have hl40 := hs.1
  have Hsh := Lib.hid (greet_short 0 hs)
  have HB := Lib.hid (backs_any _ pp _ cp l 0 w hp (by omega))
  have HBl := Lib.hid hb
  have hlt := hb.lt
  have hc := hb.cell
  have HG : Hid ((greetV l 0).take (l.length + 1) = baZero 82 :: l.map setV) := Lib.hid (by
    unfold greetV
    rw [List.take_append_of_le_length (by simp)]
    exact List.take_of_length_le (by simp))
  have HY := Lib.hid (fun (w1 : World) p2 c2 (h : SliceS 11 BaS (fun k => w.heap.size ≤ k) w1 [.slice p2 (l.length + 3) c2] (greetV l 0)) => by
    have h1 := h.take' (l.length + 1) c2 (by rw [greet_len]; omega) (by have := h.len.2.1; rw [greet_len] at this; omega) h.len.2.2
    rw [HG.out] at h1
    exact bbytes_any _ p2 _ c2 _ w1 h1 (by simp; omega) (fun x hx => Hsh.out x (List.mem_of_mem_take (by rw [HG.out]; exact hx))))
  have e1 : IntKind.i64.wrap (((l.length + 3 : Nat) : Int) - 2) = ((l.length + 1 : Nat) : Int) := by rw [IntKind.wrap_i64]; omega
  unfold MkR alikeL
  generalize bytesB (baZero 82 :: l.map setV) = L at *
  generalize hN : l.length + 3 = N at *
  generalize hM : l.length + 1 = M at *
  generalize hK : l.length = K at *
  have f0 : (0 : Int) ≤ (M : Int) := by omega
  have e2 : (N : Int) - 2 = (M : Int) := by omega
  clear hb hp hs HG
  go_enter Tryz.func30, Tryz.ntmps30
  go_wp2_with fail
  refine HB.out.mono ?_
  rintro e w1 ⟨p2, c2, rfl, hs2, hb1⟩
  have Hs2 := Lib.hid hs2
  have hlc := hs2.len.2.1
  have hcm := hs2.len.2.2
  unfold maxLen at hcm
  have hnc : N ≤ c2 := by have := hs2.len.1; omega
  have hMc : (M : Int) ≤ (c2 : Int) := by omega
  have Hy := Lib.hid (HY.out w1 p2 c2 hs2)
  have HB1 := Lib.hid (HBl.out.below hb1 hlt)
  have HT1 : Hid (Touch (fun k => k = g) w w1) := Lib.hid (Touch.of_below hb1)
  have hz1 := hb1.size
  clear hs2 hb1 hc HB HBl HY Hs2
  go_wp2_with (first | (go_at_call 23; refine Hy.out.mono ?_; rintro e w2 ⟨v2, rfl, ho, hb2⟩; obtain ⟨pa, ca, hv2, k1, k2, k3, k4⟩ := ho.slice; subst hv2; have hz2 := hb2.size; have HB2 := Lib.hid (HB1.out.below hb2 HB1.out.lt); have HT2 := Lib.hid (HT1.out.trans (Touch.of_below hb2)); have Hq2 := Lib.hid (And.intro k1 (And.intro k2 (And.intro k3 k4))); have hc2 := HB2.out.cell; have hf2 := HB2.out.frozen; clear ho hb2 k1 k2 k3 k4 HB1 HT1))
  have HB3 := HB2.out.set_ 4 (.slice pa L.length ca)
  refine (lzAdd ⟨g, 5, none⟩ _ (HB3.cell 5) (HB3.frozen 5)).mono ?_
  rintro e w3 ⟨rfl, rfl⟩
  go_wp2
  go_end0
  have hT3 : Touch (fun k => k = g) w2 ((w2.setCell ⟨g, 4, none⟩ (.slice pa L.length ca)).setCell ⟨g, 5, none⟩ (.int .i32 1)) := ((Touch.refl (fun k => k = g) w2).setCell (x := ⟨g, 4, none⟩) (fun _ => rfl) _).setCell (x := ⟨g, 5, none⟩) (fun _ => rfl) _
  refine ⟨rfl, pa, ca, ?_, ⟨pa, ca, rfl, Hq2.out.1, Hq2.out.2.1, hT3.bytesIn Hq2.out.2.2.1 (fun hne x hx e => ?_), fun hne x hx => ?_⟩, HT2.out.trans hT3⟩
  · have := (HB2.out.set_ 4 (.slice pa L.length ca)).set_ 5 (.int .i32 1)
    simpa using this
  · have := (Hq2.out.2.2.2 hne x hx).2; omega
  · have := (Hq2.out.2.2.2 hne x hx).2; omega

/-- A Greets whose alike part is made. -/
structure LzM (w0 w : World) (g : Nat) (l : List PaV) (pp : Option Addr) (cp : Nat) (pa : Option Addr) (ca : Nat) : Prop where
  hg : w0.heap.size ≤ g
  b : Blk w g 73 #[.slice pp l.length cp, .int .u32 1, .int .i32 0, .int .u32 0, (.slice pa (alikeL l).length ca), .int .i32 1, .bool true]
  y : BytesS (fun k => k ≠ g) w [.slice pa (alikeL l).length ca] (alikeL l)
  p : SliceS 2 PaS (fun k => k ≠ g) w [.slice pp l.length cp] l
  bel : Below w0.heap.size w0 w
theorem LzM.step {w0 w w' : World} {g : Nat} {l : List PaV} {pp : Option Addr} {cp : Nat} {pa : Option Addr} {ca : Nat} (h : LzM w0 w g l pp cp pa ca) (hb : Below w.heap.size w w') : LzM w0 w' g l pp cp pa ca :=
  ⟨h.hg, h.b.below hb h.b.lt, BytesS.still _ _ _ _ _ _ h.y (Kept.all hb), h.p.below PaS.still hb, h.bel.trans (hb.mono h.bel.size)⟩

/-- Two pieces of bytes in a new block. -/
theorem slice2By (w : World) (e : TypeId) (pa pk : Option Addr) (ca dk : Nat) (A K : List UInt8) (hA : BytesIn w pa A) (h1 : A.length ≤ ca) (h2 : ca ≤ maxLen) (hK : BytesIn w pk K) (h3 : K.length ≤ dk) (h4 : dk ≤ maxLen) :
    SliceS 1 BytesS (fun _ => True) (w.alloc (.cells #[.slice pa A.length ca, .slice pk K.length dk] e)) [.slice (some ⟨w.heap.size, 0, none⟩) 2 2] [A, K] := by
  refine ⟨_, _, [[.slice pa A.length ca], [.slice pk K.length dk]], rfl, Nat.le_refl _, by simp [maxLen], fun j u hu => ⟨_, _, rfl, trivial, ?_⟩, ⟨rfl, ⟨pa, ca, rfl, h1, h2, hA.alloc _, fun _ _ _ => trivial⟩⟩, ⟨rfl, ⟨pk, dk, rfl, h3, h4, hK.alloc _, fun _ _ _ => trivial⟩⟩, trivial⟩
  rw [Nat.zero_add, World.cell?_alloc_new]
  simpa using hu

theorem lzYin {S : Nat → Prop} {w : World} {p : Option Addr} {c : Nat} {l : List UInt8} (h : BytesS S w [.slice p l.length c] l) : BytesIn w p l ∧ l.length ≤ c ∧ c ≤ maxLen := by
  obtain ⟨p', c', e, h1, h2, h3, _⟩ := h
  simp only [List.cons.injEq, Value.slice.injEq, and_true] at e
  obtain ⟨rfl, -, rfl⟩ := e
  exact ⟨h3, h1, h2⟩
/-- What Of answers, made. -/
def OfR (w0 : World) (g : Nat) (l : List PaV) (pp : Option Addr) (cp : Nat) (id : Int) (e : Ending) (w' : World) : Prop :=
  ∃ p d pa ca, e = .returned (.slice p (alikeL l ++ bytesB [keyB id, idleB]).length d) ∧ BytesIn w' p (alikeL l ++ bytesB [keyB id, idleB]) ∧ LzM w0 w' g l pp cp pa ca

/-- Do leaves it made. -/
theorem lzDo_any (w0 w : World) (g : Nat) (l : List PaV) (pp : Option Addr) (cp : Nat) (h : LzO w0 w g l pp cp 0 (.slice none 0 0)) (hs : NearP l) :
    Calls Tryz.prog 29 #[.pointer (some ⟨g, 1, none⟩), .func (.func 30) #[.pointer (some ⟨g, 0, none⟩)] #[]] w fun e w' => e = .returned (.tuple #[]) ∧ ∃ pa ca, LzM w0 w' g l pp cp pa ca := by
  have hb1 : Blk (w.setCell ⟨g, 2, none⟩ (.int .i32 1)) g 73 #[.slice pp l.length cp, .int .u32 0, .int .i32 1, .int .u32 0, (.slice none 0 0), .int .i32 0, .bool true] := by
    have := h.b.set_ 2 (.int .i32 1)
    simpa using this
  have hT1 : Touch (fun k => k = g) w (w.setCell ⟨g, 2, none⟩ (.int .i32 1)) := (Touch.refl (fun k => k = g) w).setCell (x := ⟨g, 2, none⟩) (fun _ => rfl) _
  have hp1 : SliceS 2 PaS (fun k => k ≠ g) (w.setCell ⟨g, 2, none⟩ (.int .i32 1)) [.slice pp l.length cp] l := (SliceS.still PaS.still) _ _ _ _ _ _ h.p (Kept.touch hT1 (fun k hk hs => ⟨hs, hs⟩))
  refine (lzDo_first g (MkR (w.setCell ⟨g, 2, none⟩ (.int .i32 1)) g l pp cp) w (h.b.cell 1) (h.b.cell 2) (h.b.frozen 2) ((lzMake g l pp cp _ hb1 hp1 hs).mono ?_)).mono ?_
  · rintro e w' ⟨rfl, pa, ca, hb, hy, hT⟩
    exact ⟨rfl, ⟨pa, ca, hb, hy, hT⟩, hb.cell 1, hb.cell 2, hb.frozen 1, hb.frozen 2⟩
  · rintro e w' ⟨rfl, w2, ⟨pa, ca, hb, hy, hT⟩, rfl⟩
    have hlt := h.b.lt
    have hg := h.hg
    have hz : (w.setCell ⟨g, 2, none⟩ (.int .i32 1)).heap.size = w.heap.size := by simp
    have hT3 : Touch (fun k => k = g) w2 ((w2.drew.setCell ⟨g, 1, none⟩ (.int .u32 1)).setCell ⟨g, 2, none⟩ (.int .i32 0)) := (((Touch.refl (fun k => k = g) w2).drew).setCell (x := ⟨g, 1, none⟩) (fun _ => rfl) _).setCell (x := ⟨g, 2, none⟩) (fun _ => rfl) _
    have hb3 : Blk ((w2.drew.setCell ⟨g, 1, none⟩ (.int .u32 1)).setCell ⟨g, 2, none⟩ (.int .i32 0)) g 73 #[.slice pp l.length cp, .int .u32 1, .int .i32 0, .int .u32 0, (.slice pa (alikeL l).length ca), .int .i32 1, .bool true] := by
      have := ((hb.drew).set_ 1 (.int .u32 1)).set_ 2 (.int .i32 0)
      simpa using this
    have hTT := (hT1.trans hT).trans hT3
    refine ⟨rfl, pa, ca, hg, hb3, BytesS.still _ _ _ _ _ _ hy (Kept.touch hT3 (fun k hk hs => ?_)), (SliceS.still PaS.still) _ _ _ _ _ _ h.p (Kept.touch hTT (fun k hk hs => ⟨hs, hs⟩)), h.bel.trans (hTT.below h.bel.size (fun k e => by omega))⟩
    have hs' : (w.setCell ⟨g, 2, none⟩ (.int .i32 1)).heap.size ≤ k := hs
    exact ⟨by omega, by omega⟩

set_option maxRecDepth 100000 in
set_option maxHeartbeats 2000000 in
theorem lzOf_any (w0 w : World) (g : Nat) (l : List PaV) (pp : Option Addr) (cp : Nat) (id : Int) (hs : NearP l) (hsl : (alikeL l).length ≤ 100000000) (hsk : (bytesB [keyB id, idleB]).length ≤ 100000000)
    (h : LzO w0 w g l pp cp 0 (.slice none 0 0) ∨ ∃ pa ca, LzM w0 w g l pp cp pa ca) :
    Calls Tryz.prog 11 #[.pointer (some ⟨g, 0, none⟩), .int .i64 id] w (OfR w0 g l pp cp id) := by
  have hc6 : w.cell? ⟨g, 6, none⟩ = some (.bool true) := by
    rcases h with h | ⟨pa, ca, h⟩
    · exact h.b.cell 6
    · exact h.b.cell 6
  have HDo : Hid (Calls Tryz.prog 29 #[.pointer (some ⟨g, 1, none⟩), .func (.func 30) #[.pointer (some ⟨g, 0, none⟩)] #[]] w fun e w' => e = .returned (.tuple #[]) ∧ ∃ pa ca, LzM w0 w' g l pp cp pa ca) := Lib.hid (by
    rcases h with h | ⟨pa, ca, h⟩
    · exact lzDo_any w0 w g l pp cp h hs
    · refine (lzDo_done g _ w (h.b.cell 1)).mono ?_
      rintro e w' ⟨rfl, rfl⟩
      exact ⟨rfl, pa, ca, h⟩)
  have HKy := Lib.hid (fun w1 => lzKeys_any id w1)
  have Hsl := Lib.hid hsl
  have Hsk := Lib.hid hsk
  unfold OfR
  generalize bytesB [keyB id, idleB] = K at *
  clear h hs hsl hsk
  go_enter Tryz.func11, Tryz.ntmps11
  go_upto_region 4 with (go_at_call 29; refine HDo.out.mono ?_; rintro e w1 ⟨rfl, pa, ca, hm⟩; have H1 := Lib.hid hm; clear hm HDo)
  have hc1 : ∀ i, w1.cell? ⟨g, i, none⟩ = (#[.slice pp l.length cp, .int .u32 1, .int .i32 0, .int .u32 0, (.slice pa (alikeL l).length ca), .int .i32 1, .bool true] : Array Value)[i]? := H1.out.b.cell
  have H1d : Hid (LzM w0 (w1.drewN 1) g l pp cp pa ca) := Lib.hid (H1.out.step (((Touch.refl (fun _ => False) w1).drewN 1).below (Nat.le_refl _) (fun _ e => e.elim)))
  clear hc6
  go_region_held3 (fun w' => ∀ i, w'.cell? ⟨g, i, none⟩ = (#[.slice pp l.length cp, .int .u32 1, .int .i32 0, .int .u32 0, (.slice pa (alikeL l).length ca), .int .i32 1, .bool true] : Array Value)[i]?)
    (first | exact hc1 | exact H2.out.b.cell | exact (H2.out.step ((Below.refl _ _).alloc (Nat.le_refl _) _)).b.cell | exact H4.out.b.cell | go_keep)
    (first
      | (go_at_call 32; refine (HKy.out _).mono ?_; rintro e w2 ⟨pk, dk, rfl, ⟨hk1, hk2, hk3⟩, hb⟩; have H2 := Lib.hid (H1d.out.step hb); have HK2 := Lib.hid (And.intro hk1 (And.intro hk2 hk3)); clear hb hk1 hk2 hk3)
      | (go_at_call 31; refine (concat_any _ _ _ [alikeL l, K] (fun _ => True) _ (slice2By w2 25 pa pk ca dk (alikeL l) K (lzYin H2.out.y).1 (lzYin H2.out.y).2.1 (lzYin H2.out.y).2.2 HK2.out.1 HK2.out.2.1 HK2.out.2.2) (by have := Hsl.out; have := Hsk.out; simp; omega)).mono ?_; rintro e w4 ⟨v4, rfl, ho, hb⟩; have H4 := Lib.hid ((H2.out.step ((Below.refl _ _).alloc (Nat.le_refl _) _)).step hb); obtain ⟨p4, d4, hv4, -, -, q4, -⟩ := ho.slice; subst hv4; have Hq4 := Lib.hid q4; clear ho hb q4))
  rw [show ([alikeL l, K] : List (List UInt8)).flatten = alikeL l ++ K by simp] at *
  go_wp2
  go_ret
  exact ⟨p4, d4, pa, ca, by rw [List.length_append]; rfl, Hq4.out, H4.out⟩

end Go.Proofs.YthhebfknikfleaaGreat

/-
  Ground (layer 38): awake; the walk of LazyNobody.
-/
namespace Go.Proofs.YthhebfknikfleaaGreat
open Go.RowKit
set_option linter.unusedVariables false
set_option linter.unusedSimpArgs false

theorem lz_len0 : (alikeL [] ++ bytesB [keyB 0, idleB]).length = 28 := by decide +kernel
theorem lz_len1 : (alikeL [] ++ bytesB [keyB 1, idleB]).length = 28 := by decide +kernel

set_option maxRecDepth 100000 in
set_option maxHeartbeats 1000000 in
theorem lzAwake_any (w : World) : Calls Tryz.prog 8 #[] w fun e w' => e = .returned (.bool true) ∧ Below w.heap.size w w' := by
  have HN := Lib.hid (lzNew_any (fun _ => True) none 0 0 [] w (SliceS.empty none 0 (by simp [maxLen])) (by simp))
  have HM := Lib.hid (fun g n w0 h1 h2 => lzMade_at g n w0 h1 h2)
  have H0 : Hid (∀ g pp cp w1, LzO w w1 g [] pp cp 0 (.slice none 0 0) → Calls Tryz.prog 11 #[.pointer (some ⟨g, 0, none⟩), .int .i64 0] w1 fun e w' => ∃ p d pa ca, e = .returned (.slice p 28 d) ∧ LzM w w' g [] pp cp pa ca) := Lib.hid (fun g pp cp w1 h => (lzOf_any w w1 g [] pp cp 0 near_nil (by have := lz_len0; rw [List.length_append] at this; omega) (by have := lz_len0; rw [List.length_append] at this; omega) (.inl h)).mono (by
    rintro e w' ⟨p, d, pa, ca, rfl, _, hm⟩
    exact ⟨p, d, pa, ca, by rw [lz_len0], hm⟩))
  have H1 : Hid (∀ g pp cp pa ca w1, LzM w w1 g [] pp cp pa ca → Calls Tryz.prog 11 #[.pointer (some ⟨g, 0, none⟩), .int .i64 1] w1 fun e w' => ∃ p d pa ca, e = .returned (.slice p 28 d) ∧ LzM w w' g [] pp cp pa ca) := Lib.hid (fun g pp cp pa ca w1 h => (lzOf_any w w1 g [] pp cp 1 near_nil (by have := lz_len1; rw [List.length_append] at this; omega) (by have := lz_len1; rw [List.length_append] at this; omega) (.inr ⟨pa, ca, h⟩)).mono (by
    rintro e w' ⟨p, d, pa, ca, rfl, _, hm⟩
    exact ⟨p, d, pa, ca, by rw [lz_len1], hm⟩))
  go_enter Tryz.func8, Tryz.ntmps8
  go_wp2_with fail
  refine HN.out.mono ?_
  rintro e w1 ⟨g, pp, cp, rfl, ho⟩
  have Ho := Lib.hid ho
  clear ho HN
  go_wp2_with fail
  refine (HM.out g 0 w1 (.inl rfl) (Ho.out.b.cell 5)).mono ?_
  rintro e w2 ⟨rfl, rfl⟩
  go_wp2_with fail
  refine (H0.out g pp cp _ Ho.out).mono ?_
  rintro e w3 ⟨p3, d3, pa, ca, rfl, hm⟩
  have Hm := Lib.hid hm
  clear hm Ho
  go_wp2_with fail
  refine (H1.out g pp cp pa ca _ Hm.out).mono ?_
  rintro e w4 ⟨p4, d4, pa4, ca4, rfl, hm⟩
  have Hm4 := Lib.hid hm
  clear hm Hm
  go_wp2_with fail
  refine (HM.out g 1 w4 (.inr rfl) (Hm4.out.b.cell 5)).mono ?_
  rintro e w5 ⟨rfl, rfl⟩
  go_wp2_with fail
  go_ret
  exact ⟨rfl, Hm4.out.bel⟩

end Go.Proofs.YthhebfknikfleaaGreat

