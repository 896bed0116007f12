/-
  What is said first (layer 11): Backs and Bytes of both; whether there are too many parameters.
-/
import Derived.Test.YthhebfknikfleaaGreatGrB
namespace Go.Proofs.YthhebfknikfleaaGreat
open Go.RowKit
set_option linter.unusedVariables false
set_option linter.unusedSimpArgs false

theorem greet_len (l : List PaV) (id : Int) : (greetV l id).length = l.length + 3 := by unfold greetV; simp

set_option maxRecDepth 100000 in
set_option maxHeartbeats 4000000 in
theorem backs_any (S : Nat → Prop) (p : Option Addr) (n c : Nat) (l : List PaV) (id : Int) (w : World) (h : SliceS 2 PaS S w [.slice p n c] l) (hl : l.length ≤ 1000) :
    Calls Tryz.prog 34 #[.slice p n c, .int .i64 id] w fun e w' => ∃ p c, e = .returned (.slice p (l.length + 3) c) ∧ SliceS 11 BaS (fun k => w.heap.size ≤ k) w' [.slice p (l.length + 3) c] (greetV l id) ∧ Below w.heap.size w w' := by
  obtain ⟨rfl, hlc, hcm⟩ := h.len
  unfold maxLen at hcm
  have Hk := Lib.hid (keys_any id w)
  have hal : Below w.heap.size w (w.alloc (.cells #[.int .u8 82, .int .u8 0, .string ⟨#[]⟩, .string ⟨#[]⟩, .string ⟨#[]⟩, .int .i64 0, .int .i64 0, .slice none 0 0, .slice none 0 0, .slice none 0 0, .slice none 0 0] 39)) := (Below.refl _ _).alloc (Nat.le_refl _) _
  have Hs := Lib.hid (settings_any S p _ c l _ (h.below PaS.still hal) hl)
  have Hd := Lib.hid (OwnBa.new1 w.heap.size w #[.int .u8 82, .int .u8 0, .string ⟨#[]⟩, .string ⟨#[]⟩, .string ⟨#[]⟩, .int .i64 0, .int .i64 0, .slice none 0 0, .slice none 0 0, .slice none 0 0, .slice none 0 0] (baZero 82) (Nat.le_refl _) rfl (fun _ _ => r_ba _ _))
  have HBa := Lib.hid hal
  have hlg : w.heap.size < (w.alloc (.cells #[.int .u8 82, .int .u8 0, .string ⟨#[]⟩, .string ⟨#[]⟩, .string ⟨#[]⟩, .int .i64 0, .int .i64 0, .slice none 0 0, .slice none 0 0, .slice none 0 0, .slice none 0 0] 39)).heap.size := by simp
  have Hln : Hid ((baZero 82 :: l.map setV).length ≤ 1001) := Lib.hid (by simp; omega)
  clear h hal
  go_enter Tryz.func34, Tryz.ntmps34
  go_wp2_with fail
  refine Hk.out.mono ?_
  rintro e wx ⟨rfl, rfl⟩
  go_wp2_with fail
  generalize w.alloc (.cells #[.int .u8 82, .int .u8 0, .string ⟨#[]⟩, .string ⟨#[]⟩, .string ⟨#[]⟩, .int .i64 0, .int .i64 0, .slice none 0 0, .slice none 0 0, .slice none 0 0, .slice none 0 0] 39) = wa at *
  refine Hs.out.mono ?_
  rintro e w2 ⟨p2, c2, rfl, hs2, hb2⟩
  have Hd2 := Lib.hid (OwnS.below' BaS.still Hd.out hb2)
  have Hs2 := Lib.hid hs2
  have HB2 := Lib.hid (HBa.out.trans (hb2.mono HBa.out.size))
  have Hrd := Lib.hid Hd2.out.row
  have hz2 := HB2.out.size
  clear hs2 hb2 Hs Hk
  go_upto_region 3 with (at_builtin; refine step_appendBa _ rfl (.tmp 14) (.tmp 16) rfl w.heap.size (.slice (some ⟨w.heap.size, 0, none⟩) 1 1) [baZero 82] rfl Hd2.out p2 l.length c2 (l.map setV) rfl (SliceS.weak BaS.still Hs2.out (fun k' _ hk' => by have hk2 : wa.heap.size ≤ k' := hk'; exact ⟨by omega, fun e => by rw [rowOf_pos (by omega)] at e; have e2 := Option.some.inj e; omega⟩)) (by rw [List.length_map, List.length_singleton]; omega) hz2 ?_; intro v3 w3 ho3 hg3 hn3; have Ho3 : Hid (OwnBa w.heap.size w3 v3 (baZero 82 :: l.map setV)) := Lib.hid ho3; have HB3 := Lib.hid (HB2.out.trans (Below.of_row hg3 hz2 (fun k hk => (Hrd.out k hk).1))); clear ho3 hg3 hn3)
  have Hn := Lib.hid (show SliceS 11 BaS (fun j => j = w3.heap.size) (w3.alloc (.cells #[.int .u8 75, .int .u8 0, .string ⟨#[]⟩, .string ⟨#[]⟩, .string ⟨#[]⟩, .int .i64 (keyI id), .int .i64 (keyM id), .slice none 0 0, .slice none 0 0, .slice none 0 0, .slice none 0 0, .int .u8 90, .int .u8 73, .string ⟨#[]⟩, .string ⟨#[]⟩, .string ⟨#[]⟩, .int .i64 0, .int .i64 0, .slice none 0 0, .slice none 0 0, .slice none 0 0, .slice none 0 0] 39)) [.slice (some ⟨w3.heap.size, 0, none⟩) 2 2] [keyB id, idleB] from slice2Ba w3 [.int .u8 75, .int .u8 0, .string ⟨#[]⟩, .string ⟨#[]⟩, .string ⟨#[]⟩, .int .i64 (keyI id), .int .i64 (keyM id), .slice none 0 0, .slice none 0 0, .slice none 0 0, .slice none 0 0] [.int .u8 90, .int .u8 73, .string ⟨#[]⟩, .string ⟨#[]⟩, .string ⟨#[]⟩, .int .i64 0, .int .i64 0, .slice none 0 0, .slice none 0 0, .slice none 0 0, .slice none 0 0] (keyB id) idleB rfl rfl (fun _ _ => key_ba id _ _) (fun _ _ => idle_ba _ _))
  have Hob := Lib.hid (OwnS.below' BaS.still Ho3.out ((Below.refl _ _).alloc (Nat.le_refl _) (.cells #[.int .u8 75, .int .u8 0, .string ⟨#[]⟩, .string ⟨#[]⟩, .string ⟨#[]⟩, .int .i64 (keyI id), .int .i64 (keyM id), .slice none 0 0, .slice none 0 0, .slice none 0 0, .slice none 0 0, .int .u8 90, .int .u8 73, .string ⟨#[]⟩, .string ⟨#[]⟩, .string ⟨#[]⟩, .int .i64 0, .int .i64 0, .slice none 0 0, .slice none 0 0, .slice none 0 0, .slice none 0 0] 39)))
  have Hr3 := Lib.hid Ho3.out.row
  have hz3 := HB3.out.size
  have HBb := Lib.hid (HB3.out.alloc hz3 (.cells #[.int .u8 75, .int .u8 0, .string ⟨#[]⟩, .string ⟨#[]⟩, .string ⟨#[]⟩, .int .i64 (keyI id), .int .i64 (keyM id), .slice none 0 0, .slice none 0 0, .slice none 0 0, .slice none 0 0, .int .u8 90, .int .u8 73, .string ⟨#[]⟩, .string ⟨#[]⟩, .string ⟨#[]⟩, .int .i64 0, .int .i64 0, .slice none 0 0, .slice none 0 0, .slice none 0 0, .slice none 0 0] 39))
  generalize keyI id = ki at *
  generalize keyM id = km at *
  go_wp2_with (at_builtin; refine step_appendBa _ rfl (.tmp 18) (.tmp 23) rfl w.heap.size _ _ rfl Hob.out (some ⟨w3.heap.size, 0, none⟩) 2 2 [keyB id, idleB] rfl (SliceS.weak BaS.still Hn.out (fun k' _ hk' => by have hk2 : k' = w3.heap.size := hk'; exact ⟨by omega, fun e => by have := (Hr3.out k' e).2; omega⟩)) (by have := Hln.out; show _ + 2 ≤ 1000000; omega) HBb.out.size ?_; intro v9 w9 ho9 hg9 hn9; obtain ⟨p9, c9, hv9, hs9⟩ := OwnBa.lst ho9; subst hv9; have Hs9 : Hid (SliceS 11 BaS (fun k => w.heap.size ≤ k) w9 [.slice p9 (greetV l id).length c9] (greetV l id)) := Lib.hid hs9; have HB9 := Lib.hid (HBb.out.trans (Below.of_row hg9 HBb.out.size (fun k hk => (Hr3.out k hk).1))); clear ho9 hg9 hn9 hs9)
  rw [greet_len] at Hs9
  go_ret
  exact ⟨_, _, rfl, Hs9.out, HB9.out⟩

set_option maxRecDepth 100000 in
set_option maxHeartbeats 4000000 in
theorem rbacks_any (S : Nat → Prop) (p : Option Addr) (n c : Nat) (l : List PaV) (id : Int) (w : World) (h : SliceS 2 PaS S w [.slice p n c] l) (hl : l.length ≤ 1000) :
    Calls Tryz.prog 27 #[.slice p n c, .int .i64 id] w fun e w' => ∃ p c, e = .returned (.slice p (l.length + 3) c) ∧ SliceS 11 BaS (fun k => w.heap.size ≤ k) w' [.slice p (l.length + 3) c] (greetV l id) ∧ Below w.heap.size w w' := by
  obtain ⟨rfl, hlc, hcm⟩ := h.len
  unfold maxLen at hcm
  have Hk := Lib.hid (fun w0 : World => rkeys_any id w0)
  have Hd := Lib.hid (OwnBa.new1 w.heap.size w #[.int .u8 82, .int .u8 0, .string ⟨#[]⟩, .string ⟨#[]⟩, .string ⟨#[]⟩, .int .i64 0, .int .i64 0, .slice none 0 0, .slice none 0 0, .slice none 0 0, .slice none 0 0] (baZero 82) (Nat.le_refl _) rfl (fun _ _ => r_ba _ _))
  have HBa := Lib.hid ((Below.refl w.heap.size w).alloc (Nat.le_refl _) (.cells #[.int .u8 82, .int .u8 0, .string ⟨#[]⟩, .string ⟨#[]⟩, .string ⟨#[]⟩, .int .i64 0, .int .i64 0, .slice none 0 0, .slice none 0 0, .slice none 0 0, .slice none 0 0] 39))
  have H := Lib.hid h
  have Hln : Hid ((baZero 82 :: l.map setV).length ≤ 1001) := Lib.hid (by simp; omega)
  clear h
  go_enter Tryz.func27, Tryz.ntmps27
  go_upto_region 2 with fail
  generalize w.alloc (.cells #[.int .u8 82, .int .u8 0, .string ⟨#[]⟩, .string ⟨#[]⟩, .string ⟨#[]⟩, .int .i64 0, .int .i64 0, .slice none 0 0, .slice none 0 0, .slice none 0 0, .slice none 0 0] 39) = wa at *
  go_wp2_with fail
  go_loopw [5, 6] (fun v i wr => ∃ k : Nat, k ≤ l.length ∧ i = .int .i64 k ∧ OwnBa w.heap.size wr v (baZero 82 :: (l.take k).map setV) ∧ Below w.heap.size w wr) (fun _ i _ => l.length - (intOf i).toNat)
  case atStart => exact ⟨0, Nat.zero_le _, rfl, Hd.out, HBa.out⟩
  case round =>
    obtain ⟨k, hk, rfl, ho, hb⟩ := hrel
    have hsz := hb.size
    have Hb := Lib.hid hb
    have Ho := Lib.hid ho
    by_cases hlt : k < l.length
    · obtain ⟨b, o, rfl, hS, hbl, c0, c1⟩ := pa_at (H.out.below PaS.still hb) hlt
      have Htk : Hid (baZero 82 :: (l.take (k + 1)).map setV = (baZero 82 :: (l.take k).map setV) ++ [setV l[k]]) := Lib.hid (by rw [List.take_succ_eq_append_getElem hlt, List.map_append]; rfl)
      have Hl9 : Hid ((baZero 82 :: (l.take k).map setV).length ≤ 1001) := Lib.hid (by simp; omega)
      clear ho hb hS
      generalize l[k] = x at *
      obtain ⟨xn, xv⟩ := x
      dsimp only at *
      have hlti : (k : Int) < (l.length : Int) := by omega
      have Hra := Lib.hid Ho.out.row
      obtain ⟨cs, hcs⟩ : ∃ cs : Array Value, cs = #[.int .u8 83, .int .u8 0, .string ⟨#[]⟩, .string xn, .string xv, .int .i64 0, .int .i64 0, .slice none 0 0, .slice none 0 0, .slice none 0 0, .slice none 0 0] := ⟨_, rfl⟩
      have Hcs := Lib.hid hcs
      have Hn : ∀ w1 : World, SliceS 11 BaS (fun j => j = w1.heap.size) (w1.alloc (.cells #[.int .u8 83, .int .u8 0, .string ⟨#[]⟩, .string xn, .string xv, .int .i64 0, .int .i64 0, .slice none 0 0, .slice none 0 0, .slice none 0 0, .slice none 0 0] 39)) [.slice (some ⟨w1.heap.size, 0, none⟩) 1 1] [setV ⟨xn, xv⟩] := fun w1 => SliceS.new1 (S := fun _ => False) BaS.still w1 39 #[.int .u8 83, .int .u8 0, .string ⟨#[]⟩, .string xn, .string xv, .int .i64 0, .int .i64 0, .slice none 0 0, .slice none 0 0, .slice none 0 0, .slice none 0 0] (setV ⟨xn, xv⟩) (set_ba ⟨xn, xv⟩ _ _) rfl (fun _ _ h => h.elim) rfl
      have HN := Lib.hid Hn
      clear hcs Hn
      go_upto_region 5 with fail
      go_region_law (first
        | (refine rgn_appendBa rfl (.tmp 17) (.tmp 29) rfl w.heap.size _ _ rfl (OwnS.below' BaS.still (OwnS.below' BaS.still Ho.out ((Below.refl _ _).alloc (Nat.le_refl _) _)) (bel_drew _)) (some ⟨wr.heap.size, 0, none⟩) 1 1 [setV ⟨xn, xv⟩] rfl (SliceS.weak BaS.still ((HN.out wr).below BaS.still (bel_drew _)) (fun k' _ hk' => by have hk2 : k' = wr.heap.size := hk'; exact ⟨by omega, fun e => by have := (Hra.out k' e).2; omega⟩)) (by have := Hl9.out; show _ + 1 ≤ 1000000; omega) (show w.heap.size ≤ (wr.alloc _).heap.size by rw [World.size_alloc]; exact Nat.le_succ_of_le hsz) ?_; intro v5 w5 ho5 hg5 hn5; have Ho5 := Lib.hid ho5; have HB5 : Hid (Below w.heap.size w w5) := Lib.hid (((Hb.out.alloc hsz _).trans ((bel_drew _).mono (by rw [World.size_alloc]; exact Nat.le_succ_of_le hsz))).trans (Below.of_row hg5 (show w.heap.size ≤ (wr.alloc _).heap.size by rw [World.size_alloc]; exact Nat.le_succ_of_le hsz) (fun k hk => (Hra.out k hk).1))); clear ho5 hg5 hn5))
      all_goals
        rw [← Htk.out] at Ho5
        clear c0 c1
        go_wp2_with fail
        go_roundw
        case rel => exact ⟨k + 1, by omega, by go_num, Ho5.out, HB5.out⟩
        case measure => simp [intOf]; omega
    · obtain rfl : k = l.length := by omega
      rw [List.take_length] at ho
      have Ho3 : Hid (OwnBa w.heap.size wr u5 (baZero 82 :: l.map setV)) := Lib.hid ho
      have HB3 := Hb
      clear ho hb Ho Hb
      obtain ⟨w3, hw3⟩ : ∃ w3, w3 = wr := ⟨_, rfl⟩
      clear hw3 w3
      go_wp2_with fail
      refine (Hk.out _).mono ?_
      rintro e wx ⟨rfl, rfl⟩
      go_upto_region 7 with fail
      have Hn := Lib.hid (show SliceS 11 BaS (fun j => j = wr.heap.size) (wr.alloc (.cells #[.int .u8 75, .int .u8 0, .string ⟨#[]⟩, .string ⟨#[]⟩, .string ⟨#[]⟩, .int .i64 (keyI id), .int .i64 (keyM id), .slice none 0 0, .slice none 0 0, .slice none 0 0, .slice none 0 0, .int .u8 90, .int .u8 73, .string ⟨#[]⟩, .string ⟨#[]⟩, .string ⟨#[]⟩, .int .i64 0, .int .i64 0, .slice none 0 0, .slice none 0 0, .slice none 0 0, .slice none 0 0] 39)) [.slice (some ⟨wr.heap.size, 0, none⟩) 2 2] [keyB id, idleB] from slice2Ba wr [.int .u8 75, .int .u8 0, .string ⟨#[]⟩, .string ⟨#[]⟩, .string ⟨#[]⟩, .int .i64 (keyI id), .int .i64 (keyM id), .slice none 0 0, .slice none 0 0, .slice none 0 0, .slice none 0 0] [.int .u8 90, .int .u8 73, .string ⟨#[]⟩, .string ⟨#[]⟩, .string ⟨#[]⟩, .int .i64 0, .int .i64 0, .slice none 0 0, .slice none 0 0, .slice none 0 0, .slice none 0 0] (keyB id) idleB rfl rfl (fun _ _ => key_ba id _ _) (fun _ _ => idle_ba _ _))
      have Hob := Lib.hid (OwnS.below' BaS.still Ho3.out ((Below.refl _ _).alloc (Nat.le_refl _) (.cells #[.int .u8 75, .int .u8 0, .string ⟨#[]⟩, .string ⟨#[]⟩, .string ⟨#[]⟩, .int .i64 (keyI id), .int .i64 (keyM id), .slice none 0 0, .slice none 0 0, .slice none 0 0, .slice none 0 0, .int .u8 90, .int .u8 73, .string ⟨#[]⟩, .string ⟨#[]⟩, .string ⟨#[]⟩, .int .i64 0, .int .i64 0, .slice none 0 0, .slice none 0 0, .slice none 0 0, .slice none 0 0] 39)))
      have Hr3 := Lib.hid Ho3.out.row
      have hz3 := HB3.out.size
      have HBb := Lib.hid (HB3.out.alloc hz3 (.cells #[.int .u8 75, .int .u8 0, .string ⟨#[]⟩, .string ⟨#[]⟩, .string ⟨#[]⟩, .int .i64 (keyI id), .int .i64 (keyM id), .slice none 0 0, .slice none 0 0, .slice none 0 0, .slice none 0 0, .int .u8 90, .int .u8 73, .string ⟨#[]⟩, .string ⟨#[]⟩, .string ⟨#[]⟩, .int .i64 0, .int .i64 0, .slice none 0 0, .slice none 0 0, .slice none 0 0, .slice none 0 0] 39))
      generalize keyI id = ki at *
      generalize keyM id = km at *
      go_wp2_with (at_builtin; refine step_appendBa _ rfl (.tmp 36) (.tmp 41) rfl w.heap.size _ _ rfl Hob.out (some ⟨wr.heap.size, 0, none⟩) 2 2 [keyB id, idleB] rfl (SliceS.weak BaS.still Hn.out (fun k' _ hk' => by have hk2 : k' = wr.heap.size := hk'; exact ⟨by omega, fun e => by have := (Hr3.out k' e).2; omega⟩)) (by have := Hln.out; show _ + 2 ≤ 1000000; omega) HBb.out.size ?_; intro v9 w9 ho9 hg9 hn9; obtain ⟨p9, c9, hv9, hs9⟩ := OwnBa.lst ho9; subst hv9; have Hs9 : Hid (SliceS 11 BaS (fun k => w.heap.size ≤ k) w9 [.slice p9 (greetV l id).length c9] (greetV l id)) := Lib.hid hs9; have HB9 := Lib.hid (HBb.out.trans (Below.of_row hg9 HBb.out.size (fun k hk => (Hr3.out k hk).1))); clear ho9 hg9 hn9 hs9)
      rw [greet_len] at Hs9
      go_ret
      exact ⟨_, _, rfl, Hs9.out, HB9.out⟩

set_option maxRecDepth 100000 in
theorem gbytes_any (S : Nat → Prop) (p : Option Addr) (n c : Nat) (l : List PaV) (id : Int) (w : World) (h : SliceS 2 PaS S w [.slice p n c] l) (hl : l.length ≤ 900) (hs : ∀ x ∈ greetV l id, ShortB x) :
    Calls Tryz.prog 14 #[.slice p n c, .int .i64 id] w fun e w' => ∃ p d, e = .returned (.slice p (bytesB (greetV l id)).length d) ∧ (BytesIn w' p (bytesB (greetV l id)) ∧ (bytesB (greetV l id)).length ≤ d ∧ d ≤ maxLen) ∧ Below w.heap.size w w' := by
  have Hb := Lib.hid (backs_any S p n c l id w h (by omega))
  have Hy := Lib.hid (fun (w0 : World) p c (h : SliceS 11 BaS (fun k => w.heap.size ≤ k) w0 [.slice p (l.length + 3) c] (greetV l id)) => bbytes_any _ p _ c _ w0 h (by rw [greet_len]; omega) hs)
  clear h hs
  generalize bytesB (greetV l id) = res at *
  go_enter Tryz.func14, Tryz.ntmps14
  go_wp2_with fail
  refine Hb.out.mono ?_
  rintro e w1 ⟨p1, c1, rfl, hs1, hb1⟩
  have Hc := Lib.hid (Hy.out w1 p1 c1 hs1)
  have HB1 := Lib.hid hb1
  clear hs1 hb1 Hb Hy
  go_wp2_with fail
  refine Hc.out.mono ?_
  rintro e w2 ⟨v2, rfl, ho, hb⟩
  obtain ⟨p2, d2, hv2, g1, g2, q2, -⟩ := ho.slice
  have Hq := Lib.hid (And.intro q2 (And.intro g1 g2))
  have HB2 := Lib.hid (HB1.out.trans (hb.mono HB1.out.size))
  subst hv2
  clear ho hb q2 g1 g2
  go_wp2_with fail
  go_ret
  exact ⟨_, _, rfl, Hq.out, HB2.out⟩

set_option maxRecDepth 100000 in
theorem rgbytes_any (S : Nat → Prop) (p : Option Addr) (n c : Nat) (l : List PaV) (id : Int) (w : World) (h : SliceS 2 PaS S w [.slice p n c] l) (hl : l.length ≤ 900) (hs : ∀ x ∈ greetV l id, ShortB x) :
    Calls Tryz.prog 9 #[.slice p n c, .int .i64 id] w fun e w' => ∃ p d, e = .returned (.slice p (bytesB (greetV l id)).length d) ∧ (BytesIn w' p (bytesB (greetV l id)) ∧ (bytesB (greetV l id)).length ≤ d ∧ d ≤ maxLen) ∧ Below w.heap.size w w' := by
  have Hb := Lib.hid (rbacks_any S p n c l id w h (by omega))
  have Hy := Lib.hid (fun (w0 : World) p c (h : SliceS 11 BaS (fun k => w.heap.size ≤ k) w0 [.slice p (l.length + 3) c] (greetV l id)) => rbbytes_any _ p _ c _ w0 h (by rw [greet_len]; omega) hs)
  clear h hs
  generalize bytesB (greetV l id) = res at *
  go_enter Tryz.func9, Tryz.ntmps9
  go_wp2_with fail
  refine Hb.out.mono ?_
  rintro e w1 ⟨p1, c1, rfl, hs1, hb1⟩
  have Hc := Lib.hid (Hy.out w1 p1 c1 hs1)
  have HB1 := Lib.hid hb1
  clear hs1 hb1 Hb Hy
  go_wp2_with fail
  refine Hc.out.mono ?_
  rintro e w2 ⟨v2, rfl, ho, hb⟩
  obtain ⟨p2, d2, hv2, g1, g2, q2, -⟩ := ho.slice
  have Hq := Lib.hid (And.intro q2 (And.intro g1 g2))
  have HB2 := Lib.hid (HB1.out.trans (hb.mono HB1.out.size))
  subst hv2
  clear ho hb q2 g1 g2
  go_wp2_with fail
  go_ret
  exact ⟨_, _, rfl, Hq.out, HB2.out⟩

end Go.Proofs.YthhebfknikfleaaGreat
