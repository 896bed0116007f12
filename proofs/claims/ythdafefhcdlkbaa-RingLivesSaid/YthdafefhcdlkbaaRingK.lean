/-
  The walk of RingLives (layer 36).
-/
import Derived.Test.YthdafefhcdlkbaaRingJ
import Derived.Test.YthdafefhcdlkbaaBytesEqual
namespace Go.Proofs.Ythdafefhcdlkbaa
open Go.RowKit

/-- A ring and the document's, side by side. -/
structure St2 (B : Nat) (w : World) (rb g : Nat) (L : List UInt8) (most xb : Nat) (v : Value) : Prop where
  ring : RingO w rb g L most
  ref : RefR B w xb v L most
  rbB : B ≤ rb
  gB : B ≤ g
  nr : rb ≠ xb
  ng : g ≠ xb
  nv : ∀ k, v.ownBlock = some k → k ≠ rb ∧ k ≠ g

theorem RefR.touch {B : Nat} {w w' : World} {xb : Nat} {v : Value} {L : List UInt8} {most : Nat} {p : Nat → Prop} (h : RefR B w xb v L most) (ht : Touch p w w') (h1 : ¬ p xb) (h2 : ∀ k, v.ownBlock = some k → ¬ p k) : RefR B w' xb v L most :=
  ⟨ht.blk h.blk h1, h.own.touch ht h2, h.ne, h.xB⟩

section
variable {B : Nat} {w w' w'' : World} {rb g : Nat} {L : List UInt8} {most xb : Nat} {v : Value}

theorem St2.still (h : St2 B w rb g L most xb v) (ht : Touch (fun _ => False) w w') : St2 B w' rb g L most xb v :=
  ⟨h.ring.touch ht (fun e => e) (fun e => e), h.ref.touch ht (fun e => e) (fun _ _ e => e), h.rbB, h.gB, h.nr, h.ng, h.nv⟩

theorem St2.drew (h : St2 B w rb g L most xb v) : St2 B w.drew rb g L most xb v := h.still ((Touch.refl _ _).drew)

theorem St2.ref1 (h : St2 B w rb g L most xb v) (ht : Touch (fun i => i = rb ∨ i = g) w w') : RefR B w' xb v L most :=
  h.ref.touch ht (fun e => by have := h.nr; have := h.ng; omega) (fun k hk e => by have := h.nv k hk; omega)

theorem St2.take (h : St2 B w rb g L most xb v) (L' : List UInt8) (hr : RingO w' rb g L' most) (ht : Touch (fun i => i = rb) w w') {v' : Value} (hx : RefR B w'' xb v' L' most) (hn : ∀ k, v'.ownBlock = some k → w'.heap.size ≤ k) (ht2 : Touch (fun i => i = xb) w' w'') :
    St2 B w'' rb g L' most xb v' := by
  have h1 := hr.lt
  have h2 := hr.ltg
  exact ⟨hr.touch ht2 h.nr h.ng, hx, h.rbB, h.gB, h.nr, h.ng, fun k hk => by have := hn k hk; exact ⟨by omega, by omega⟩⟩

theorem St2.put (h : St2 B w rb g L most xb v) (L' : List UInt8) {g' : Nat} (hr : RingO w' rb g' L' most) (hg : g' = g ∨ w.heap.size ≤ g') (hB : B ≤ w.heap.size) {v' : Value} (hx : RefR B w'' xb v' L' most) (hn : ∀ k, v'.ownBlock = some k → w'.heap.size ≤ k) (ht2 : Touch (fun i => i = xb) w' w'') :
    St2 B w'' rb g' L' most xb v' := by
  have h1 := hr.lt
  have h2 := hr.ltg
  have h3 := h.ref.blk.lt
  have h4 := h.ng
  have h5 := h.gB
  have h6 : g' ≠ xb := by omega
  exact ⟨hr.touch ht2 h.nr h6, hx, h.rbB, by omega, h.nr, h6, fun k hk => by have := hn k hk; exact ⟨by omega, by omega⟩⟩
end

/-- Take, whatever number, and where the bytes lie. -/
theorem take_any2 (rb g : Nat) (L : List UInt8) (most : Nat) (n : Int) (w : World) (h : RingO w rb g L most) :
    Calls Try.prog 12 #[.pointer (some ⟨rb, 0, none⟩), .int .i64 n] w fun e w' =>
      ∃ T D p, (∀ k, k = min n.toNat L.length → L.take k = T ∧ L.drop k = D) ∧ e = .returned (.slice p T.length T.length) ∧ BytesIn w' p T ∧ (∀ x, p = some x → x.block = w.heap.size) ∧ RingO w' rb g D most ∧ Touch (fun i => i = rb) w w' := by
  by_cases hz : n ≤ 0 ∨ L.length = 0
  · have hc : w.cell? ⟨rb, 2, none⟩ = some (.int .i64 (L.length : Nat)) := by
      obtain ⟨v, bs, a, hb, _⟩ := h
      exact hb.cell 2
    refine (take_none rb L.length n w hc hz).mono ?_
    rintro e w' ⟨rfl, rfl⟩
    refine ⟨[], L, none, ?_, rfl, BytesIn.nil _ _, (by simp), h, Touch.refl _ _⟩
    intro k hk
    obtain rfl : k = 0 := by omega
    exact ⟨List.take_zero, List.drop_zero⟩
  · refine (take_some rb g L most n (min n.toNat L.length) w h (by omega) (by omega) (by omega)).mono ?_
    rintro e w' ⟨rfl, hb, hr, ht⟩
    have hl : (L.take (min n.toNat L.length)).length = min n.toNat L.length := by rw [List.length_take]; omega
    exact ⟨L.take (min n.toNat L.length), L.drop (min n.toNat L.length), _, (by rintro k rfl; exact ⟨rfl, rfl⟩), by rw [hl], hb.bytesIn 0 _ (fun i hi => by rw [Nat.zero_add]; exact ⟨hi, rfl⟩), (by simp), hr, ht⟩

set_option maxRecDepth 100000 in
set_option maxHeartbeats 4000000 in
theorem ringLives_ok (most : Nat) (hm1 : 1 ≤ most) (hm2 : most ≤ 1048576) (p : Option Addr) (c : Nat) (xs : List DoL) (w : World) (hx : SliceR 3 DoR w.heap.size w [.slice p xs.length c] xs) :
    Calls Try.prog 4 #[.int .i64 (most : Int), .slice p xs.length c] w fun e w' => e = .returned (.bool true) ∧ Below w.heap.size w w' := by
  have Hx := Lib.hid hx
  obtain ⟨p', c', h1, hlc, hcm, hh⟩ := hx
  clear hh
  simp only [List.cons.injEq, Value.slice.injEq, and_true] at h1
  obtain ⟨rfl, h9, rfl⟩ := h1
  clear h9
  unfold maxLen at hcm
  go_enter Try.func4, Try.ntmps4
  go_wp2_with fail
  refine (ringNew_yes most w hm1 hm2).mono ?_
  rintro e w0 ⟨rfl, h0, ht0⟩
  have H0 := Lib.hid h0
  have Hb0 := Lib.hid (ht0.below (Nat.le_refl _) (fun k h => h.elim))
  have hs0 := ht0.size
  have hrl0 := h0.lt
  clear h0 ht0
  go_wp2_with fail
  refine (refNew_yes most w.heap.size w0 hm1 hm2 hs0).mono ?_
  rintro e w1 ⟨rfl, h1, ht1⟩
  have Hst := Lib.hid (show St2 w.heap.size w1 w.heap.size w.heap.size [] most w0.heap.size (.slice none 0 0) from
    ⟨H0.out.touch ht1 (fun e => e) (fun e => e), h1, Nat.le_refl _, Nat.le_refl _, by omega, by omega, by simp [Value.ownBlock]⟩)
  have Hb1 := Lib.hid (Hb0.out.trans (ht1.below hs0 (fun k h => h.elim)))
  generalize w0.heap.size = xb at *
  clear h1 ht1 H0 Hb0 hs0 hrl0
  go_wp2_with fail
  go_loopw [9, 10, 11, 34] (fun _ _ _ i wr => ∃ k : Nat, k ≤ xs.length ∧ k ≤ 100 ∧ i = .int .i64 k ∧ ∃ g L v, St2 w.heap.size wr w.heap.size g L most xb v ∧ Below w.heap.size w wr) (fun _ _ _ i _ => xs.length - (intOf i).toNat)
  case atStart => exact ⟨0, Nat.zero_le _, by omega, rfl, _, _, _, Hst.out, Hb1.out⟩
  case round =>
    clear Hst Hb1
    obtain ⟨k, hk, hk100, rfl, g, L, v, hst, hbw⟩ := hrel
    have hsz := hbw.size
    have hrl := hst.ring.lt
    have hgl := hst.ring.ltg
    have hxl := hst.ref.blk.lt
    have hLm := hst.ring.len
    have Hst := Lib.hid hst
    have Hbw := Lib.hid hbw
    clear hst hbw
    by_cases hlt : k < xs.length
    · obtain ⟨p', c', h1, _, _, h4⟩ := SliceR.stays DoR.stays _ w wr _ _ Hx.out Hbw.out
      simp only [List.cons.injEq, Value.slice.injEq, and_true] at h1
      obtain ⟨rfl, h9, rfl⟩ := h1
      clear h9
      obtain ⟨b', o, es, rfl, hbB, hel, hcell, v', rfl, pb, cb, hv, hl1, hl2, hin, hin2⟩ := h4 k xs[k] (List.getElem?_eq_getElem hlt)
      simp only [List.cons.injEq, and_true] at hv
      subst hv
      have c0 := hcell 0 _ rfl
      have c1 := hcell 1 _ rfl
      have c2 := hcell 2 _ rfl
      rw [Nat.add_zero] at c0
      clear hcell h4 hel
      generalize xs[k] = x at c0 c1 c2 hl1 hl2 hin hin2
      obtain ⟨xt, xn, xb'⟩ := x
      dsimp only at c0 c1 c2 hl1 hl2 hin hin2
      unfold maxLen at hl2
      have Hin := Lib.hid hin
      have Hin2 := Lib.hid hin2
      clear hin hin2
      by_cases h100 : k < 100
      · by_cases h500 : xb'.length ≤ 500
        · cases xt
          · go_wp2_with fail
            have Hst2 := Lib.hid (Hst.out.still ((Touch.refl _ _).alloc (.cells #[.bool false, .int .i64 xn, .slice pb xb'.length cb] 39)))
            have Hb2 := Lib.hid (Hbw.out.trans ((Below.refl _ _).alloc (by omega) (.cells #[.bool false, .int .i64 xn, .slice pb xb'.length cb] 39)))
            have Hbd := Lib.hid (Blk.new wr 39 #[.bool false, .int .i64 xn, .slice pb xb'.length cb])
            have Hinw := Lib.hid (Hin.out.alloc (.cells #[.bool false, .int .i64 xn, .slice pb xb'.length cb] 39))
            generalize wr.alloc (.cells #[.bool false, .int .i64 xn, .slice pb xb'.length cb] 39) = w2 at Hst2 Hb2 Hbd Hinw ⊢
            have hs2 := Hb2.out.size
            have hd2 : ∀ i, w2.cell? ⟨wr.heap.size, i, none⟩ = (#[.bool false, .int .i64 xn, .slice pb xb'.length cb] : Array Value)[i]? := Hbd.out.cell
            clear c0 c1 c2 Hin
            by_cases hfit : L.length + xb'.length ≤ most
            · go_region_held3 (fun w' => ∀ i, w'.cell? ⟨wr.heap.size, i, none⟩ = (#[.bool false, .int .i64 xn, .slice pb xb'.length cb] : Array Value)[i]?)
                (first | exact hd2 | exact hd3 | exact hd4 | go_keep)
                (first
                  | (go_at_call 11; refine (put_ok w.heap.size g L most pb xb' cb _ Hst2.out.drew.ring hfit hl1 (by unfold maxLen; exact hl2) (Hinw.out.drewN 1) (fun hne x hx => by have h1 := Hin2.out hne x hx; have h2 := Hst2.out.gB; exact ⟨by omega, by omega⟩)).mono ?_; rintro e w3 ⟨rfl, g4, hr3, hg3, ht3⟩; have ht23 := ((Touch.refl (fun i => i = w.heap.size ∨ i = g) w2).drew).trans ht3; have Hr3 := Lib.hid hr3; have Hg3 := Lib.hid (show g4 = g ∨ w2.heap.size ≤ g4 from hg3); have Ht3 := Lib.hid ht23; have Hx3 := Lib.hid (Hst2.out.ref1 ht23); have Hin3 := Lib.hid (ht23.bytesIn Hinw.out (fun hne x hx e => by have h1 := Hin2.out hne x hx; have h2 := Hst2.out.gB; omega)); have Hbd3 := Lib.hid (ht23.blk Hbd.out (by omega)); have hd3 := Hbd3.out.cell; have Hb3 := Lib.hid (Hb2.out.trans (ht23.below hs2 (fun k e => by have h2 := Hst2.out.gB; omega))); clear hr3 hg3 ht3 ht23)
                  | (go_at_call 20; refine (refPut_ok w.heap.size xb v L most pb xb' cb _ Hx3.out hm2 hfit Hb3.out.size Hin3.out).mono ?_; rintro e w4 ⟨rfl, v2, hx4, hn4, ht4⟩; have hs3 := Hb3.out.size; have Hst4 := Lib.hid (Hst2.out.put (L ++ xb') Hr3.out Hg3.out hs2 hx4 hn4 ht4); have hd4 := (ht4.blk Hbd3.out (by omega)).cell; have Hb4 := Lib.hid (Hb3.out.trans (ht4.below hs3 (fun k e => by have := Hst2.out.ref.xB; omega))); clear hx4 hn4 ht4 hd3))
              generalize L ++ xb' = D at Hst4
              obtain ⟨pv, cv, rfl, _, _, _⟩ := Hst4.out.ref.own.slice
              clear Hst Hbw Hst2 Hb2 Hbd Hbd3 Hb3 Hx3 Hr3 Ht3 Hg3 Hin3 Hinw Hin2 hd2
              have hL4 := Hst4.out.ring.len
              have hxc4 : ∀ i, w4.cell? ⟨xb, i, none⟩ = (#[.slice pv D.length cv, .int .i64 (most : Nat)] : Array Value)[i]? := Hst4.out.ref.blk.cell
              have hwr : IntKind.i64.wrap ((most : Int) - (D.length : Int)) = (most : Int) - (D.length : Int) := by rw [IntKind.wrap_i64]; omega
              have hs4 := Hb4.out.size
              have hxl4 := Hst4.out.ref.blk.lt
              go_wp2_with fail
              go_region_held3 (fun w' => ∀ i, w'.cell? ⟨xb, i, none⟩ = (#[.slice pv D.length cv, .int .i64 (most : Nat)] : Array Value)[i]?)
                (first | exact hxc4 | exact hxc6 | go_keep)
                (first
                  | (go_at_call 13; refine (ringLen_any w.heap.size g4 D most _ Hst4.out.drew.ring).mono ?_; rintro e w5 ⟨rfl, rfl⟩)
                  | (go_at_call 14; refine (ringRoom_any w.heap.size g4 D most _ Hst4.out.drew.ring).mono ?_; rintro e w6 ⟨rfl, ht6⟩; have ht46 := ((Touch.refl (fun _ => False) w4).drew).trans ht6; have Hst6 := Lib.hid (Hst4.out.still ht46); have Hb6 := Lib.hid (Hb4.out.trans (ht46.below hs4 (fun k e => e.elim))); have hxc6 : ∀ i, w6.cell? ⟨xb, i, none⟩ = (#[.slice pv D.length cv, .int .i64 (most : Nat)] : Array Value)[i]? := Hst6.out.ref.blk.cell; clear ht46 ht6))
              go_wp2_with fail
              go_roundw
              case rel => exact ⟨k + 1, by omega, by omega, by go_num, g4, D, _, Hst6.out, Hb6.out⟩
              case measure => simp [intOf]; omega
            · go_region_held3 (fun w' => ∀ i, w'.cell? ⟨wr.heap.size, i, none⟩ = (#[.bool false, .int .i64 xn, .slice pb xb'.length cb] : Array Value)[i]?)
                (first | exact hd2 | exact hd3 | exact hd4 | go_keep)
                (first
                  | (go_at_call 11; refine (put_full w.heap.size g L most pb xb' cb _ Hst2.out.drew.ring (by omega) (by unfold maxLen; omega)).mono ?_; rintro e w3 ⟨rfl, ht3⟩; have ht23 := ((Touch.refl (fun _ => False) w2).drew).trans ht3; have Hst3 := Lib.hid (Hst2.out.still ht23); have Hbd3 := Lib.hid (ht23.blk Hbd.out (fun e => e)); have hd3 := Hbd3.out.cell; have Hb3 := Lib.hid (Hb2.out.trans (ht23.below hs2 (fun k e => e.elim))); clear ht3 ht23)
                  | (go_at_call 20; refine (refPut_full w.heap.size xb v L most pb xb' cb _ Hst3.out.ref hm2 (by omega) (by unfold maxLen; omega) hLm).mono ?_; rintro e w4 ⟨rfl, ht4⟩; have hs3 := Hb3.out.size; have Hst4 := Lib.hid (Hst3.out.still ht4); have hd4 := (ht4.blk Hbd3.out (fun e => e)).cell; have Hb4 := Lib.hid (Hb3.out.trans (ht4.below hs3 (fun k e => e.elim))); clear ht4 hd3))
              obtain ⟨pv, cv, rfl, _, _, _⟩ := Hst4.out.ref.own.slice
              clear Hst Hbw Hst2 Hb2 Hst3 Hbd Hbd3 Hb3 Hinw Hin2 hd2
              have hL4 := Hst4.out.ring.len
              have hxc4 : ∀ i, w4.cell? ⟨xb, i, none⟩ = (#[.slice pv L.length cv, .int .i64 (most : Nat)] : Array Value)[i]? := Hst4.out.ref.blk.cell
              have hwr : IntKind.i64.wrap ((most : Int) - (L.length : Int)) = (most : Int) - (L.length : Int) := by rw [IntKind.wrap_i64]; omega
              have hs4 := Hb4.out.size
              have hxl4 := Hst4.out.ref.blk.lt
              go_wp2_with fail
              go_region_held3 (fun w' => ∀ i, w'.cell? ⟨xb, i, none⟩ = (#[.slice pv L.length cv, .int .i64 (most : Nat)] : Array Value)[i]?)
                (first | exact hxc4 | exact hxc6 | go_keep)
                (first
                  | (go_at_call 13; refine (ringLen_any w.heap.size g L most _ Hst4.out.drew.ring).mono ?_; rintro e w5 ⟨rfl, rfl⟩)
                  | (go_at_call 14; refine (ringRoom_any w.heap.size g L most _ Hst4.out.drew.ring).mono ?_; rintro e w6 ⟨rfl, ht6⟩; have ht46 := ((Touch.refl (fun _ => False) w4).drew).trans ht6; have Hst6 := Lib.hid (Hst4.out.still ht46); have Hb6 := Lib.hid (Hb4.out.trans (ht46.below hs4 (fun k e => e.elim))); have hxc6 : ∀ i, w6.cell? ⟨xb, i, none⟩ = (#[.slice pv L.length cv, .int .i64 (most : Nat)] : Array Value)[i]? := Hst6.out.ref.blk.cell; clear ht46 ht6))
              go_wp2_with fail
              go_roundw
              case rel => exact ⟨k + 1, by omega, by omega, by go_num, g, L, _, Hst6.out, Hb6.out⟩
              case measure => simp [intOf]; omega
          · go_wp2_with fail
            have Hst2 := Lib.hid (Hst.out.still ((Touch.refl _ _).alloc (.cells #[.bool true, .int .i64 xn, .slice pb xb'.length cb] 39)))
            have Hb2 := Lib.hid (Hbw.out.trans ((Below.refl _ _).alloc (by omega) (.cells #[.bool true, .int .i64 xn, .slice pb xb'.length cb] 39)))
            have Hbd := Lib.hid (Blk.new wr 39 #[.bool true, .int .i64 xn, .slice pb xb'.length cb])
            have Hinw := Lib.hid (Hin.out.alloc (.cells #[.bool true, .int .i64 xn, .slice pb xb'.length cb] 39))
            generalize wr.alloc (.cells #[.bool true, .int .i64 xn, .slice pb xb'.length cb] 39) = w2 at Hst2 Hb2 Hbd Hinw ⊢
            have hs2 := Hb2.out.size
            have hd2 : ∀ i, w2.cell? ⟨wr.heap.size, i, none⟩ = (#[.bool true, .int .i64 xn, .slice pb xb'.length cb] : Array Value)[i]? := Hbd.out.cell
            clear c0 c1 c2 Hin
            clear Hinw Hin2
            go_region_held3 (fun w' => ∀ i, w'.cell? ⟨wr.heap.size, i, none⟩ = (#[.bool true, .int .i64 xn, .slice pb xb'.length cb] : Array Value)[i]?)
              (first | exact hd2 | exact hd3 | exact hd4 | go_keep)
              (first
                | (go_at_call 12; refine (take_any2 w.heap.size g L most xn _ Hst2.out.drew.ring).mono ?_; rintro e w3 ⟨T, D, pp, htd, rfl, hin3, hpp3, hr3, ht3⟩; have ht23 := ((Touch.refl (fun i => i = w.heap.size) w2).drew).trans ht3; have Htd := Lib.hid htd; have Hin3 := Lib.hid hin3; have Hpp3 := Lib.hid hpp3; have Hr3 := Lib.hid hr3; have Ht3 := Lib.hid ht23; have Hx3 := Lib.hid (Hst2.out.ref1 (ht23.mono (fun _ _ e => .inl e))); have Hbd3 := Lib.hid (ht23.blk Hbd.out (by omega)); have hd3 := Hbd3.out.cell; have Hb3 := Lib.hid (Hb2.out.trans (ht23.below hs2 (fun k e => by omega))); clear htd hin3 hpp3 hr3 ht3 ht23)
                | (go_at_call 19; refine (refTake_any w.heap.size xb v L most xn _ Hx3.out (by omega)).mono ?_; rintro e w4 ⟨k2, vo, v2, hk2, rfl, ho4, hx4, hn4, ht4⟩; rw [(Htd.out k2 hk2).1] at ho4; rw [(Htd.out k2 hk2).2] at hx4; obtain ⟨po, co, rfl, _, _, hio⟩ := ho4.slice; have hs3 := Hb3.out.size; have Hio := Lib.hid hio; have Hin4 := Lib.hid (ht4.bytesIn Hin3.out (fun _ x hx e => by have h1 := Hpp3.out x hx; have h2 := Hst2.out.ref.blk.lt; have h3 : w2.drew.heap.size = w2.heap.size := rfl; omega)); have Hst4 := Lib.hid (Hst2.out.take D Hr3.out Ht3.out hx4 hn4 ht4); have hd4 := (ht4.blk Hbd3.out (by omega)).cell; have Hb4 := Lib.hid (Hb3.out.trans (ht4.below hs3 (fun k e => by have := Hst2.out.ref.xB; omega))); clear hk2 ho4 hx4 hn4 ht4 hio hd3)
                | (go_at_call 18; refine (equal_any pp po T T T.length co _ Hin4.out Hio.out).mono ?_; rintro e w5 ⟨rfl, rfl⟩; rw [beq_self_eq_true]))
            obtain ⟨pv, cv, rfl, _, _, _⟩ := Hst4.out.ref.own.slice
            clear Hst Hbw Hst2 Hb2 Hbd Hbd3 Hb3 Hx3 Hr3 Ht3 Htd Hpp3 Hin3 Hin4 Hio hd2
            have hL4 := Hst4.out.ring.len
            have hxc4 : ∀ i, w4.cell? ⟨xb, i, none⟩ = (#[.slice pv D.length cv, .int .i64 (most : Nat)] : Array Value)[i]? := Hst4.out.ref.blk.cell
            have hwr : IntKind.i64.wrap ((most : Int) - (D.length : Int)) = (most : Int) - (D.length : Int) := by rw [IntKind.wrap_i64]; omega
            have hs4 := Hb4.out.size
            have hxl4 := Hst4.out.ref.blk.lt
            go_wp2_with fail
            go_region_held3 (fun w' => ∀ i, w'.cell? ⟨xb, i, none⟩ = (#[.slice pv D.length cv, .int .i64 (most : Nat)] : Array Value)[i]?)
              (first | exact hxc4 | exact hxc6 | go_keep)
              (first
                | (go_at_call 13; refine (ringLen_any w.heap.size g D most _ Hst4.out.drew.ring).mono ?_; rintro e w5 ⟨rfl, rfl⟩)
                | (go_at_call 14; refine (ringRoom_any w.heap.size g D most _ Hst4.out.drew.ring).mono ?_; rintro e w6 ⟨rfl, ht6⟩; have ht46 := ((Touch.refl (fun _ => False) w4).drew).trans ht6; have Hst6 := Lib.hid (Hst4.out.still ht46); have Hb6 := Lib.hid (Hb4.out.trans (ht46.below hs4 (fun k e => e.elim))); have hxc6 : ∀ i, w6.cell? ⟨xb, i, none⟩ = (#[.slice pv D.length cv, .int .i64 (most : Nat)] : Array Value)[i]? := Hst6.out.ref.blk.cell; clear ht46 ht6))
            go_wp2_with fail
            go_roundw
            case rel => exact ⟨k + 1, by omega, by omega, by go_num, g, D, _, Hst6.out, Hb6.out⟩
            case measure => simp [intOf]; omega
        · go_wp2_with fail
          refine (awake_yes _).mono ?_
          rintro e w3 ⟨rfl, ht3⟩
          have Ht3 := Lib.hid ht3
          clear ht3
          go_wp2
          go_ret
          exact ⟨rfl, (Hbw.out.trans ((Below.refl _ _).alloc (by omega) (.cells #[.bool xt, .int .i64 xn, .slice pb xb'.length cb] 39))).trans (Ht3.out.below (by simp; omega) (fun k e => e.elim))⟩
      · go_wp2_with fail
        refine (awake_yes _).mono ?_
        rintro e w3 ⟨rfl, ht3⟩
        have Ht3 := Lib.hid ht3
        clear ht3
        go_wp2
        go_ret
        exact ⟨rfl, (Hbw.out.trans ((Below.refl _ _).alloc (by omega) (.cells #[.bool xt, .int .i64 xn, .slice pb xb'.length cb] 39))).trans (Ht3.out.below (by simp; omega) (fun k e => e.elim))⟩
    · go_wp2_with fail
      refine (awake_yes _).mono ?_
      rintro e w3 ⟨rfl, ht3⟩
      have Ht3 := Lib.hid ht3
      clear ht3
      go_wp2
      go_ret
      exact ⟨rfl, Hbw.out.trans (Ht3.out.below hsz (fun k e => e.elim))⟩

end Go.Proofs.Ythdafefhcdlkbaa
