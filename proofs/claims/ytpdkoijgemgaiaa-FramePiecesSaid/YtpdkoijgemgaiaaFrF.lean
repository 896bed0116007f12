/-
  The contract of frame's Next on a framer that a call made (layer 4).
-/
import Derived.Test.YtpdkoijgemgaiaaFrE
namespace Go.Proofs.Ytpdkoijgemgaiaa
open Go.RowKit

def NextR (B sb : Nat) (t : Bool) (L : List UInt8) (most room : Nat) (wrong : Int) (v : Value) (w : World) (e : Ending) (w' : World) : Prop :=
  (nextL t most L wrong = none ∧ e = .returned (.tuple #[.agg #[.int .u8 0, .slice none 0 0], .bool false, .int .i64 (wrongL t most L wrong)]) ∧ FrO B w' sb t L most room (wrongL t most L wrong) v ∧ Touch (fun i => i = sb) w w') ∨
  (∃ ty b r q d v', nextL t most L wrong = some (ty, b, r) ∧ wrong = 0 ∧ r.length < L.length ∧ b.length ≤ L.length ∧ e = .returned (.tuple #[.agg #[.int .u8 (ty : Nat), .slice q b.length d], .bool true, .int .i64 0]) ∧ BytesS (fun k => w.heap.size ≤ k) w' [.slice q b.length d] b ∧
    FrO B w' sb t r most room 0 v' ∧ (∀ k, rowOf v' = some k → rowOf v = some k) ∧ FrT sb v w w')

set_option maxRecDepth 100000 in
set_option maxHeartbeats 10000000 in
theorem frNext_any (B sb : Nat) (t : Bool) (L : List UInt8) (most room : Nat) (wrong : Int) (v : Value) (w : World) (h : FrO B w sb t L most room wrong v) (hr : 0 < room) (hL : L.length ≤ 262144) :
    Calls Try.prog 42 #[.pointer (some ⟨sb, 0, none⟩)] w fun e w' => NextR B sb t L most room wrong v w e w' := by
  have H1 := Lib.hid (h.alloc (.cells #[.int .u8 0, .slice none 0 0] 67))
  have Hres := Lib.hid (Blk.new w 67 #[.int .u8 0, .slice none 0 0])
  have HT1 := Lib.hid ((Touch.refl (fun i => i = sb) w).alloc (.cells #[.int .u8 0, .slice none 0 0] 67))
  have hsl := h.blk.lt
  have Hrow := Lib.hid (fun k hk => (h.own.row k hk).2)
  clear h
  go_enter Try.func42, Try.ntmps42
  go_wp2_with fail
  have hz1 : (w.alloc (.cells #[.int .u8 0, .slice none 0 0] 67)).heap.size = w.heap.size + 1 := by simp
  generalize w.alloc (.cells #[.int .u8 0, .slice none 0 0] 67) = w1 at *
  refine (frPeek_any B sb t L most room wrong v w1 H1.out hr hL).mono ?_
  rintro e w2 ⟨hp, hf2, hT2⟩
  have hres2 := hT2.blk Hres.out (by omega)
  have HT2 := Lib.hid (HT1.out.trans hT2)
  have hz2 := hT2.size
  rcases hp with ⟨hn, rfl⟩ | ⟨ty, b, r, q, d, hn, rfl, hw0, hbl, rfl, rfl, hbs⟩
  · have Hn := Lib.hid hn
    have Hf2 := Lib.hid hf2
    have hrl := hres2.lt
    have hrc := hres2.cell
    have hrf0 := hres2.frozen 0
    have hrf1 := hres2.frozen 1
    generalize hwl : wrongL t most L wrong = wl at *
    have Hwl := Lib.hid hwl
    clear hn hf2 hT2 hres2 hz1 hwl
    go_wp2
    refine bodyPost_ret (v := .tuple #[.agg #[.int .u8 0, .slice none 0 0], .bool false, .int .i64 wl]) (by simp [results, Try.results42, go_sem, hrc, hrl]) rfl (.inl ⟨Hn.out, by rw [Hwl.out], ?_, ?_⟩)
    · rw [Hwl.out]
      have hT : Touch (fun i => i = w.heap.size) w2 ((w2.setCell ⟨w.heap.size, 0, none⟩ (.int .u8 0)).setCell ⟨w.heap.size, 1, none⟩ (.slice none 0 0)) := ((Touch.refl (fun i => i = w.heap.size) w2).setCell (x := ⟨w.heap.size, 0, none⟩) (fun _ => rfl) _).setCell (x := ⟨w.heap.size, 1, none⟩) (fun _ => rfl) _
      exact (Hf2.out.touch hT (by omega) (fun k hk e => by have := Hrow.out k hk; omega)).alloc _
    · have hT : Touch (fun i => i = w.heap.size) w2 ((w2.setCell ⟨w.heap.size, 0, none⟩ (.int .u8 0)).setCell ⟨w.heap.size, 1, none⟩ (.slice none 0 0)) := ((Touch.refl (fun i => i = w.heap.size) w2).setCell (x := ⟨w.heap.size, 0, none⟩) (fun _ => rfl) _).setCell (x := ⟨w.heap.size, 1, none⟩) (fun _ => rfl) _
      exact (HT2.out.then hT (fun i hi e => by omega)).alloc _
  · rw [hw0] at hf2
    have hh1 : headN t ≤ 1 := by cases t <;> simp [headN]
    have Hn := Lib.hid hn
    have HI := Lib.hid (show NxI w (w2.alloc (.cells #[.int .u8 (ty : Nat), .slice q b.length d] 67)) B sb t L most room v w2.heap.size ty b q d from
      ⟨hf2.alloc _, Blk.new _ _ _, hres2.alloc _, BytesS.still _ _ _ _ _ _ hbs (fun k hk hs => ⟨by omega, Below.heap_alloc w2 _ k hk⟩), HT2.out.alloc _, hsl, Hrow.out, by omega⟩)
    clear hn hf2 hT2 hres2 hbs hw0 HT1 HT2 Hres H1
    go_upto_region 3 with (fail)
    generalize w2.alloc (.cells #[.int .u8 (ty : Nat), .slice q b.length d] 67) = w3 at *
    generalize w2.heap.size = g at *
    obtain ⟨pv, cv, rfl, hpv1, hpv2, _⟩ := HI.out.fr.own.slice
    have hfc := HI.out.fr.blk.cell
    have hmc := HI.out.msg.cell
    unfold maxLen at hpv2
    have hws : IntKind.i64.wrap ((headN t : Int) + 4) = (headN t : Int) + 4 := by rw [IntKind.wrap_i64]; omega
    have hws2 : IntKind.i64.wrap ((headN t : Int) + 4 + (b.length : Int)) = (headN t : Int) + 4 + (b.length : Int) := by rw [IntKind.wrap_i64]; omega
    have Hsum := Lib.hid (show (headN t : Int) + 4 + (b.length : Int) = ((headN t + 4 + b.length : Nat) : Int) by omega)
    go_cut [] (fun wx => NxC w wx B sb t (L.drop (headN t + 4 + b.length)) most room (.slice pv L.length cv) g ty b q d)
    case first =>
      go_region_with (first
        | (go_at_call 92; refine (frHead_any t _).mono ?_; rintro e w4 ⟨rfl, hb4⟩; have HI4 := Lib.hid (HI.out.step (below_ofDr hb4)); have hfc4 := HI4.out.fr.blk.cell; have hmc4 := HI4.out.msg.cell; clear hb4)
        | (go_at_call 91; rw [Hsum.out]; refine (delete_any B _ L (headN t + 4 + b.length) _ HI4.out.fr.own (by omega) hbl).mono ?_; rintro e w5 ⟨v5, rfl, ho5, hr5, hT5⟩; obtain ⟨p5, n5, c5, rfl⟩ : ∃ p n c, v5 = .slice p n c := (by obtain ⟨p, c, h, _⟩ := ho5.slice; exact ⟨p, _, c, h⟩); have hfb5 := hT5.blk HI4.out.fr.blk HI4.out.fr.no; have hfc5 := hfb5.cell; have hff5 := hfb5.frozen 1; have HO5 := Lib.hid (nxC_end HI4.out ho5 hr5 hT5); clear ho5 hr5 hT5 hfb5))
      all_goals
        go_wp2_with fail
        go_meet
        exact HO5.out
    case rest =>
      obtain ⟨v', hf, hrw, hm, hres, hbs, hT⟩ := hcut
      have hmc5 := hm.cell
      have hrc := hres.cell
      have hrf0 := hres.frozen 0
      have hrf1 := hres.frozen 1
      have Hf := Lib.hid hf
      have Hrw := Lib.hid hrw
      have Hbs := Lib.hid hbs
      have HT := Lib.hid hT
      have hTs : ∀ a c, Touch (fun i => i = w.heap.size) wc ((wc.setCell ⟨w.heap.size, 0, none⟩ a).setCell ⟨w.heap.size, 1, none⟩ c) := fun a c => ((Touch.refl (fun i => i = w.heap.size) wc).setCell (x := ⟨w.heap.size, 0, none⟩) (fun _ => rfl) a).setCell (x := ⟨w.heap.size, 1, none⟩) (fun _ => rfl) c
      have HTs := Lib.hid hTs
      have hrl : (L.drop (headN t + 4 + b.length)).length < L.length := by rw [List.length_drop]; omega
      have Hrl := Lib.hid hrl
      have hwg : ¬ g = w.heap.size := by omega
      have hwg2 : ¬ w.heap.size = g := by omega
      clear hf hrw hbs hT hTs hm hres hrl hfc hmc
      go_wp2
      refine bodyPost_ret (v := .tuple #[.agg #[.int .u8 (ty : Nat), .slice q b.length d], .bool true, .int .i64 0]) (by simp [results, Try.results42, go_sem, hrc]) rfl (.inr ⟨ty, b, _, q, d, v', Hn.out, rfl, Hrl.out, by omega, rfl, ?_, ?_, Hrw.out, ?_⟩)
      · exact BytesS.still _ _ _ _ _ _ Hbs.out (Kept.touch (HTs.out _ _) (fun k _ hs => ⟨by omega, by omega⟩))
      · exact Hf.out.touch (HTs.out _ _) (by omega) (fun k hk e => by have := Hrow.out k (Hrw.out k hk); omega)
      · exact HT.out.then (HTs.out _ _) (fun i hi e => by omega)

end Go.Proofs.Ytpdkoijgemgaiaa
