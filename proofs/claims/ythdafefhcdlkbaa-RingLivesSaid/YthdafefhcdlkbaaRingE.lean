/-
  The contract of ring.Take (layer 36).
-/
import Derived.Test.YthdafefhcdlkbaaRingD
namespace Go.Proofs.Ythdafefhcdlkbaa
open Go.RowKit

theorem take_nil (n : Int) (w : World) :
    Calls Try.prog 12 #[.pointer none, .int .i64 n] w fun e w' => e = .returned (.slice none 0 0) ∧ w = w' := by
  go_enter Try.func12, Try.ntmps12
  go_wp2
  go_ret
  exact ⟨rfl, rfl⟩

/-- Nothing is taken. -/
theorem take_none (rb : Nat) (m : Nat) (n : Int) (w : World) (h : w.cell? ⟨rb, 2, none⟩ = some (.int .i64 (m : Nat))) (hn : n ≤ 0 ∨ m = 0) :
    Calls Try.prog 12 #[.pointer (some ⟨rb, 0, none⟩), .int .i64 n] w fun e w' => e = .returned (.slice none 0 0) ∧ w = w' := by
  by_cases hn0 : n < 0
  · have hm1 : ¬ (m : Int) < 0 := by omega
    clear hn
    go_enter Try.func12, Try.ntmps12
    go_wp2
    go_ret
    exact ⟨rfl, rfl⟩
  · rcases Nat.eq_zero_or_pos m with h0 | h0
    · subst h0
      by_cases hn1 : 0 < n
      · clear hn
        go_enter Try.func12, Try.ntmps12
        go_wp2
        go_ret
        exact ⟨rfl, rfl⟩
      · obtain rfl : n = 0 := by omega
        clear hn
        go_enter Try.func12, Try.ntmps12
        go_wp2
        go_ret
        exact ⟨rfl, rfl⟩
    · obtain rfl : n = 0 := by omega
      have hm1 : ¬ (m : Int) < 0 := by omega
      clear hn
      go_enter Try.func12, Try.ntmps12
      go_wp2
      go_ret
      exact ⟨rfl, rfl⟩

theorem take_close {w3 : World} {rb g : Nat} {L : List UInt8} {most k : Nat} {bs : List UInt8} {a : Nat} {p : Option Addr}
    (hb : Blk w3 rb 25 #[.slice p bs.length bs.length, .int .i64 (a : Nat), .int .i64 (L.length : Nat), .int .i64 (most : Nat)])
    (h1 : 1 ≤ most) (h2 : most ≤ 1048576) (h3 : bs.length ≤ most) (hr : RingIs bs a L) (hgl : g < w3.heap.size) (hk : k ≤ L.length) (hk0 : 0 < k)
    (hp : p = some ⟨g, 0, none⟩) (hne : bs ≠ []) (hg : Blk w3 g 5 (cellsB bs)) (hgr : g ≠ rb) (A : Nat) (hA : A = (a + k) % bs.length) (B : Int) (hB : B = ((L.length - k : Nat) : Int)) :
    RingO ((w3.setCell ⟨rb, 1, none⟩ (.int .i64 (A : Nat))).setCell ⟨rb, 2, none⟩ (.int .i64 B)) rb g (L.drop k) most := by
  subst hp hA hB
  refine ⟨.slice (some ⟨g, 0, none⟩) bs.length bs.length, bs, (a + k) % bs.length, ?_, h1, h2, h3, hr.cut k hk hk0, ?_, .inr ⟨hne, rfl, ?_, hgr⟩⟩
  · have := (hb.set_ 1 (.int .i64 (((a + k) % bs.length : Nat) : Int))).set_ 2 (.int .i64 ((L.length - k : Nat) : Int))
    simpa using this
  · simpa [World.setCell] using hgl
  · exact (hg.far (p := ⟨rb, 1, none⟩) hgr _).far (p := ⟨rb, 2, none⟩) hgr _

set_option maxRecDepth 100000 in
set_option maxHeartbeats 4000000 in
/-- k bytes are taken. -/
theorem take_some (rb g : Nat) (L : List UInt8) (most : Nat) (n : Int) (k : Nat) (w : World) (h : RingO w rb g L most) (hk0 : 0 < k) (hk : k ≤ L.length) (hn : n = k ∨ (k = L.length ∧ (k : Int) < n)) :
    Calls Try.prog 12 #[.pointer (some ⟨rb, 0, none⟩), .int .i64 n] w fun e w' =>
      e = .returned (.slice (some ⟨w.heap.size, 0, none⟩) k k) ∧ Blk w' w.heap.size 5 (cellsB (L.take k)) ∧ RingO w' rb g (L.drop k) most ∧ Touch (fun i => i = rb) w w' := by
  have hH := h
  obtain ⟨v, bs, a, hb, h1, h2, h3, hr, hgl, h5⟩ := h
  rcases h5 with ⟨e1, _⟩ | ⟨hne, rfl, hg, hgr⟩
  · exfalso
    have := hr.1
    rw [e1] at this
    simp at this
    subst this
    simp at hk
    omega
  have hbl : 0 < bs.length := List.length_pos_iff.2 hne
  have ha : a < bs.length := by
    rcases hr.2.1 with ⟨e, _⟩ | h
    · exact absurd e hne
    · exact h
  have hL := hr.1
  have hmk := run_make_bytes k (by omega)
  have H := Lib.hid hH
  have Hb := Lib.hid hb
  have Hg := Lib.hid hg
  have Hr := Lib.hid hr
  have Hne := Lib.hid hne
  have Hk := Lib.hid hk
  have Hrl := Lib.hid hb.lt
  have hcl := hb.cell
  have hkz : ((k : Int) == 0) = false := by simp; omega
  have hkn : ¬ (k : Int) < 0 := by omega
  have hrem : ((a : Int) + (k : Int)) % (bs.length : Int) = (((a + k) % bs.length : Nat) : Int) := by rw [Int.natCast_emod]; rfl
  generalize hA : (a + k) % bs.length = A at hrem
  have HA := Lib.hid hA
  generalize hm : L.length = m at *
  have Hm := Lib.hid hm
  have hml : m ≤ bs.length := hL
  have Hrem := Lib.hid hrem
  clear hH hb hg hr hne hm hrem hA
  rcases hn with hn | ⟨hn1, hn⟩
  · subst hn
    have hmn : ¬ (m : Int) < (k : Int) := by omega
    go_enter Try.func12, Try.ntmps12
    go_wp2_with fail
    refine (copyTo_any rb g L most _ (H.out.touch ((Touch.refl (fun _ => False) _).alloc _) (by simp) (by simp)) w.heap.size k k (List.replicate k 0) (Blk.new _ _ _) (by rw [Hm.out]; exact Hk.out) (by simp) (Nat.le_refl _) (by have := Hrl.out; omega) (by omega)).mono ?_
    rintro e w2 ⟨rfl, hb2, ht2⟩
    have hbr : Blk w2 rb 25 #[.slice (some ⟨g, 0, none⟩) bs.length bs.length, .int .i64 (a : Nat), .int .i64 (m : Nat), .int .i64 (most : Nat)] := ht2.blk (Blk.alloc Hb.out _) (by have := Hrl.out; omega)
    have hc2 := hbr.cell
    have hf1 := hbr.frozen 1
    have hf2 := hbr.frozen 2
    have Hbr := Lib.hid hbr
    have Hb2 := Lib.hid hb2
    have Hg2 := Lib.hid (ht2.blk (Blk.alloc Hg.out _) (by omega))
    have Ht2 := Lib.hid (((Touch.refl (fun i => i = rb) w).alloc _).then ht2 (fun i hi e => absurd e (by omega)))
    have Hgl2 := Lib.hid (show g < w2.heap.size by have := Ht2.out.size; omega)
    have hs2 := Ht2.out.size
    clear hbr hb2 ht2 hcl
    go_wp2_with fail
    go_region
    simp only [Hrem.out]
    go_wp2
    go_ret
    refine ⟨rfl, ?_, ?_, ?_⟩
    · have := Hb2.out
      rw [List.drop_of_length_le (by simp), List.append_nil] at this
      exact (this.far (p := ⟨rb, 1, none⟩) (by have := Hrl.out; show w.heap.size ≠ rb; omega) _).far (p := ⟨rb, 2, none⟩) (by have := Hrl.out; show w.heap.size ≠ rb; omega) _
    · have hbr := Hbr.out
      rw [← Hm.out] at hbr
      exact take_close hbr h1 h2 h3 Hr.out Hgl2.out (by rw [Hm.out]; exact Hk.out) hk0 rfl Hne.out Hg2.out hgr A HA.out.symm _ (by have := Hm.out; have := Hk.out; omega)
    · exact ((Ht2.out.setCell (x := ⟨rb, 1, none⟩) (fun _ => rfl) _).drew).setCell (x := ⟨rb, 2, none⟩) (fun _ => rfl) _
  · subst hn1
    have hn0 : ¬ n < 0 := by omega
    go_enter Try.func12, Try.ntmps12
    go_wp2_with fail
    refine (copyTo_any rb g L most _ (H.out.touch ((Touch.refl (fun _ => False) _).alloc _) (by simp) (by simp)) w.heap.size k k (List.replicate k 0) (Blk.new _ _ _) (by rw [Hm.out]; exact Hk.out) (by simp) (Nat.le_refl _) (by have := Hrl.out; omega) (by omega)).mono ?_
    rintro e w2 ⟨rfl, hb2, ht2⟩
    have hbr : Blk w2 rb 25 #[.slice (some ⟨g, 0, none⟩) bs.length bs.length, .int .i64 (a : Nat), .int .i64 (k : Nat), .int .i64 (most : Nat)] := ht2.blk (Blk.alloc Hb.out _) (by have := Hrl.out; omega)
    have hc2 := hbr.cell
    have hf1 := hbr.frozen 1
    have hf2 := hbr.frozen 2
    have Hbr := Lib.hid hbr
    have Hb2 := Lib.hid hb2
    have Hg2 := Lib.hid (ht2.blk (Blk.alloc Hg.out _) (by omega))
    have Ht2 := Lib.hid (((Touch.refl (fun i => i = rb) w).alloc _).then ht2 (fun i hi e => absurd e (by omega)))
    have Hgl2 := Lib.hid (show g < w2.heap.size by have := Ht2.out.size; omega)
    have hs2 := Ht2.out.size
    clear hbr hb2 ht2 hcl
    go_wp2_with fail
    go_region
    simp only [Hrem.out]
    go_wp2
    go_ret
    refine ⟨rfl, ?_, ?_, ?_⟩
    · have := Hb2.out
      rw [List.drop_of_length_le (by simp), List.append_nil] at this
      exact (this.far (p := ⟨rb, 1, none⟩) (by have := Hrl.out; show w.heap.size ≠ rb; omega) _).far (p := ⟨rb, 2, none⟩) (by have := Hrl.out; show w.heap.size ≠ rb; omega) _
    · have hbr := Hbr.out
      rw [← Hm.out] at hbr
      exact take_close hbr h1 h2 h3 Hr.out Hgl2.out (by rw [Hm.out]; exact Hk.out) hk0 rfl Hne.out Hg2.out hgr A HA.out.symm _ (by have := Hm.out; have := Hk.out; omega)
    · exact ((Ht2.out.setCell (x := ⟨rb, 1, none⟩) (fun _ => rfl) _).drew).setCell (x := ⟨rb, 2, none⟩) (fun _ => rfl) _
end Go.Proofs.Ythdafefhcdlkbaa
