/-
  The contracts of package ring (layer 36): grow, Put, Take.
-/
import Derived.Test.YthdafefhcdlkbaaRingB
namespace Go.Proofs.Ythdafefhcdlkbaa
open Go.RowKit

set_option maxHeartbeats 2000000 in
theorem grow_any (rb g : Nat) (L : List UInt8) (most : Nat) (w : World) (h : RingO w rb g L most) (k : Nat) (hk : L.length ≤ k) (hkm : k ≤ most) (hk0 : 1 ≤ k) :
    Calls Try.prog 44 #[.pointer (some ⟨rb, 0, none⟩), .int .i64 (k : Int)] w fun e w' =>
      e = .returned (.tuple #[]) ∧ ∃ g' v bs a, RingB w' rb g' L most v bs a ∧ k ≤ bs.length ∧ (g' = g ∨ w.heap.size ≤ g') ∧ Touch (fun i => i = rb) w w' := by
  obtain ⟨v, bs, a, hB⟩ := h
  have hB0 := hB
  obtain ⟨hb, h1, h2, h3, h4, hgl, h5⟩ := hB
  have hc := hb.cell
  have hL := h4.1
  by_cases hle : k ≤ bs.length
  · have H0 := Lib.hid hB0
    have hv : ∃ p, v = .slice p bs.length bs.length := by
      rcases h5 with ⟨e1, e2⟩ | ⟨_, e2, _⟩
      · exact ⟨none, by rw [e2, e1]; rfl⟩
      · exact ⟨_, e2⟩
    obtain ⟨p, rfl⟩ := hv
    clear hB0 hb h4 h5
    go_enter Try.func44, Try.ntmps44
    go_wp2
    refine bodyPost_ret (results_none rfl _ _ _) rfl ?_
    exact ⟨rfl, g, _, bs, a, H0.out, hle, .inl rfl, Touch.refl _ _⟩
  · have H0 := Lib.hid hB0
    have hv : ∃ p, v = .slice p bs.length bs.length := by
      rcases h5 with ⟨e1, e2⟩ | ⟨_, e2, _⟩
      · exact ⟨none, by rw [e2, e1]; rfl⟩
      · exact ⟨_, e2⟩
    obtain ⟨p, rfl⟩ := hv
    obtain ⟨mx, hmx⟩ : ∃ mx : Nat, (if 2 * (bs.length : Int) < (k : Int) then (k : Int) else 2 * (bs.length : Int)) = (mx : Int) := Int.eq_ofNat_of_zero_le (by split <;> omega)
    obtain ⟨sz, hsz0⟩ : ∃ sz : Nat, (if (most : Int) < (mx : Int) then (most : Int) else (mx : Int)) = (sz : Int) := Int.eq_ofNat_of_zero_le (by split <;> omega)
    have hmx1 : k ≤ mx := by split at hmx <;> omega
    have hsz1 : k ≤ sz := by split at hsz0 <;> omega
    have hsz2 : sz ≤ most := by split at hsz0 <;> omega
    have Hmx := Lib.hid hmx
    have Hsz0 := Lib.hid hsz0
    have hmk := run_make_bytes sz (by omega)
    have hrl := hb.lt
    have Hb := Lib.hid hb
    clear hB0 hb h4 h5 hmx hsz0 hmx1
    go_enter Try.func44, Try.ntmps44
    go_wp2_with fail
    go_quiet (fail)
    simp only [Hmx.out, Hsz0.out]
    rename_i nq
    have hc1 : ∀ i, (w.drewN nq).cell? ⟨rb, i, none⟩ = (#[.slice p bs.length bs.length, .int .i64 (a : Nat), .int .i64 (L.length : Nat), .int .i64 (most : Nat)] : Array Value)[i]? := hc
    have hrl1 : rb < (w.drewN nq).heap.size := hrl
    have hsw : (w.drewN nq).heap.size = w.heap.size := rfl
    have h01 : RingO (w.drewN nq) rb g L most := ⟨_, bs, a, H0.out⟩
    have Hbw1 : Hid (Blk (w.drewN nq) rb 25 #[.slice p bs.length bs.length, .int .i64 (a : Nat), .int .i64 (L.length : Nat), .int .i64 (most : Nat)]) := Hb.out.drewN nq
    have Ht1 := Lib.hid ((Touch.refl (fun i => i = rb) w).drewN nq)
    generalize w.drewN nq = w1 at hc1 hrl1 hsw h01 Ht1 Hbw1
    have H01 := Lib.hid h01
    have Hsw := Lib.hid hsw
    have hL2 : L.length ≤ sz := by omega
    clear hc h01 hsw
    go_wp2_with fail
    refine (copyTo_any rb g L most _ (H01.out.touch ((Touch.refl (fun _ => False) _).alloc _) (by simp) (by simp)) w1.heap.size sz L.length (List.replicate sz 0) (Blk.new _ _ _) (Nat.le_refl _) (by simpa using hL2) hL2 (by omega) ?_).mono ?_
    · have := H01.out.ltg
      omega
    · rintro e w2 ⟨rfl, hb2, ht2⟩
      have hbr : Blk w2 rb 25 #[.slice p bs.length bs.length, .int .i64 (a : Nat), .int .i64 (L.length : Nat), .int .i64 (most : Nat)] := ht2.blk (Blk.alloc (show Blk w1 rb _ _ from Hbw1.out) _) (by simpa using (show rb ≠ w1.heap.size by omega))
      have hc2 := hbr.cell
      have hf0 := hbr.frozen 0
      have hf1 := hbr.frozen 1
      have Hbr := Lib.hid hbr
      have Hb2 := Lib.hid hb2
      have Ht2 := Lib.hid ht2
      clear hbr hb2 ht2 hc1
      go_wp2
      go_end0
      have hlen : (L ++ List.replicate (sz - L.length) (0 : UInt8)).length = sz := by rw [List.length_append, List.length_replicate]; omega
      have hs2 := Ht2.out.size
      simp only [World.size_alloc] at hs2
      refine ⟨rfl, w1.heap.size, .slice (some ⟨w1.heap.size, 0, none⟩) sz sz, L ++ List.replicate (sz - L.length) 0, 0, ⟨?_, h1, h2, by rw [hlen]; exact hsz2, RingIs.grown L _ (by rw [List.length_replicate]; omega), ?_, .inr ⟨?_, by rw [hlen], ?_, by omega⟩⟩, by rw [hlen]; exact hsz1, .inr (by rw [Hsw.out]; exact Nat.le_refl _), ?_⟩
      · have := (Hbr.out.set_ 0 (.slice (some ⟨w1.heap.size, 0, none⟩) sz sz)).set_ 1 (.int .i64 0)
        simpa using this
      · simp [World.setCell]; omega
      · intro e
        rw [e] at hlen
        simp at hlen
        omega
      · have hb := Hb2.out
        rw [List.take_length, List.drop_replicate] at hb
        exact (hb.far (p := ⟨rb, 0, none⟩) (by show w1.heap.size ≠ rb; omega) _).far (p := ⟨rb, 1, none⟩) (by show w1.heap.size ≠ rb; omega) _
      · refine ((Ht1.out.then ((((Touch.refl (fun _ => False) w1).alloc _).then (Ht2.out.mono (q := fun i => i = w1.heap.size) (fun _ _ h => h)) (fun i hi he => by omega))) (fun i hi he => by cases he)).setCell (x := ⟨rb, 0, none⟩) (fun _ => rfl) _).setCell (x := ⟨rb, 1, none⟩) (fun _ => rfl) _

end Go.Proofs.Ythdafefhcdlkbaa
