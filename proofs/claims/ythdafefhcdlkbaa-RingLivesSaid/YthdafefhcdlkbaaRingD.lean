/-
  The contract of ring.Put (layer 36).
-/
import Derived.Test.YthdafefhcdlkbaaRingC
namespace Go.Proofs.Ythdafefhcdlkbaa
open Go.RowKit

theorem put_nil (p : Option Addr) (n c : Nat) (w : World) :
    Calls Try.prog 11 #[.pointer none, .slice p n c] w fun e w' => e = .returned (.int .i64 2) ∧ w = w' := by
  go_enter Try.func11, Try.ntmps11
  go_wp2
  go_ret
  exact ⟨rfl, rfl⟩

theorem put_zero (rb : Nat) (p : Option Addr) (n c : Nat) (w : World) (h : w.cell? ⟨rb, 3, none⟩ = some (.int .i64 0)) :
    Calls Try.prog 11 #[.pointer (some ⟨rb, 0, none⟩), .slice p n c] w fun e w' => e = .returned (.int .i64 2) ∧ w = w' := by
  go_enter Try.func11, Try.ntmps11
  go_wp2
  go_ret
  exact ⟨rfl, rfl⟩

theorem put_full (rb g : Nat) (L : List UInt8) (most : Nat) (p : Option Addr) (b : List UInt8) (c : Nat) (w : World) (h : RingO w rb g L most) (hf : most < L.length + b.length) (hc : b.length ≤ maxLen) :
    Calls Try.prog 11 #[.pointer (some ⟨rb, 0, none⟩), .slice p b.length c] w fun e w' => e = .returned (.int .i64 6) ∧ Touch (fun _ => False) w w' := by
  obtain ⟨v, bs, a, hb, h1, h2, h3, h4, _⟩ := h
  have hcl := hb.cell
  have hL := h4.1
  have hm0 : ((most : Int) == 0) = false := by simp; omega
  unfold maxLen at hc
  clear hb h4
  go_enter Try.func11, Try.ntmps11
  go_wp2_with fail
  go_quiet (fail)
  go_wp2
  go_ret
  exact ⟨rfl, (Touch.refl _ _).drewN _⟩

theorem put_close {w w5 : World} {rb g' : Nat} {L b X bs2 : List UInt8} {a2 most : Nat} (hb : Blk w rb 25 #[.slice (some ⟨g', 0, none⟩) bs2.length bs2.length, .int .i64 (a2 : Nat), .int .i64 (L.length : Nat), .int .i64 (most : Nat)])
    (ht : Touch (fun i => i = g') w w5) (hg : Blk w5 g' 5 (cellsB X)) (hrg : rb ≠ g') (hr : RingIs X a2 (L ++ b)) (h1 : 1 ≤ most) (h2 : most ≤ 1048576) (h3 : bs2.length ≤ most) (hl : X.length = bs2.length) (h0 : 0 < bs2.length) :
    RingO (w5.setCell ⟨rb, 2, none⟩ (.int .i64 ((L.length : Int) + (b.length : Int)))) rb g' (L ++ b) most := by
  refine ⟨.slice (some ⟨g', 0, none⟩) bs2.length bs2.length, X, a2, ?_, h1, h2, by omega, hr, ?_, .inr ⟨?_, by rw [hl], ?_, fun e => hrg e.symm⟩⟩
  · have := (ht.blk hb hrg).set_ 2 (.int .i64 ((L.length : Int) + (b.length : Int)))
    simpa using this
  · have := hg.lt
    simpa [World.setCell] using this
  · rintro rfl
    simp at hl
    omega
  · exact hg.far (p := ⟨rb, 2, none⟩) (fun e => hrg e.symm) _

set_option maxRecDepth 100000 in
set_option maxHeartbeats 4000000 in
theorem put_ok (rb g : Nat) (L : List UInt8) (most : Nat) (p : Option Addr) (b : List UInt8) (c : Nat) (w : World) (h : RingO w rb g L most) (hf : L.length + b.length ≤ most) (hbc : b.length ≤ c) (hc : c ≤ maxLen)
    (hin : BytesIn w p b) (hsep : b ≠ [] → ∀ x, p = some x → x.block ≠ rb ∧ x.block ≠ g) :
    Calls Try.prog 11 #[.pointer (some ⟨rb, 0, none⟩), .slice p b.length c] w fun e w' => e = .returned (.int .i64 0) ∧
      ∃ g', RingO w' rb g' (L ++ b) most ∧ (g' = g ∨ w.heap.size ≤ g') ∧ Touch (fun i => i = rb ∨ i = g) w w' := by
  have hH := h
  obtain ⟨v, bs, a, hb, h1, h2, h3, h4, _⟩ := h
  have hcl := hb.cell
  have hL := h4.1
  have hm0 : ((most : Int) == 0) = false := by simp; omega
  unfold maxLen at hc
  have H := Lib.hid hH
  have Hin := Lib.hid hin
  have Hsep := Lib.hid hsep
  by_cases hb0 : b = []
  · subst hb0
    clear hb h4 hH hin hsep
    go_enter Try.func11, Try.ntmps11
    go_wp2_with fail
    go_quiet (fail)
    go_wp2
    go_ret
    refine ⟨rfl, g, ?_, .inl rfl, (Touch.refl _ _).drewN _⟩
    rw [List.append_nil]
    exact H.out.drewN _
  · have hbl : 0 < b.length := List.length_pos_iff.2 hb0
    have hbz : ((b.length : Int) == 0) = false := by simp; omega
    obtain ⟨pb, po, rfl⟩ := hin.addr hbl
    have Hb0 := Lib.hid hb0
    have hrl := hb.lt
    have hsep1 := hsep hb0 _ rfl
    dsimp only at hsep1
    have hpl : pb < w.heap.size := by
      obtain ⟨b', o', e', hc'⟩ := hin 0 hbl
      cases e'
      exact World.block_lt_of_cell? w _ hc'
    have hgl := hH.ltg
    clear hb h4 hH hin hsep hb0
    go_enter Try.func11, Try.ntmps11
    go_wp2_with fail
    go_quiet (fail)
    rename_i nq
    have hc1 : ∀ i, (w.drewN nq).cell? ⟨rb, i, none⟩ = (#[v, .int .i64 (a : Nat), .int .i64 (L.length : Nat), .int .i64 (most : Nat)] : Array Value)[i]? := hcl
    have H1 := Lib.hid (H.out.drewN nq)
    have Hin1 := Lib.hid (Hin.out.drewN nq)
    have Ht1 := Lib.hid ((Touch.refl (fun i => i = rb ∨ i = g) w).drewN nq)
    have Hsw := Lib.hid (show (w.drewN nq).heap.size = w.heap.size from rfl)
    generalize w.drewN nq = w1 at hc1 H1 Hin1 Ht1 Hsw
    clear hcl
    go_wp2_with fail
    have hk : (L.length : Int) + (b.length : Int) = ((L.length + b.length : Nat) : Int) := by omega
    rw [hk]
    clear hk
    refine (grow_any rb g L most w1 H1.out (L.length + b.length) (by omega) hf (by omega)).mono ?_
    rintro e w2 ⟨rfl, g', v2, bs2, a2, hB2, hlen2, hg2, ht2⟩
    obtain ⟨hb2, _, _, hn2, hr2, hgl2, h52⟩ := hB2
    rcases h52 with ⟨e1, _⟩ | ⟨e1, e2, e3, e4⟩
    · exfalso; rw [e1] at hlen2; simp only [List.length_nil] at hlen2; omega
    subst e2
    have ha2 : a2 < bs2.length := by
      rcases hr2.2.1 with ⟨e, _⟩ | h
      · exact absurd e e1
      · exact h
    have hin2 : BytesIn w2 (some ⟨pb, po, none⟩) b := ht2.bytesIn Hin1.out (fun hne x hx => (Hsep.out hne x hx).1)
    have hL2 := hr2.1
    have He4 := Lib.hid e4
    have hc2 := hb2.cell
    have Hb2 := Lib.hid hb2
    have Hr2 := Lib.hid hr2
    have Hg2 := Lib.hid e3
    have Hin2 := Lib.hid hin2
    have Ht2 := Lib.hid ht2
    have He1 := Lib.hid e1
    have Hgg := Lib.hid hg2
    have hput := hr2.put hlen2 hbl
    generalize hE : (a2 + L.length) % bs2.length = E at hput
    have hEl : E < bs2.length := by rw [← hE]; exact Nat.mod_lt _ (by omega)
    have hEi : ((a2 : Int) + (L.length : Int)) % (bs2.length : Int) = (E : Int) := by rw [← hE, Int.natCast_emod]; rfl
    have HEi := Lib.hid hEi
    have Hput := Lib.hid hput
    clear hb2 hr2 e3 e4 hin2 ht2 hg2 e1 hput hE hEi hc1
    go_wp2_with fail
    go_quiet (fail)
    simp only [HEi.out]
    have hc3 : ∀ i, (w2.drewN nq).cell? ⟨rb, i, none⟩ = (#[.slice (some ⟨g', 0, none⟩) bs2.length bs2.length, .int .i64 (a2 : Nat), .int .i64 (L.length : Nat), .int .i64 (most : Nat)] : Array Value)[i]? := hc2
    have Hb3 := Lib.hid (Hb2.out.drewN nq)
    have Hg3 := Lib.hid (Hg2.out.drewN nq)
    have Hin3 := Lib.hid (Hin2.out.drewN nq)
    have Ht3 := Lib.hid (Ht2.out.drewN nq)
    have hgl3 : g' < (w2.drewN nq).heap.size := hgl2
    generalize w2.drewN nq = w3 at hc3 Hb3 Hg3 Hin3 Ht3 hgl3
    clear hc2 hgl2 Hb2 Hg2 Hin2 Ht2
    have hneE : ¬ bs2.length = E := by omega
    have hleE : E ≤ bs2.length := by omega
    obtain ⟨k1, hk1⟩ : ∃ k1, k1 = min b.length (bs2.length - E) := ⟨_, rfl⟩
    have hcs1 : b.take (bs2.length - E) = b.take k1 := by rw [hk1]; exact (List.take_eq_take_iff.2 (by omega))
    have hcl1 : (b.take k1).length = k1 := by rw [List.length_take]; omega
    have hfit1 : E + k1 ≤ bs2.length := by omega
    have hk1b : k1 ≤ b.length := by omega
    have hput2 := Hput.out
    rw [← hk1] at hput2
    have Hput2 := Lib.hid hput2
    generalize hx1 : b.take k1 = cs1 at hcs1 hcl1
    have Hx1 := Lib.hid hx1
    have Hcs1 := Lib.hid hcs1
    have Hcl1 := Lib.hid hcl1
    clear hk1 hcs1 hcl1 hput2 Hput hx1
    go_wp2_with (with_reducible refine wpList_copyB rfl (.tmp 63) (.tmp 64) rfl (some ⟨g', E, none⟩) (some ⟨pb, po, none⟩) (bs2.length - E) (bs2.length - E) b.length c b cs1 k1 rfl Hcs1.out Hcl1.out rfl rfl g' E bs2 Hg3.out Hin3.out (fun _ => rfl) hfit1 ?_; intro w4 hg4 ht4)
    have hrg : rb ≠ g' := by
      intro e
      exact He4.out e.symm
    have hrl3 := Hb3.out.lt
    have hc4 : ∀ i, w4.cell? ⟨rb, i, none⟩ = (#[.slice (some ⟨g', 0, none⟩) bs2.length bs2.length, .int .i64 (a2 : Nat), .int .i64 (L.length : Nat), .int .i64 (most : Nat)] : Array Value)[i]? := fun i => (ht4.cell (x := ⟨rb, i, none⟩) hrl3 hrg).trans (hc3 i)
    have hrl4 : rb < w4.drew.heap.size := by have := ht4.size; show rb < w4.heap.size; omega
    have Hb4 := Lib.hid (ht4.blk Hb3.out hrg)
    have hpg : pb ≠ g' := by
      have h1 := Hgg.out
      have h2 := Hsw.out
      omega
    have Hin4' := Lib.hid ((ht4.bytesIn Hin3.out (fun _ x hx => by cases hx; exact hpg)).drop k1)
    have Hin4 := Hin4'
    have hgp : ∀ i, i < w.heap.size → i = g' → i = rb ∨ i = g := by
      intro i hi e
      have h1 := Hgg.out
      have h2 := Hsw.out
      omega
    have Hgp := Lib.hid hgp
    have Hgp2 := Lib.hid (show g' = g ∨ w.heap.size ≤ g' by have h1 := Hgg.out; have h2 := Hsw.out; omega)
    have Ht03 := Lib.hid (Ht1.out.then Ht3.out (fun i _ e => .inl e))
    have Ht04 := Lib.hid (Ht03.out.then ht4 hgp)
    have Hg4 := hg4
    have hlsp : (splice bs2 E cs1).length = bs2.length := length_splice bs2 E cs1 (by rw [Hcl1.out]; exact hfit1)
    have hdl : (b.drop k1).length = b.length - k1 := List.length_drop
    have hdt : (b.drop k1).take bs2.length = b.drop k1 := List.take_of_length_le (by rw [hdl]; omega)
    have hfit2 : 0 + (b.drop k1).length ≤ (splice bs2 E cs1).length := by rw [hlsp, hdl]; omega
    have hput3 := Hput2.out
    rw [Hx1.out] at hput3
    have Hput3 := Lib.hid hput3
    have Hput3l := Lib.hid (show (splice (splice bs2 E cs1) 0 (b.drop k1)).length = bs2.length by rw [length_splice _ _ _ hfit2, hlsp])
    have hpos2 : 0 < bs2.length := by omega
    have Hlsp := Lib.hid hlsp
    have Hdl := Lib.hid hdl
    have Hdt := Lib.hid hdt
    clear hput3 hlsp hdl hdt ht4 hg4 hgp hc3 Hin4'
    by_cases hck : c = k1
    · have hd0 : (b.drop k1).length = 0 := by rw [Hdl.out]; omega
      have Hd0 := Lib.hid hd0
      have Hin4 := Lib.hid (show BytesIn w4 (some ⟨pb, po, none⟩) (b.drop k1) by rw [List.eq_nil_of_length_eq_zero hd0]; exact BytesIn.nil _ _)
      clear hd0
      subst hck
      go_region_held3 (fun w' => ∀ i, w'.cell? ⟨rb, i, none⟩ = (#[.slice (some ⟨g', 0, none⟩) bs2.length bs2.length, .int .i64 (a2 : Nat), .int .i64 (L.length : Nat), .int .i64 (most : Nat)] : Array Value)[i]?)
        (first | exact hc4 | exact hc5 | go_keep)
        ((refine step_copyB rfl (.tmp 69) (.tmp 72) rfl (some ⟨g', 0, none⟩) (some ⟨pb, po, none⟩) bs2.length bs2.length 0 0 (b.drop c) (b.drop c) (b.drop c).length Hd0.out Hdt.out rfl rfl rfl g' 0 (splice bs2 E cs1) Hg4.out.drew (Hin4.out.drewN 1) (fun _ => rfl) hfit2 ?_; intro w5 hg5 ht5; have hc5 : ∀ i, w5.cell? ⟨rb, i, none⟩ = (#[.slice (some ⟨g', 0, none⟩) bs2.length bs2.length, .int .i64 (a2 : Nat), .int .i64 (L.length : Nat), .int .i64 (most : Nat)] : Array Value)[i]? := (fun i => (ht5.cell (x := ⟨rb, i, none⟩) hrl4 hrg).trans (hc4 i))))
      have Hfin := Lib.hid (put_close (Hb4.out.drew) ht5 hg5.out hrg Hput3.out h1 h2 hn2 (Hput3l.out) hpos2)
      have Ht45 := Lib.hid (Ht04.out.then (((Touch.refl (fun i => i = g') w4).drew).trans ht5) Hgp.out)
      have hf2 : w5.frozen? ⟨rb, 2, none⟩ = false := (ht5.blk Hb4.out.drew hrg).frozen 2
      clear ht5 hg5
      go_wp2
      go_ret
      exact ⟨rfl, g', Hfin.out, Hgp2.out, Ht45.out.setCell (x := ⟨rb, 2, none⟩) (fun _ => .inl rfl) _⟩
    · go_region_held3 (fun w' => ∀ i, w'.cell? ⟨rb, i, none⟩ = (#[.slice (some ⟨g', 0, none⟩) bs2.length bs2.length, .int .i64 (a2 : Nat), .int .i64 (L.length : Nat), .int .i64 (most : Nat)] : Array Value)[i]?)
        (first | exact hc4 | exact hc5 | go_keep)
        ((refine step_copyB rfl (.tmp 69) (.tmp 72) rfl (some ⟨g', 0, none⟩) (some ⟨pb, po + k1, none⟩) bs2.length bs2.length (b.length - k1) (c - k1) (b.drop k1) (b.drop k1) (b.drop k1).length Hdl.out Hdt.out rfl rfl rfl g' 0 (splice bs2 E cs1) Hg4.out.drew (Hin4.out.drewN 1) (fun _ => rfl) hfit2 ?_; intro w5 hg5 ht5; have hc5 : ∀ i, w5.cell? ⟨rb, i, none⟩ = (#[.slice (some ⟨g', 0, none⟩) bs2.length bs2.length, .int .i64 (a2 : Nat), .int .i64 (L.length : Nat), .int .i64 (most : Nat)] : Array Value)[i]? := (fun i => (ht5.cell (x := ⟨rb, i, none⟩) hrl4 hrg).trans (hc4 i))))
      have Hfin := Lib.hid (put_close (Hb4.out.drew) ht5 hg5.out hrg Hput3.out h1 h2 hn2 (Hput3l.out) hpos2)
      have Ht45 := Lib.hid (Ht04.out.then (((Touch.refl (fun i => i = g') w4).drew).trans ht5) Hgp.out)
      have hf2 : w5.frozen? ⟨rb, 2, none⟩ = false := (ht5.blk Hb4.out.drew hrg).frozen 2
      clear ht5 hg5
      go_wp2
      go_ret
      exact ⟨rfl, g', Hfin.out, Hgp2.out, Ht45.out.setCell (x := ⟨rb, 2, none⟩) (fun _ => .inl rfl) _⟩

end Go.Proofs.Ythdafefhcdlkbaa
