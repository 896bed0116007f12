/-
  The contracts of remudaref36 (layer 36).
-/
import Derived.Test.YthdafefhcdlkbaaRingH
import Derived.Deep.Cut
namespace Go.Proofs.Ythdafefhcdlkbaa
open Go.RowKit

/-- A ring of the document, in memory. -/
structure RefR (B : Nat) (w : World) (xb : Nat) (v : Value) (L : List UInt8) (most : Nat) : Prop where
  blk : Blk w xb 42 #[v, .int .i64 (most : Nat)]
  own : OwnB B w v L
  ne : ∀ k, v.ownBlock = some k → k ≠ xb
  xB : B ≤ xb

theorem refNew_no (n : Int) (w : World) (h : n < 1 ∨ 1048576 < n) :
    Calls Try.prog 17 #[.int .i64 n] w fun e w' => e = .returned (.tuple #[.pointer none, .int .i64 1]) ∧ w = w' := by
  rcases h with h | h
  all_goals
    by_cases h2 : n < 1
    all_goals
      go_enter Try.func17, Try.ntmps17
      go_wp2
      go_ret2
      exact ⟨rfl, rfl⟩

theorem refNew_yes (n : Nat) (B : Nat) (w : World) (h1 : 1 ≤ n) (h2 : n ≤ 1048576) (hB : B ≤ w.heap.size) :
    Calls Try.prog 17 #[.int .i64 (n : Int)] w fun e w' => e = .returned (.tuple #[.pointer (some ⟨w.heap.size, 0, none⟩), .int .i64 0]) ∧ RefR B w' w.heap.size (.slice none 0 0) [] n ∧ Touch (fun _ => False) w w' := by
  go_enter Try.func17, Try.ntmps17
  go_wp2
  go_ret2
  exact ⟨rfl, ⟨Blk.new w _ _, OwnB.none _ _, by simp [Value.ownBlock], hB⟩, (Touch.refl _ _).alloc _⟩

theorem refTake_close {B xb : Nat} {w w2 : World} {x vo v2 : Value} {L1 L2 : List UInt8} {most : Nat} (hxB : B ≤ xb) (hxl : xb < w.heap.size) (hb : Blk w2 xb 42 #[x, .int .i64 (most : Nat)])
    (ho : OwnB B w2 vo L1) (h2 : OwnB B w2 v2 L2) (hn : ∀ k, vo.ownBlock = some k → w.heap.size ≤ k) (hn2 : ∀ k, v2.ownBlock = some k → w.heap.size ≤ k) (hT : Touch (fun _ => False) w w2) :
    OwnB B (w2.setCell ⟨xb, 0, none⟩ v2) vo L1 ∧ RefR B (w2.setCell ⟨xb, 0, none⟩ v2) xb v2 L2 most ∧ (∀ k, v2.ownBlock = some k → w.heap.size ≤ k) ∧ Touch (fun i => i = xb) w (w2.setCell ⟨xb, 0, none⟩ v2) := by
  have hs : Touch (fun i => i = xb) w2 (w2.setCell ⟨xb, 0, none⟩ v2) := (Touch.refl (fun i => i = xb) w2).setCell (x := ⟨xb, 0, none⟩) (fun _ => rfl) _
  refine ⟨ho.touch hs (fun k hk e => by have := hn k hk; omega), ⟨?_, h2.touch hs (fun k hk e => by have := hn2 k hk; omega), fun k hk e => by have := hn2 k hk; omega, hxB⟩, hn2, ?_⟩
  · have := hb.set_ 0 v2
    simpa using this
  · exact (hT.mono (q := fun i => i = xb) (fun _ _ e => e.elim)).trans hs

set_option maxHeartbeats 2000000 in
theorem refTake_any (B xb : Nat) (v : Value) (L : List UInt8) (most : Nat) (n : Int) (w : World) (h : RefR B w xb v L most) (hL : L.length ≤ 1048576) :
    Calls Try.prog 19 #[.pointer (some ⟨xb, 0, none⟩), .int .i64 n] w fun e w' =>
      ∃ k vo v', k = min n.toNat L.length ∧ e = .returned vo ∧ OwnB B w' vo (L.take k) ∧ RefR B w' xb v' (L.drop k) most ∧ (∀ k, v'.ownBlock = some k → w.heap.size ≤ k) ∧ Touch (fun i => i = xb) w w' := by
  obtain ⟨hb, hown, hne, hxB⟩ := h
  obtain ⟨k, hk⟩ : ∃ k, k = min n.toNat L.length := ⟨_, rfl⟩
  obtain ⟨mx, hmx⟩ : ∃ mx : Nat, (if n < 0 then 0 else n) = (mx : Int) := Int.eq_ofNat_of_zero_le (by split <;> omega)
  have hsz : (if (L.length : Int) < (mx : Int) then (L.length : Int) else (mx : Int)) = (k : Int) := by
    split at hmx <;> split <;> omega
  obtain ⟨p, c, rfl, h1, h2, hin⟩ := hown.slice
  have Hmx := Lib.hid hmx
  have Hsz := Lib.hid hsz
  have Hk := Lib.hid hk
  have hkl : k ≤ L.length := by omega
  have Htk := Lib.hid (show (L.take k).length = k by rw [List.length_take]; omega)
  have Hint := Lib.hid (hin.take k)
  have Hb := Lib.hid hb
  have hc := hb.cell
  have hxl := hb.lt
  unfold maxLen at h2
  have hBw : B ≤ w.heap.size := by omega
  rcases hown.2 with ⟨e, h0⟩ | ⟨g, cap, cur, e, hBg, hg, _⟩
  · simp only [Value.slice.injEq] at e
    obtain ⟨rfl, hl0, rfl⟩ := e
    have hL0 : L = [] := List.eq_nil_of_length_eq_zero h0
    subst hL0
    obtain rfl : k = 0 := by omega
    have Hdl := Lib.hid (show (([] : List UInt8).drop 0).length = 0 from rfl)
    have Hind := Lib.hid (show BytesIn w none (([] : List UInt8).drop 0) from BytesIn.nil _ _)
    have Hsz := Lib.hid (show (if (0 : Int) < (mx : Int) then (0 : Int) else (mx : Int)) = 0 by split <;> omega)
    clear hb hin hown hmx hsz hk hl0 h0
    go_enter Try.func19, Try.ntmps19
    go_upto_region 2 with (fail)
    simp only [Hmx.out, Hsz.out]
    go_wp2_with (at_builtin; first
      | (refine step_appendB' _ rfl (.const (.slice none 0 0)) (.tmp 19) rfl B (.slice none 0 0) [] rfl (OwnB.none _ _) none (([] : List UInt8).take 0) 0 0 Htk.out rfl Hint.out (by simp) (by omega) ?_; intro vo w1 ho1 hg1 hn1; have hT1 : Touch (fun _ => False) w w1 := (Touch.of_grown hg1).mono (fun k _ e => by simp [Value.ownBlock] at e); have Ho1 : Hid (OwnB B w1 vo (([] : List UInt8).take 0)) := Lib.hid ho1; have Hb1 := Lib.hid (hT1.blk Hb.out (fun e => e)); have hc1 := Hb1.out.cell; have Hind1 := Lib.hid (hT1.bytesIn Hind.out (fun _ _ _ e => e)); have Hn1 : Hid (∀ k, vo.ownBlock = some k → w.heap.size ≤ k) := Lib.hid (fun k hk => by rcases hn1 k hk with e | e; (· simp [Value.ownBlock] at e); (· exact e)); have HT1 := Lib.hid hT1; have hs1 := hT1.size; clear ho1 hg1 hn1 hT1 hc)
      | (refine step_appendB' _ rfl (.const (.slice none 0 0)) (.tmp 27) rfl B (.slice none 0 0) [] rfl (OwnB.none _ _) _ (([] : List UInt8).drop 0) _ _ Hdl.out rfl Hind1.out (by simp) (by omega) ?_; intro v2 w2 ho2 hg2 hn2; have hT2 : Touch (fun _ => False) w1 w2 := (Touch.of_grown hg2).mono (fun k _ e => by simp [Value.ownBlock] at e); have Ho2 : Hid (OwnB B w2 v2 (([] : List UInt8).drop 0)) := Lib.hid ho2; have Hb2 := Lib.hid (hT2.blk Hb1.out (fun e => e)); have hc2 := Hb2.out.cell; have hfz := Hb2.out.frozen 0; have Hn2 : Hid (∀ k, v2.ownBlock = some k → w.heap.size ≤ k) := Lib.hid (fun k hk => by rcases hn2 k hk with e | e; (· simp [Value.ownBlock] at e); (· omega)); have Ho12 := Lib.hid (Ho1.out.touch hT2 (fun _ _ e => e)); have HT2 := Lib.hid (HT1.out.trans hT2); clear ho2 hg2 hn2 hT2 hc1; obtain ⟨p2, n2, c2, rfl⟩ : ∃ p n c, v2 = .slice p n c := (by obtain ⟨p, c, h, _⟩ := Ho2.out.slice; exact ⟨p, _, c, h⟩)))
    go_ret
    exact ⟨0, vo, _, Hk.out, rfl, refTake_close hxB hxl Hb2.out Ho12.out Ho2.out Hn1.out Hn2.out HT2.out⟩
  · simp only [Value.slice.injEq] at e
    obtain ⟨rfl, -, rfl⟩ := e
    by_cases hck : k = c
    · subst hck
      have Hdl := Lib.hid (show (L.drop k).length = 0 by rw [List.length_drop]; omega)
      have Hind := Lib.hid (show BytesIn w (some ⟨g, 0, none⟩) (L.drop k) by rw [List.eq_nil_of_length_eq_zero Hdl.out]; exact BytesIn.nil _ _)
      have hkL : L.length = k := by omega
      clear hb hin hown hmx hsz hk hg hkL
      go_enter Try.func19, Try.ntmps19
      go_upto_region 2 with (fail)
      simp only [Hmx.out, Hsz.out]
      go_wp2_with (at_builtin; first
        | (refine step_appendB' _ rfl (.const (.slice none 0 0)) (.tmp 19) rfl B (.slice none 0 0) [] rfl (OwnB.none _ _) (some ⟨g, 0, none⟩) (L.take k) k k Htk.out rfl Hint.out (by rw [Htk.out]; simp; omega) (by omega) ?_; intro vo w1 ho1 hg1 hn1; have hT1 : Touch (fun _ => False) w w1 := (Touch.of_grown hg1).mono (fun k _ e => by simp [Value.ownBlock] at e); have Ho1 : Hid (OwnB B w1 vo (L.take k)) := Lib.hid ho1; have Hb1 := Lib.hid (hT1.blk Hb.out (fun e => e)); have hc1 := Hb1.out.cell; have Hind1 := Lib.hid (hT1.bytesIn Hind.out (fun _ _ _ e => e)); have Hn1 : Hid (∀ k, vo.ownBlock = some k → w.heap.size ≤ k) := Lib.hid (fun k hk => by rcases hn1 k hk with e | e; (· simp [Value.ownBlock] at e); (· exact e)); have HT1 := Lib.hid hT1; have hs1 := hT1.size; clear ho1 hg1 hn1 hT1 hc)
        | (refine step_appendB' _ rfl (.const (.slice none 0 0)) (.tmp 27) rfl B (.slice none 0 0) [] rfl (OwnB.none _ _) _ (L.drop k) _ _ Hdl.out rfl Hind1.out (by rw [List.length_drop]; simp; omega) (by omega) ?_; intro v2 w2 ho2 hg2 hn2; have hT2 : Touch (fun _ => False) w1 w2 := (Touch.of_grown hg2).mono (fun k _ e => by simp [Value.ownBlock] at e); have Ho2 : Hid (OwnB B w2 v2 (L.drop k)) := Lib.hid ho2; have Hb2 := Lib.hid (hT2.blk Hb1.out (fun e => e)); have hc2 := Hb2.out.cell; have hfz := Hb2.out.frozen 0; have Hn2 : Hid (∀ k, v2.ownBlock = some k → w.heap.size ≤ k) := Lib.hid (fun k hk => by rcases hn2 k hk with e | e; (· simp [Value.ownBlock] at e); (· omega)); have Ho12 := Lib.hid (Ho1.out.touch hT2 (fun _ _ e => e)); have HT2 := Lib.hid (HT1.out.trans hT2); clear ho2 hg2 hn2 hT2 hc1; obtain ⟨p2, n2, c2, rfl⟩ : ∃ p n c, v2 = .slice p n c := (by obtain ⟨p, c, h, _⟩ := Ho2.out.slice; exact ⟨p, _, c, h⟩)))
      go_ret
      exact ⟨k, vo, _, Hk.out, rfl, refTake_close hxB hxl Hb2.out Ho12.out Ho2.out Hn1.out Hn2.out HT2.out⟩
    · have Hdl := Lib.hid (show (L.drop k).length = L.length - k from List.length_drop)
      have hind := hin.drop k
      rw [Nat.zero_add] at hind
      have Hind := Lib.hid hind
      have hck2 : ¬ c = k := fun e => hck e.symm
      clear hb hin hown hmx hsz hk hg hind hck
      go_enter Try.func19, Try.ntmps19
      go_upto_region 2 with (fail)
      simp only [Hmx.out, Hsz.out]
      go_wp2_with (at_builtin; first
        | (refine step_appendB' _ rfl (.const (.slice none 0 0)) (.tmp 19) rfl B (.slice none 0 0) [] rfl (OwnB.none _ _) (some ⟨g, 0, none⟩) (L.take k) k c Htk.out rfl Hint.out (by rw [Htk.out]; simp; omega) (by omega) ?_; intro vo w1 ho1 hg1 hn1; have hT1 : Touch (fun _ => False) w w1 := (Touch.of_grown hg1).mono (fun k _ e => by simp [Value.ownBlock] at e); have Ho1 : Hid (OwnB B w1 vo (L.take k)) := Lib.hid ho1; have Hb1 := Lib.hid (hT1.blk Hb.out (fun e => e)); have hc1 := Hb1.out.cell; have Hind1 := Lib.hid (hT1.bytesIn Hind.out (fun _ _ _ e => e)); have Hn1 : Hid (∀ k, vo.ownBlock = some k → w.heap.size ≤ k) := Lib.hid (fun k hk => by rcases hn1 k hk with e | e; (· simp [Value.ownBlock] at e); (· exact e)); have HT1 := Lib.hid hT1; have hs1 := hT1.size; clear ho1 hg1 hn1 hT1 hc)
        | (refine step_appendB' _ rfl (.const (.slice none 0 0)) (.tmp 27) rfl B (.slice none 0 0) [] rfl (OwnB.none _ _) _ (L.drop k) _ _ Hdl.out rfl Hind1.out (by rw [List.length_drop]; simp; omega) (by omega) ?_; intro v2 w2 ho2 hg2 hn2; have hT2 : Touch (fun _ => False) w1 w2 := (Touch.of_grown hg2).mono (fun k _ e => by simp [Value.ownBlock] at e); have Ho2 : Hid (OwnB B w2 v2 (L.drop k)) := Lib.hid ho2; have Hb2 := Lib.hid (hT2.blk Hb1.out (fun e => e)); have hc2 := Hb2.out.cell; have hfz := Hb2.out.frozen 0; have Hn2 : Hid (∀ k, v2.ownBlock = some k → w.heap.size ≤ k) := Lib.hid (fun k hk => by rcases hn2 k hk with e | e; (· simp [Value.ownBlock] at e); (· omega)); have Ho12 := Lib.hid (Ho1.out.touch hT2 (fun _ _ e => e)); have HT2 := Lib.hid (HT1.out.trans hT2); clear ho2 hg2 hn2 hT2 hc1; obtain ⟨p2, n2, c2, rfl⟩ : ∃ p n c, v2 = .slice p n c := (by obtain ⟨p, c, h, _⟩ := Ho2.out.slice; exact ⟨p, _, c, h⟩)))
      go_ret
      exact ⟨k, vo, _, Hk.out, rfl, refTake_close hxB hxl Hb2.out Ho12.out Ho2.out Hn1.out Hn2.out HT2.out⟩

theorem refPut_full (B xb : Nat) (v : Value) (L : List UInt8) (most : Nat) (p : Option Addr) (b : List UInt8) (c : Nat) (w : World) (h : RefR B w xb v L most) (hm : most ≤ 1048576) (hf : most < L.length + b.length) (hc : b.length ≤ maxLen) (hL : L.length ≤ most) :
    Calls Try.prog 20 #[.pointer (some ⟨xb, 0, none⟩), .slice p b.length c] w fun e w' => e = .returned (.int .i64 6) ∧ Touch (fun _ => False) w w' := by
  obtain ⟨hb, hown, hne, hxB⟩ := h
  obtain ⟨p', c', rfl, h1, h2, hin⟩ := hown.slice
  have hcl := hb.cell
  unfold maxLen at hc
  clear hb hown hin hne h2
  go_enter Try.func20, Try.ntmps20
  go_wp2_with fail
  go_quiet (fail)
  go_wp2
  go_ret
  exact ⟨rfl, (Touch.refl _ _).drewN _⟩

set_option maxHeartbeats 2000000 in
theorem refPut_ok (B xb : Nat) (v : Value) (L : List UInt8) (most : Nat) (p : Option Addr) (b : List UInt8) (c : Nat) (w : World) (h : RefR B w xb v L most) (hm : most ≤ 1048576) (hf : L.length + b.length ≤ most) (hB : B ≤ w.heap.size) (hin : BytesIn w p b) :
    Calls Try.prog 20 #[.pointer (some ⟨xb, 0, none⟩), .slice p b.length c] w fun e w' => e = .returned (.int .i64 0) ∧ ∃ v', RefR B w' xb v' (L ++ b) most ∧ (∀ k, v'.ownBlock = some k → w.heap.size ≤ k) ∧ Touch (fun i => i = xb) w w' := by
  obtain ⟨hb, hown, hne, hxB⟩ := h
  obtain ⟨p', c', rfl, h1, h2, hinL⟩ := hown.slice
  have hcl := hb.cell
  have Hb := Lib.hid hb
  have HinL := Lib.hid hinL
  have Hin := Lib.hid hin
  have hxl := hb.lt
  clear hb hown hin hne h2 hinL
  go_enter Try.func20, Try.ntmps20
  go_wp2_with fail
  go_quiet (fail)
  rename_i nq
  have hcl0 : ∀ i, (w.drewN nq).cell? ⟨xb, i, none⟩ = (#[.slice p' L.length c', .int .i64 (most : Nat)] : Array Value)[i]? := hcl
  have Hb0 := Lib.hid (Hb.out.drewN nq)
  have HinL0 := Lib.hid (HinL.out.drewN nq)
  have Hin0 := Lib.hid (Hin.out.drewN nq)
  have Ht0 := Lib.hid ((Touch.refl (fun i => i = xb) w).drewN nq)
  have hs0 : (w.drewN nq).heap.size = w.heap.size := rfl
  generalize w.drewN nq = w0 at hcl0 Hb0 HinL0 Hin0 Ht0 hs0
  clear hcl Hb HinL Hin
  go_wp2_with (at_builtin; first
    | (refine step_appendB' _ rfl (.const (.slice none 0 0)) (.tmp 22) rfl B (.slice none 0 0) [] rfl (OwnB.none _ _) p' L L.length c' rfl rfl HinL0.out (by simp; omega) (by omega) ?_; intro v1 w1 ho1 hg1 hn1; have Ho1 : Hid (OwnB B w1 v1 L) := Lib.hid ho1; have hT1 : Touch (fun _ => False) w0 w1 := (Touch.of_grown hg1).mono (fun k _ e => by simp [Value.ownBlock] at e); have HT1 := Lib.hid hT1; have hs1 := hT1.size; have Hin1 := Lib.hid (hT1.bytesIn Hin0.out (fun _ _ _ e => e)); have Hn1 : Hid (∀ k, v1.ownBlock = some k → w.heap.size ≤ k) := Lib.hid (fun k hk => by rcases hn1 k hk with e | e; (· simp [Value.ownBlock] at e); (· omega)); clear ho1 hg1 hn1 hT1 hcl0)
    | (refine step_appendB' _ rfl (.tmp 23) (.tmp 24) rfl B v1 L rfl Ho1.out p b b.length c rfl rfl Hin1.out (by omega) (by omega) ?_; intro v2 w2 ho2 hg2 hn2; have Ho2 := Lib.hid ho2; have Ht2 := Lib.hid ((Ht0.out.then HT1.out (fun i _ e => e.elim)).then (Touch.of_grown hg2) (fun i hi e => by have := Hn1.out i e.symm; omega)); have Hn2 : Hid (∀ k, v2.ownBlock = some k → w.heap.size ≤ k) := Lib.hid (fun k hk => by rcases hn2 k hk with e | e; (· exact Hn1.out k e); (· omega)); have hb2 := ((HT1.out.blk Hb0.out (fun e => e)).grown hg2 (fun e => by have := Hn1.out xb e.symm; omega)); have hfz := hb2.frozen 0; have hcl2 := hb2.cell; have Hb2 := Lib.hid hb2; clear ho2 hg2 hn2 hb2; obtain ⟨p2, n2, c2, rfl⟩ : ∃ p n c, v2 = .slice p n c := (by obtain ⟨p, c, h, _⟩ := Ho2.out.slice; exact ⟨p, _, c, h⟩)))
  go_ret
  refine ⟨rfl, _, ⟨?_, ?_, ?_, hxB⟩, Hn2.out, Ht2.out.setCell (x := ⟨xb, 0, none⟩) (fun _ => rfl) _⟩
  · have := Hb2.out.set_ 0 (.slice p2 n2 c2)
    simpa using this
  · exact Ho2.out.touch ((Touch.refl (fun i => i = xb) w2).setCell (x := ⟨xb, 0, none⟩) (fun _ => rfl) _) (fun k hk e => by have := Hn2.out k hk; omega)
  · intro k hk
    have := Hn2.out k hk
    omega

end Go.Proofs.Ythdafefhcdlkbaa
