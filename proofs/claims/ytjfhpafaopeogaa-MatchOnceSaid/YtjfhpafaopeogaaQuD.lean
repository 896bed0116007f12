/-
  Queue's Head, cut and Pop (layer 21).
-/
import Derived.Test.YtjfhpafaopeogaaQuC
namespace Go.Proofs.Ytjfhpafaopeogaa
open Go.RowKit
set_option linter.unusedVariables false
set_option linter.unusedSimpArgs false

theorem SliceS.dropAny {α : Type} {n : Nat} {R : Rd α} {S : Nat → Prop} {w : World} {p : Option Addr} {m c : Nat} {xs : List α} (h0 : 0 < n) (h : SliceS n R S w [.slice p m c] xs) (k : Nat) (hk : k ≤ xs.length) : SliceS n R S w [.slice (Option.map (fun x => x.add (k * n)) p) (xs.length - k) (c - k)] (xs.drop k) := by
  by_cases hx : k < xs.length
  · obtain ⟨b, o, cs, rfl, _⟩ := h.elem h0 k xs[k] (List.getElem?_eq_getElem hx)
    have := h.drop' k hk
    simpa [Addr.add_lit] using this
  · have hk' : k = xs.length := by omega
    have hd : xs.drop k = [] := by rw [hk']; exact List.drop_length
    rw [hd, show xs.length - k = 0 from by omega]
    exact SliceS.empty _ _ (by have := h.len.2.2; omega)

theorem size_set (w : World) (a : Addr) (u : Value) : (w.setCell a u).heap.size = w.heap.size := by simp [World.setCell]

set_option maxRecDepth 100000 in
set_option maxHeartbeats 4000000 in
theorem qCut_any (B sb : Nat) (E : Nat → Prop) (L : List EnV) (most : Nat) (v : Value) (k : Nat) (w : World) (h : QO 126 B w sb E L most v) (hk : k ≤ L.length) (hB : B ≤ w.heap.size) :
    Calls Try.prog 108 #[.pointer (some ⟨sb, 0, none⟩), .int .i64 (k : Int)] w fun e w' =>
      ∃ p v', e = .returned (.slice p k k) ∧ SliceS 8 EnS (fun j => (E j ∨ rowOf v = some j) ∧ j ≠ sb ∧ rowOf v' ≠ some j) w' [.slice p k k] (L.take k) ∧
        QO 126 B w' sb (gE E v w w') (L.drop k) most v' ∧ (∀ j, rowOf v' = some j → w.heap.size ≤ j) ∧ Touch (fun i => i = sb) w w' := by
  obtain ⟨p, c, rfl, hs⟩ := h.slice
  have hc := h.blk.cell
  have hsl := h.blk.lt
  obtain ⟨_, hlc, hcm⟩ := hs.len
  have hlim : L.length ≤ 4096 := Nat.le_trans h.len h.lim
  have H := Lib.hid h
  have HS := Lib.hid hs
  have hkc : (k : Int) ≤ (c : Int) := by omega
  have hkl : (k : Int) ≤ (L.length : Int) := by omega
  have hk0 : (0 : Int) ≤ (k : Int) := by omega
  have Hcl : ∀ q d, SliceS 8 EnS (fun k => E k ∨ rowOf (.slice p L.length c) = some k) w [.slice q (L.length - k) d] (L.drop k) →
      Calls Try.prog 133 #[.slice q (L.length - k) d] w fun e w' => ∃ p1 n1 c1, e = .returned (.slice p1 n1 c1) ∧ Blk w' sb 126 #[.slice p L.length c, .int .i64 (most : Int)] ∧
        SliceS 8 EnS (fun j => (E j ∨ rowOf (.slice p L.length c) = some j) ∧ j ≠ sb ∧ rowOf (.slice p1 n1 c1) ≠ some j) (w'.setCell ⟨sb, 0, none⟩ (.slice p1 n1 c1)) [.slice p k k] (L.take k) ∧
        QO 126 B (w'.setCell ⟨sb, 0, none⟩ (.slice p1 n1 c1)) sb (gE E (.slice p L.length c) w (w'.setCell ⟨sb, 0, none⟩ (.slice p1 n1 c1))) (L.drop k) most (.slice p1 n1 c1) ∧ (∀ j, rowOf (.slice p1 n1 c1) = some j → w.heap.size ≤ j) ∧ Touch (fun i => i = sb) w (w'.setCell ⟨sb, 0, none⟩ (.slice p1 n1 c1)) := by
    intro q d hq
    refine (clone_ens _ q _ d _ w hq (by rw [List.length_drop]; omega)).mono ?_
    rintro e w1 ⟨v1, rfl, ho1, hb1⟩
    obtain ⟨p1, c1, rfl, _⟩ := ho1.slice EnS.still (S' := fun _ => True) (fun _ _ _ => trivial) (fun _ _ => trivial)
    have hblk := h.blk.below hb1 hsl
    have hrow := ho1.row
    have hT1 : Touch (fun i => i = sb) w1 (w1.setCell ⟨sb, 0, none⟩ (.slice p1 (L.drop k).length c1)) := (Touch.refl (fun i => i = sb) w1).setCell (x := ⟨sb, 0, none⟩) (fun _ => rfl) _
    have hT : Touch (fun i => i = sb) w (w1.setCell ⟨sb, 0, none⟩ (.slice p1 (L.drop k).length c1)) := (Touch.of_below hb1).trans hT1
    refine ⟨p1, _, c1, rfl, hblk, ?_, ?_, fun j hj => (hrow j hj).1, hT⟩
    · refine (SliceS.still EnS.still) _ _ _ _ _ _ (hs.take' k k hk (Nat.le_refl _) (by omega)) (Kept.touch hT (fun j hj hs => ?_))
      have hne : j ≠ sb := fun e => by
        subst e
        rcases hs with e | e
        · exact h.noE e
        · exact h.no e
      exact ⟨⟨hs, hne, fun e => by have := (hrow j e).1; omega⟩, hne⟩
    · have hq1 := QO.set (L' := L.drop k) (v' := .slice p1 (L.drop k).length c1) hblk h.sB (ho1.base hB) (fun e => by have := (hrow sb e).1; omega) (by rintro (e | e); (· exact h.noE e); (· exact h.no e)) (fun x hx => h.small x (List.mem_of_mem_drop hx)) (by rw [List.length_drop]; have := h.len; omega) h.lim
      refine hq1.weak (fun j hj hE => ?_) ?_
      · rcases hE with e | e
        · exact .inl e
        · exact .inr (.inl e)
      · rintro (e | e | ⟨e, _⟩)
        · exact h.noE e
        · exact h.no e
        · omega
  have HC := Lib.hid Hcl
  unfold maxLen at hcm
  clear h hs Hcl
  by_cases hck : c = k
  · subst hck
    have e0 : L.length - c = 0 := by omega
    rw [e0] at HC
    clear e0
    go_enter Try.func108, Try.ntmps108
    go_wp2_with fail
    refine (HC.out p 0 (by rw [show L.drop c = [] from List.drop_eq_nil_of_le (by omega)]; exact SliceS.empty _ _ (by simp [maxLen]))).mono ?_
    rintro e w1 ⟨p1, n1, c1, rfl, hblk, r1, r2, r3, r4⟩
    have hc1 := hblk.cell
    have hf1 := hblk.frozen
    have R := Lib.hid (And.intro r1 (And.intro r2 (And.intro r3 r4)))
    clear hblk r1 r2 r3 r4 hc
    go_wp2_with fail
    go_ret
    exact ⟨_, _, rfl, R.out⟩
  · go_enter Try.func108, Try.ntmps108
    go_wp2_with fail
    refine (HC.out _ _ (HS.out.dropAny (by omega) k hk)).mono ?_
    rintro e w1 ⟨p1, n1, c1, rfl, hblk, r1, r2, r3, r4⟩
    have hc1 := hblk.cell
    have hf1 := hblk.frozen
    have R := Lib.hid (And.intro r1 (And.intro r2 (And.intro r3 r4)))
    clear hblk r1 r2 r3 r4 hc
    go_wp2_with fail
    go_ret
    exact ⟨_, _, rfl, R.out⟩

end Go.Proofs.Ytjfhpafaopeogaa
