/-
  The contracts of remudaref03 (layer 3): Num, Take.
-/
import Derived.Test.YtjfhpafaopeogaaScanF
namespace Go.Proofs.Ytjfhpafaopeogaa
open Go.RowKit

theorem refSNum_no (xb g : Nat) (L : List UInt8) (no : Bool) (n : Int) (w : World) (h : RefS w xb g L no) (hn : no = true ∨ sizedB n = false ∨ (L.length : Int) < n) :
    Calls Try.prog 93 #[.pointer (some ⟨xb, 0, none⟩), .int .i64 n] w fun e w' =>
      e = .returned (.int .i64 0) ∧ RefS w' xb g L true ∧ Touch (fun i => i = xb) w w' := by
  obtain ⟨p, c, hb, h1, h2, h3, h4, h5, h6⟩ := h
  have hc := hb.cell
  have hf := hb.frozen 1
  have Hin := Lib.hid h3
  have hT : Touch (fun i => i = xb) w (w.setCell ⟨xb, 1, none⟩ (.bool true)) := (Touch.refl (fun i => i = xb) w).setCell (x := ⟨xb, 1, none⟩) (fun _ => rfl) _
  have Hend : Hid (RefS (w.setCell ⟨xb, 1, none⟩ (.bool true)) xb g L true ∧ Touch (fun i => i = xb) w (w.setCell ⟨xb, 1, none⟩ (.bool true))) := Lib.hid ⟨⟨p, c, by have := hb.set_ 1 (.bool true); simpa using this, h1, h2, hT.bytesIn h3 (fun hne x hx e => h5 hne (by rw [← h4 x hx]; exact e)), h4, h5, h6⟩, hT⟩
  have hgetv : getV L 0 n = (0, 1) ∨ getV L 0 n = (0, 3) ∨ no = true := by
    rcases hn with e | e | e
    · exact .inr (.inr e)
    · exact .inl (getV_arg (.inl e))
    · by_cases hs : sizedB n = true
      · exact .inr (.inl (getV_short hs (by omega) (by omega)))
      · exact .inl (getV_arg (.inl (by simpa using hs)))
  have Hg := Lib.hid (fun w => getR_any p L c 0 n w h1 h2)
  clear hb h3 h4 h5 h6 hT hn
  cases no
  · have hv : ∃ r : Int, (r = 1 ∨ r = 3) ∧ getV L 0 n = (0, r) := by
      rcases hgetv with e | e | e
      · exact ⟨1, .inl rfl, e⟩
      · exact ⟨3, .inr rfl, e⟩
      · cases e
    obtain ⟨r, hr, hv⟩ := hv
    have Hv := Lib.hid hv
    clear hgetv hv
    have hr0 : (r == 0) = false := by simp; omega
    go_enter Try.func93, Try.ntmps93
    go_wp2_with (first | (go_at_call 120; refine (Hg.out _ Hin.out).mono ?_; rintro e w1 ⟨rfl, rfl⟩; rw [Hv.out]))
    go_ret
    exact ⟨rfl, Hend.out⟩
  · clear hgetv
    go_enter Try.func93, Try.ntmps93
    go_wp2_with (first | (go_at_call 120; refine (Hg.out _ Hin.out).mono ?_; rintro e w1 ⟨rfl, rfl⟩; generalize (getV L 0 n).1 = r1; generalize (getV L 0 n).2 = r2))
    go_ret
    exact ⟨rfl, Hend.out⟩

/-- The rest of the slice, as it is stored. -/
theorem refS_cut {w : World} {xb g : Nat} {L : List UInt8} (h : RefS w xb g L false) (n : Nat) (hn : n ≤ L.length) :
    ∃ p c, (∀ i, w.cell? ⟨xb, i, none⟩ = (#[.slice p L.length c, .bool false] : Array Value)[i]?) ∧ w.frozen? ⟨xb, 0, none⟩ = false ∧ L.length ≤ c ∧ c ≤ maxLen ∧ BytesIn w p L ∧ (∀ x, p = some x → x.block = g) ∧ (L ≠ [] → g ≠ xb) ∧
      ((n = c ∧ RefS (w.setCell ⟨xb, 0, none⟩ (.slice p 0 0)) xb g (L.drop n) false ∧ Touch (fun i => i = xb) w (w.setCell ⟨xb, 0, none⟩ (.slice p 0 0))) ∨
       (¬ n = c ∧ ∃ a, p = some a ∧ RefS (w.setCell ⟨xb, 0, none⟩ (.slice (some (a.add n)) (L.length - n) (c - n))) xb g (L.drop n) false ∧ Touch (fun i => i = xb) w (w.setCell ⟨xb, 0, none⟩ (.slice (some (a.add n)) (L.length - n) (c - n))))) := by
  obtain ⟨p, c, hb, h1, h2, h3, h4, h5, h6⟩ := h
  have hT : ∀ u, Touch (fun i => i = xb) w (w.setCell ⟨xb, 0, none⟩ u) := fun u => (Touch.refl (fun i => i = xb) w).setCell (x := ⟨xb, 0, none⟩) (fun _ => rfl) u
  have hB : ∀ u, Blk (w.setCell ⟨xb, 0, none⟩ u) xb 183 #[u, .bool false] := fun u => by
    have := hb.set_ 0 u
    simpa using this
  refine ⟨p, c, hb.cell, hb.frozen 0, h1, h2, h3, h4, h5, ?_⟩
  by_cases hc : n = c
  · refine .inl ⟨hc, ?_, hT _⟩
    have hd : L.drop n = [] := List.eq_nil_of_length_eq_zero (by rw [List.length_drop]; omega)
    rw [hd]
    exact ⟨p, 0, hB _, Nat.le_refl _, by simp [maxLen], BytesIn.nil _ _, h4, fun h => absurd rfl h, fun _ => rfl⟩
  · refine .inr ⟨hc, ?_⟩
    cases p with
    | none => exact absurd (h6 rfl) (by omega)
    | some a =>
      refine ⟨a, rfl, ?_, hT _⟩
      obtain ⟨_, m2, m3⟩ := scan_moved n (hT (.slice (some (a.add n)) (L.length - n) (c - n))) h3 h4 h5
      have hl : (L.drop n).length = L.length - n := List.length_drop
      exact ⟨some (a.add n), c - n, by rw [hl]; exact hB _, by rw [hl]; omega, by omega, m2, m3, fun h => h5 (fun e => h (by rw [e]; exact List.drop_nil)), (by simp)⟩

theorem refSNum_yes (xb g : Nat) (L : List UInt8) (n : Nat) (w : World) (h : RefS w xb g L false) (hs : sizedB n = true) (hn : n ≤ L.length) :
    Calls Try.prog 93 #[.pointer (some ⟨xb, 0, none⟩), .int .i64 (n : Int)] w fun e w' =>
      e = .returned (.int .i64 (be (L.take n))) ∧ RefS w' xb g (L.drop n) false ∧ Touch (fun i => i = xb) w w' := by
  obtain ⟨p, c, hc, hf, h1, h2, hin, _, _, hend⟩ := refS_cut h n hn
  have hsz := sizedB_cases hs
  have hv : getV L 0 n = (be (L.take n), 0) := by
    rw [getV_yes hs (by omega) (by omega)]
    simp
  have Hg := Lib.hid (getR_any p L c 0 n w h1 h2 hin)
  have Hv := Lib.hid hv
  have h2' := h2
  unfold maxLen at h2'
  generalize be (L.take n) = r at Hv
  clear h hs hsz hv hin
  rcases hend with ⟨e, hr, ht⟩ | ⟨hne, a, rfl, hr, ht⟩
  · subst e
    have Hr := Lib.hid hr
    have Ht := Lib.hid ht
    clear hr ht
    go_enter Try.func93, Try.ntmps93
    go_wp2_with (first | (go_at_call 120; refine Hg.out.mono ?_; rintro e w1 ⟨rfl, rfl⟩; rw [Hv.out]))
    go_ret
    exact ⟨rfl, Hr.out, Ht.out⟩
  · have Hr := Lib.hid hr
    have Ht := Lib.hid ht
    have hne2 : ¬ c = n := fun e => hne e.symm
    clear hr ht hne
    go_enter Try.func93, Try.ntmps93
    go_wp2_with (first | (go_at_call 120; refine Hg.out.mono ?_; rintro e w1 ⟨rfl, rfl⟩; rw [Hv.out]))
    go_ret
    exact ⟨rfl, Hr.out, Ht.out⟩

/-- The document's scan, its slice named. -/
def RefC (w : World) (xb g : Nat) (L : List UInt8) (no : Bool) (p : Option Addr) (c : Nat) : Prop :=
  Blk w xb 183 #[.slice p L.length c, .bool no] ∧ L.length ≤ c ∧ c ≤ maxLen ∧ BytesIn w p L ∧ (∀ x, p = some x → x.block = g) ∧ (L ≠ [] → g ≠ xb) ∧ (p = none → c = 0)

theorem RefC.touch {w w' : World} {xb g : Nat} {L : List UInt8} {no : Bool} {q : Option Addr} {c : Nat} {p : Nat → Prop} (h : RefC w xb g L no q c) (ht : Touch p w w') (h1 : ¬ p xb) (h2 : L ≠ [] → ¬ p g) : RefC w' xb g L no q c := by
  obtain ⟨hb, h3, h4, h5, h6, h7, h8⟩ := h
  exact ⟨ht.blk hb h1, h3, h4, ht.bytesIn h5 (fun hne x hx => by rw [h6 x hx]; exact h2 hne), h6, h7, h8⟩

theorem RefC.cut_eq {w : World} {xb g : Nat} {L : List UInt8} {p : Option Addr} {n : Nat} (h : RefC w xb g L false p n) :
    RefS (w.setCell ⟨xb, 0, none⟩ (.slice p 0 0)) xb g (L.drop n) false ∧ Touch (fun i => i = xb) w (w.setCell ⟨xb, 0, none⟩ (.slice p 0 0)) := by
  obtain ⟨hb, h1, h2, h3, h4, h5, h6⟩ := h
  have hd : L.drop n = [] := List.eq_nil_of_length_eq_zero (by rw [List.length_drop]; omega)
  have hB : Blk (w.setCell ⟨xb, 0, none⟩ (.slice p 0 0)) xb 183 #[.slice p 0 0, .bool false] := by
    have := hb.set_ 0 (.slice p 0 0)
    simpa using this
  rw [hd]
  exact ⟨⟨p, 0, hB, Nat.le_refl _, by simp [maxLen], BytesIn.nil _ _, h4, fun h => absurd rfl h, fun _ => rfl⟩, (Touch.refl (fun i => i = xb) w).setCell (x := ⟨xb, 0, none⟩) (fun _ => rfl) _⟩

theorem RefC.cut_ne {w : World} {xb g : Nat} {L : List UInt8} {a : Addr} {c : Nat} (h : RefC w xb g L false (some a) c) (n : Nat) (hn : n ≤ L.length) :
    RefS (w.setCell ⟨xb, 0, none⟩ (.slice (some (a.add n)) (L.length - n) (c - n))) xb g (L.drop n) false ∧ Touch (fun i => i = xb) w (w.setCell ⟨xb, 0, none⟩ (.slice (some (a.add n)) (L.length - n) (c - n))) := by
  obtain ⟨hb, h1, h2, h3, h4, h5, h6⟩ := h
  have hT : Touch (fun i => i = xb) w (w.setCell ⟨xb, 0, none⟩ (.slice (some (a.add n)) (L.length - n) (c - n))) := (Touch.refl (fun i => i = xb) w).setCell (x := ⟨xb, 0, none⟩) (fun _ => rfl) _
  have hB : Blk (w.setCell ⟨xb, 0, none⟩ (.slice (some (a.add n)) (L.length - n) (c - n))) xb 183 #[.slice (some (a.add n)) (L.length - n) (c - n), .bool false] := by
    have := hb.set_ 0 (.slice (some (a.add n)) (L.length - n) (c - n))
    simpa using this
  obtain ⟨_, m2, m3⟩ := scan_moved n hT h3 h4 h5
  have hl : (L.drop n).length = L.length - n := List.length_drop
  exact ⟨⟨some (a.add n), c - n, by rw [hl]; exact hB, by rw [hl]; omega, by omega, m2, m3, fun h => h5 (fun e => h (by rw [e]; exact List.drop_nil)), (by simp)⟩, hT⟩
end Go.Proofs.Ytjfhpafaopeogaa
