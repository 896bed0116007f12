/-
  The contracts of remudaref03 (layer 3): Num, Take.
-/
import Derived.Test.YthdafefhcdlkbaaScanF
namespace Go.Proofs.Ythdafefhcdlkbaa
open Go.RowKit

theorem refSNum_no (xb g : Nat) (L : List UInt8) (no : Bool) (n : Int) (w : World) (h : RefS w xb g L no) (hn : no = true ∨ sizedB n = false ∨ (L.length : Int) < n) :
    Calls Try.prog 39 #[.pointer (some ⟨xb, 0, none⟩), .int .i64 n] w fun e w' =>
      e = .returned (.int .i64 0) ∧ RefS w' xb g L true ∧ Touch (fun i => i = xb) w w' := by
  obtain ⟨p, c, hb, h1, h2, h3, h4, h5, h6⟩ := h
  have hc := hb.cell
  have hf := hb.frozen 1
  have Hin := Lib.hid h3
  have hT : Touch (fun i => i = xb) w (w.setCell ⟨xb, 1, none⟩ (.bool true)) := (Touch.refl (fun i => i = xb) w).setCell (x := ⟨xb, 1, none⟩) (fun _ => rfl) _
  have Hend : Hid (RefS (w.setCell ⟨xb, 1, none⟩ (.bool true)) xb g L true ∧ Touch (fun i => i = xb) w (w.setCell ⟨xb, 1, none⟩ (.bool true))) := Lib.hid ⟨⟨p, c, by have := hb.set_ 1 (.bool true); simpa using this, h1, h2, hT.bytesIn h3 (fun hne x hx e => h5 hne (by rw [← h4 x hx]; exact e)), h4, h5, h6⟩, hT⟩
  have hgetv : getV L 0 n = (0, 1) ∨ getV L 0 n = (0, 3) ∨ no = true := by
    rcases hn with e | e | e
    · exact .inr (.inr e)
    · exact .inl (getV_arg (.inl e))
    · by_cases hs : sizedB n = true
      · exact .inr (.inl (getV_short hs (by omega) (by omega)))
      · exact .inl (getV_arg (.inl (by simpa using hs)))
  have Hg := Lib.hid (fun w => getR_any p L c 0 n w h1 h2)
  clear hb h3 h4 h5 h6 hT hn
  cases no
  · have hv : ∃ r : Int, (r = 1 ∨ r = 3) ∧ getV L 0 n = (0, r) := by
      rcases hgetv with e | e | e
      · exact ⟨1, .inl rfl, e⟩
      · exact ⟨3, .inr rfl, e⟩
      · cases e
    obtain ⟨r, hr, hv⟩ := hv
    have Hv := Lib.hid hv
    clear hgetv hv
    have hr0 : (r == 0) = false := by simp; omega
    go_enter Try.func39, Try.ntmps39
    go_wp2_with (first | (go_at_call 58; refine (Hg.out _ Hin.out).mono ?_; rintro e w1 ⟨rfl, rfl⟩; rw [Hv.out]))
    go_ret
    exact ⟨rfl, Hend.out⟩
  · clear hgetv
    go_enter Try.func39, Try.ntmps39
    go_wp2_with (first | (go_at_call 58; refine (Hg.out _ Hin.out).mono ?_; rintro e w1 ⟨rfl, rfl⟩; generalize (getV L 0 n).1 = r1; generalize (getV L 0 n).2 = r2))
    go_ret
    exact ⟨rfl, Hend.out⟩

/-- The rest of the slice, as it is stored. -/
theorem refS_cut {w : World} {xb g : Nat} {L : List UInt8} (h : RefS w xb g L false) (n : Nat) (hn : n ≤ L.length) :
    ∃ p c, (∀ i, w.cell? ⟨xb, i, none⟩ = (#[.slice p L.length c, .bool false] : Array Value)[i]?) ∧ w.frozen? ⟨xb, 0, none⟩ = false ∧ L.length ≤ c ∧ c ≤ maxLen ∧ BytesIn w p L ∧ (∀ x, p = some x → x.block = g) ∧ (L ≠ [] → g ≠ xb) ∧
      ((n = c ∧ RefS (w.setCell ⟨xb, 0, none⟩ (.slice p 0 0)) xb g (L.drop n) false ∧ Touch (fun i => i = xb) w (w.setCell ⟨xb, 0, none⟩ (.slice p 0 0))) ∨
       (¬ n = c ∧ ∃ a, p = some a ∧ RefS (w.setCell ⟨xb, 0, none⟩ (.slice (some (a.add n)) (L.length - n) (c - n))) xb g (L.drop n) false ∧ Touch (fun i => i = xb) w (w.setCell ⟨xb, 0, none⟩ (.slice (some (a.add n)) (L.length - n) (c - n))))) := by
  obtain ⟨p, c, hb, h1, h2, h3, h4, h5, h6⟩ := h
  have hT : ∀ u, Touch (fun i => i = xb) w (w.setCell ⟨xb, 0, none⟩ u) := fun u => (Touch.refl (fun i => i = xb) w).setCell (x := ⟨xb, 0, none⟩) (fun _ => rfl) u
  have hB : ∀ u, Blk (w.setCell ⟨xb, 0, none⟩ u) xb 65 #[u, .bool false] := fun u => by
    have := hb.set_ 0 u
    simpa using this
  refine ⟨p, c, hb.cell, hb.frozen 0, h1, h2, h3, h4, h5, ?_⟩
  by_cases hc : n = c
  · refine .inl ⟨hc, ?_, hT _⟩
    have hd : L.drop n = [] := List.eq_nil_of_length_eq_zero (by rw [List.length_drop]; omega)
    rw [hd]
    exact ⟨p, 0, hB _, Nat.le_refl _, by simp [maxLen], BytesIn.nil _ _, h4, fun h => absurd rfl h, fun _ => rfl⟩
  · refine .inr ⟨hc, ?_⟩
    cases p with
    | none => exact absurd (h6 rfl) (by omega)
    | some a =>
      refine ⟨a, rfl, ?_, hT _⟩
      obtain ⟨_, m2, m3⟩ := scan_moved n (hT (.slice (some (a.add n)) (L.length - n) (c - n))) h3 h4 h5
      have hl : (L.drop n).length = L.length - n := List.length_drop
      exact ⟨some (a.add n), c - n, by rw [hl]; exact hB _, by rw [hl]; omega, by omega, m2, m3, fun h => h5 (fun e => h (by rw [e]; exact List.drop_nil)), (by simp)⟩

theorem refSNum_yes (xb g : Nat) (L : List UInt8) (n : Nat) (w : World) (h : RefS w xb g L false) (hs : sizedB n = true) (hn : n ≤ L.length) :
    Calls Try.prog 39 #[.pointer (some ⟨xb, 0, none⟩), .int .i64 (n : Int)] w fun e w' =>
      e = .returned (.int .i64 (be (L.take n))) ∧ RefS w' xb g (L.drop n) false ∧ Touch (fun i => i = xb) w w' := by
  obtain ⟨p, c, hc, hf, h1, h2, hin, _, _, hend⟩ := refS_cut h n hn
  have hsz := sizedB_cases hs
  have hv : getV L 0 n = (be (L.take n), 0) := by
    rw [getV_yes hs (by omega) (by omega)]
    simp
  have Hg := Lib.hid (getR_any p L c 0 n w h1 h2 hin)
  have Hv := Lib.hid hv
  have h2' := h2
  unfold maxLen at h2'
  generalize be (L.take n) = r at Hv
  clear h hs hsz hv hin
  rcases hend with ⟨e, hr, ht⟩ | ⟨hne, a, rfl, hr, ht⟩
  · subst e
    have Hr := Lib.hid hr
    have Ht := Lib.hid ht
    clear hr ht
    go_enter Try.func39, Try.ntmps39
    go_wp2_with (first | (go_at_call 58; refine Hg.out.mono ?_; rintro e w1 ⟨rfl, rfl⟩; rw [Hv.out]))
    go_ret
    exact ⟨rfl, Hr.out, Ht.out⟩
  · have Hr := Lib.hid hr
    have Ht := Lib.hid ht
    have hne2 : ¬ c = n := fun e => hne e.symm
    clear hr ht hne
    go_enter Try.func39, Try.ntmps39
    go_wp2_with (first | (go_at_call 58; refine Hg.out.mono ?_; rintro e w1 ⟨rfl, rfl⟩; rw [Hv.out]))
    go_ret
    exact ⟨rfl, Hr.out, Ht.out⟩

theorem refSTake_no (xb g : Nat) (L : List UInt8) (no : Bool) (n : Int) (w : World) (h : RefS w xb g L no) (hn : no = true ∨ n < 0 ∨ (L.length : Int) < n) :
    Calls Try.prog 41 #[.pointer (some ⟨xb, 0, none⟩), .int .i64 n] w fun e w' =>
      e = .returned (.slice none 0 0) ∧ RefS w' xb g L true ∧ Touch (fun i => i = xb) w w' := by
  obtain ⟨p, c, hb, h1, h2, h3, h4, h5, h6⟩ := h
  have hc := hb.cell
  have hf := hb.frozen 1
  have hT : Touch (fun i => i = xb) w (w.setCell ⟨xb, 1, none⟩ (.bool true)) := (Touch.refl (fun i => i = xb) w).setCell (x := ⟨xb, 1, none⟩) (fun _ => rfl) _
  have Hend : Hid (RefS (w.setCell ⟨xb, 1, none⟩ (.bool true)) xb g L true ∧ Touch (fun i => i = xb) w (w.setCell ⟨xb, 1, none⟩ (.bool true))) := Lib.hid ⟨⟨p, c, by have := hb.set_ 1 (.bool true); simpa using this, h1, h2, hT.bytesIn h3 (fun hne x hx e => h5 hne (by rw [← h4 x hx]; exact e)), h4, h5, h6⟩, hT⟩
  have hbb : no = true ∨ (no = false ∧ n < 0) ∨ (no = false ∧ ¬ n < 0 ∧ (L.length : Int) < n) := by
    cases no <;> by_cases q : n < 0 <;> simp_all
  clear hb h3 h4 h5 h6 hT hn
  rcases hbb with rfl | ⟨rfl, hn⟩ | ⟨rfl, hn, hn2⟩
  all_goals
    go_enter Try.func41, Try.ntmps41
    go_wp2
    go_ret
    exact ⟨rfl, Hend.out⟩

/-- The document's scan, its slice named. -/
def RefC (w : World) (xb g : Nat) (L : List UInt8) (no : Bool) (p : Option Addr) (c : Nat) : Prop :=
  Blk w xb 65 #[.slice p L.length c, .bool no] ∧ L.length ≤ c ∧ c ≤ maxLen ∧ BytesIn w p L ∧ (∀ x, p = some x → x.block = g) ∧ (L ≠ [] → g ≠ xb) ∧ (p = none → c = 0)

theorem RefC.touch {w w' : World} {xb g : Nat} {L : List UInt8} {no : Bool} {q : Option Addr} {c : Nat} {p : Nat → Prop} (h : RefC w xb g L no q c) (ht : Touch p w w') (h1 : ¬ p xb) (h2 : L ≠ [] → ¬ p g) : RefC w' xb g L no q c := by
  obtain ⟨hb, h3, h4, h5, h6, h7, h8⟩ := h
  exact ⟨ht.blk hb h1, h3, h4, ht.bytesIn h5 (fun hne x hx => by rw [h6 x hx]; exact h2 hne), h6, h7, h8⟩

theorem RefC.cut_eq {w : World} {xb g : Nat} {L : List UInt8} {p : Option Addr} {n : Nat} (h : RefC w xb g L false p n) :
    RefS (w.setCell ⟨xb, 0, none⟩ (.slice p 0 0)) xb g (L.drop n) false ∧ Touch (fun i => i = xb) w (w.setCell ⟨xb, 0, none⟩ (.slice p 0 0)) := by
  obtain ⟨hb, h1, h2, h3, h4, h5, h6⟩ := h
  have hd : L.drop n = [] := List.eq_nil_of_length_eq_zero (by rw [List.length_drop]; omega)
  have hB : Blk (w.setCell ⟨xb, 0, none⟩ (.slice p 0 0)) xb 65 #[.slice p 0 0, .bool false] := by
    have := hb.set_ 0 (.slice p 0 0)
    simpa using this
  rw [hd]
  exact ⟨⟨p, 0, hB, Nat.le_refl _, by simp [maxLen], BytesIn.nil _ _, h4, fun h => absurd rfl h, fun _ => rfl⟩, (Touch.refl (fun i => i = xb) w).setCell (x := ⟨xb, 0, none⟩) (fun _ => rfl) _⟩

theorem RefC.cut_ne {w : World} {xb g : Nat} {L : List UInt8} {a : Addr} {c : Nat} (h : RefC w xb g L false (some a) c) (n : Nat) (hn : n ≤ L.length) :
    RefS (w.setCell ⟨xb, 0, none⟩ (.slice (some (a.add n)) (L.length - n) (c - n))) xb g (L.drop n) false ∧ Touch (fun i => i = xb) w (w.setCell ⟨xb, 0, none⟩ (.slice (some (a.add n)) (L.length - n) (c - n))) := by
  obtain ⟨hb, h1, h2, h3, h4, h5, h6⟩ := h
  have hT : Touch (fun i => i = xb) w (w.setCell ⟨xb, 0, none⟩ (.slice (some (a.add n)) (L.length - n) (c - n))) := (Touch.refl (fun i => i = xb) w).setCell (x := ⟨xb, 0, none⟩) (fun _ => rfl) _
  have hB : Blk (w.setCell ⟨xb, 0, none⟩ (.slice (some (a.add n)) (L.length - n) (c - n))) xb 65 #[.slice (some (a.add n)) (L.length - n) (c - n), .bool false] := by
    have := hb.set_ 0 (.slice (some (a.add n)) (L.length - n) (c - n))
    simpa using this
  obtain ⟨_, m2, m3⟩ := scan_moved n hT h3 h4 h5
  have hl : (L.drop n).length = L.length - n := List.length_drop
  exact ⟨⟨some (a.add n), c - n, by rw [hl]; exact hB, by rw [hl]; omega, by omega, m2, m3, fun h => h5 (fun e => h (by rw [e]; exact List.drop_nil)), (by simp)⟩, hT⟩

theorem refSTake_close {B xb : Nat} {w w1 : World} {u vo : Value} {T : List UInt8} (hxl : xb < w.heap.size) (ho : OwnB B w1 vo T) (hn : ∀ k, vo.ownBlock = some k → w.heap.size ≤ k) (hT : Touch (fun _ => False) w w1)
    (ht : Touch (fun i => i = xb) w1 (w1.setCell ⟨xb, 0, none⟩ u)) : OwnB B (w1.setCell ⟨xb, 0, none⟩ u) vo T ∧ Touch (fun i => i = xb) w (w1.setCell ⟨xb, 0, none⟩ u) :=
  ⟨ho.touch ht (fun k hk e => by have := hn k hk; omega), (hT.mono (q := fun i => i = xb) (fun _ _ e => e.elim)).trans ht⟩

theorem refSTake_yes (B xb g : Nat) (L : List UInt8) (n : Nat) (w : World) (h : RefS w xb g L false) (hn : n ≤ L.length) (hL : L.length ≤ 1000000000) (hB : B ≤ w.heap.size) :
    Calls Try.prog 41 #[.pointer (some ⟨xb, 0, none⟩), .int .i64 (n : Int)] w fun e w' =>
      ∃ v, e = .returned v ∧ OwnB B w' v (L.take n) ∧ RefS w' xb g (L.drop n) false ∧ Touch (fun i => i = xb) w w' := by
  obtain ⟨p, c, hC⟩ := h
  have HC : Hid (RefC w xb g L false p c) := Lib.hid hC
  obtain ⟨hb, h1, h2, h3, h4, h5, h6⟩ := hC
  have hc := hb.cell
  have hxl := hb.lt
  have Htk := Lib.hid (show (L.take n).length = n by rw [List.length_take]; omega)
  have Hint := Lib.hid (h3.take n)
  have hn0 : ¬ (n : Int) < 0 := by omega
  have hn1 : ¬ (L.length : Int) < (n : Int) := by omega
  have h2' := h2
  unfold maxLen at h2'
  by_cases hcn : n = c
  · subst hcn
    clear hb h3 h4 h5 h6 h2
    go_enter Try.func41, Try.ntmps41
    go_wp2_with (at_builtin; refine step_appendB' _ rfl (.const (.slice none 0 0)) (.tmp 31) rfl B (.slice none 0 0) [] rfl (OwnB.none _ _) p (L.take n) n n Htk.out rfl Hint.out (by rw [Htk.out]; simp; omega) hB ?_; intro vo w1 ho1 hg1 hn1; have hT1 : Touch (fun _ => False) w w1 := (Touch.of_grown hg1).mono (fun k _ e => by simp [Value.ownBlock] at e); have HC1 := Lib.hid (HC.out.touch hT1 (fun e => e) (fun _ e => e)); have hc1 := HC1.out.1.cell; have hf1 := HC1.out.1.frozen 0; have Hn1 : Hid (∀ k, vo.ownBlock = some k → w.heap.size ≤ k) := Lib.hid (fun k hk => by rcases hn1 k hk with e | e; (· simp [Value.ownBlock] at e); (· exact e)); have HT1 := Lib.hid hT1; have Ho1 : Hid (OwnB B w1 vo (L.take n)) := Lib.hid ho1; clear ho1 hg1 hn1 hT1 hc)
    go_ret
    obtain ⟨k1, k2⟩ := HC1.out.cut_eq
    obtain ⟨k3, k4⟩ := refSTake_close hxl Ho1.out Hn1.out HT1.out k2
    exact ⟨_, rfl, k3, k1, k4⟩
  · have hcn2 : ¬ c = n := fun e => hcn e.symm
    cases p with
    | none => exact absurd (h6 rfl) (by omega)
    | some a =>
      clear hb h3 h4 h5 h6 h2 hcn
      go_enter Try.func41, Try.ntmps41
      go_wp2_with (at_builtin; refine step_appendB' _ rfl (.const (.slice none 0 0)) (.tmp 31) rfl B (.slice none 0 0) [] rfl (OwnB.none _ _) (some a) (L.take n) n c Htk.out rfl Hint.out (by rw [Htk.out]; simp; omega) hB ?_; intro vo w1 ho1 hg1 hn1; have hT1 : Touch (fun _ => False) w w1 := (Touch.of_grown hg1).mono (fun k _ e => by simp [Value.ownBlock] at e); have HC1 := Lib.hid (HC.out.touch hT1 (fun e => e) (fun _ e => e)); have hc1 := HC1.out.1.cell; have hf1 := HC1.out.1.frozen 0; have Hn1 : Hid (∀ k, vo.ownBlock = some k → w.heap.size ≤ k) := Lib.hid (fun k hk => by rcases hn1 k hk with e | e; (· simp [Value.ownBlock] at e); (· exact e)); have HT1 := Lib.hid hT1; have Ho1 : Hid (OwnB B w1 vo (L.take n)) := Lib.hid ho1; clear ho1 hg1 hn1 hT1 hc)
      go_ret
      obtain ⟨k1, k2⟩ := HC1.out.cut_ne n hn
      obtain ⟨k3, k4⟩ := refSTake_close hxl Ho1.out Hn1.out HT1.out k2
      exact ⟨_, rfl, k3, k1, k4⟩

end Go.Proofs.Ythdafefhcdlkbaa
