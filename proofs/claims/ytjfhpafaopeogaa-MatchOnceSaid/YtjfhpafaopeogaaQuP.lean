/-
  The document's queue (layer 21): New, Push, Skip.
-/
import Derived.Test.YtjfhpafaopeogaaQuM
namespace Go.Proofs.Ytjfhpafaopeogaa
open Go.RowKit
set_option linter.unusedVariables false
set_option linter.unusedSimpArgs false

/-- What a step leaves of a queue. -/
def OpR (t : TypeId) (B sb : Nat) (E : Nat → Prop) (L' : List EnV) (most : Nat) (v : Value) (w w' : World) : Prop :=
  ∃ v', QO t B w' sb (gE E v w w') L' most v' ∧ (∀ k, rowOf v' = some k → rowOf v = some k ∨ w.heap.size ≤ k) ∧ QT sb v w w'

/-- The same, where the row is new, and the struct alone turns. -/
def OpN (t : TypeId) (B sb : Nat) (E : Nat → Prop) (L' : List EnV) (most : Nat) (v : Value) (w w' : World) : Prop :=
  ∃ v', QO t B w' sb (gE E v w w') L' most v' ∧ (∀ k, rowOf v' = some k → w.heap.size ≤ k) ∧ Touch (fun i => i = sb) w w'

theorem rNew_ok (most : Nat) (w : World) (h1 : 1 ≤ most) (h2 : most ≤ 4096) :
    Calls Try.prog 36 #[.int .i64 (most : Int)] w fun e w' =>
      e = .returned (.tuple #[.pointer (some ⟨w.heap.size, 0, none⟩), .int .i64 0]) ∧ QO 88 w.heap.size w' w.heap.size (fun _ => False) [] most (.slice none 0 0) ∧ Below w.heap.size w w' := by
  have Hend : Hid (QO 88 w.heap.size (w.alloc (.cells #[.slice none 0 0, .int .i64 (most : Int)] 88)) w.heap.size (fun _ => False) [] most (.slice none 0 0)) :=
    Lib.hid ⟨Blk.new _ _ _, OwnS.empty _, Nat.le_refl _, by simp [rowOf], fun e => e, fun x hx => by simp at hx, by simp, h2⟩
  go_enter Try.func36, Try.ntmps36
  go_wp2
  go_ret2
  exact ⟨rfl, Hend.out, (Below.refl _ _).alloc (Nat.le_refl _) _⟩

theorem rNew_bad (most : Int) (w : World) (h : most < 1 ∨ 4096 < most) :
    Calls Try.prog 36 #[.int .i64 most] w fun e w' => e = .returned (.tuple #[.pointer none, .int .i64 1]) ∧ w = w' := by
  rcases h with h | h
  · go_enter Try.func36, Try.ntmps36
    go_wp2
    go_ret2
    exact ⟨rfl, rfl⟩
  · have h' : ¬ most < 1 := by omega
    go_enter Try.func36, Try.ntmps36
    go_wp2
    go_ret2
    exact ⟨rfl, rfl⟩

theorem rPush_full (B sb : Nat) (E : Nat → Prop) (L : List EnV) (most : Nat) (v : Value) (p : Option Addr) (n c : Nat) (w : World) (h : QO 88 B w sb E L most v) (hfull : most < L.length + n) :
    Calls Try.prog 37 #[.pointer (some ⟨sb, 0, none⟩), .slice p n c] w fun e w' => e = .returned (.int .i64 6) ∧ ∃ r, w' = w.drewN r := by
  obtain ⟨pv, cv, rfl, _⟩ := h.slice
  have hc := h.blk.cell
  have hlim := h.lim
  have hlen := h.len
  have hwr : IntKind.i64.wrap ((most : Int) - (L.length : Int)) = (most : Int) - (L.length : Int) := by rw [IntKind.wrap_i64]; omega
  have hgt : (most : Int) - (L.length : Int) < (n : Int) := by omega
  clear h
  go_enter Try.func37, Try.ntmps37
  go_wp2_with fail
  go_quiet (fail)
  go_wp2
  go_ret
  exact ⟨rfl, _, rfl⟩

/-- The entries of a queue as a source of an append. -/
theorem QO.src {t : TypeId} {B sb : Nat} {w : World} {E : Nat → Prop} {L : List EnV} {most n c : Nat} {p : Option Addr} (h : QO t B w sb E L most (.slice p n c)) : SliceS 8 EnS (fun k => E k ∨ rowOf (.slice p n c) = some k) w [.slice p n c] L := by
  obtain ⟨p', c', e, hs⟩ := h.slice
  simp only [Value.slice.injEq] at e
  obtain ⟨rfl, rfl, rfl⟩ := e
  exact hs

/-- A queue gets a new row. -/
theorem QO.renew {t : TypeId} {B sb : Nat} {w w3 : World} {E E1 : Nat → Prop} {L L' : List EnV} {most : Nat} {v v3 : Value} (h : QO t B w sb E L most v) (hb3 : Below w.heap.size w w3) (ho3 : OwnEn B E1 w3 v3 L')
    (hr3 : ∀ k, rowOf v3 = some k → w.heap.size ≤ k) (hE1 : ∀ k, k < w3.heap.size → E1 k → gE E v w w3 k) (hn1 : ¬ E1 sb) (hs : ∀ x ∈ L', EnSmall x) (hl : L'.length ≤ most) :
    Blk w3 sb t #[v, .int .i64 (most : Int)] ∧ QO t B (w3.setCell ⟨sb, 0, none⟩ v3) sb (gE E v w (w3.setCell ⟨sb, 0, none⟩ v3)) L' most v3 ∧ Touch (fun i => i = sb) w (w3.setCell ⟨sb, 0, none⟩ v3) := by
  have hsl := h.blk.lt
  have hblk := h.blk.below hb3 hsl
  have hT1 : Touch (fun i => i = sb) w3 (w3.setCell ⟨sb, 0, none⟩ v3) := (Touch.refl (fun i => i = sb) w3).setCell (x := ⟨sb, 0, none⟩) (fun _ => rfl) _
  refine ⟨hblk, ?_, (Touch.of_below hb3).trans hT1⟩
  have hq := QO.set hblk h.sB ho3 (fun e => by have := hr3 sb e; omega) hn1 hs hl h.lim
  have hz := size_set w3 ⟨sb, 0, none⟩ v3
  refine hq.weak (fun k hk hE => ?_) ?_
  · rw [hz] at hk
    rcases hE1 k hk hE with e | e | e
    · exact .inl e
    · exact .inr (.inl e)
    · exact .inr (.inr ⟨e.1, by rw [hz]; exact e.2⟩)
  · rintro (e | e | e)
    · exact h.noE e
    · exact h.no e
    · omega

set_option maxRecDepth 100000 in
set_option maxHeartbeats 4000000 in
theorem rPush_ok (B sb : Nat) (E S : Nat → Prop) (L xs : List EnV) (most : Nat) (v : Value) (p : Option Addr) (n c : Nat) (w : World) (h : QO 88 B w sb E L most v) (hx : SliceS 8 EnS S w [.slice p n c] xs) (hSE : ∀ k, k < w.heap.size → S k → E k) (hs : ∀ x ∈ xs, EnSmall x) (hfit : L.length + n ≤ most) (hBw : B ≤ w.heap.size) :
    Calls Try.prog 37 #[.pointer (some ⟨sb, 0, none⟩), .slice p n c] w fun e w' => e = .returned (.int .i64 0) ∧ OpR 88 B sb E (L ++ xs) most v w w' := by
  obtain ⟨rfl, hlc, hcm⟩ := hx.len
  obtain ⟨pv, cv, rfl, _⟩ := h.slice
  have hc := h.blk.cell
  have hlim := h.lim
  have hlen := h.len
  have hwr : IntKind.i64.wrap ((most : Int) - (L.length : Int)) = (most : Int) - (L.length : Int) := by rw [IntKind.wrap_i64]; omega
  have hgt : ¬ (most : Int) - (L.length : Int) < (xs.length : Int) := by omega
  have H := Lib.hid h
  have Hx := Lib.hid (hx.weak EnS.still (S' := fun k => E k ∧ k < w.heap.size) (fun k hk hS => ⟨hSE k hk hS, hk⟩))
  have Hs := Lib.hid hs
  clear h hx hs hSE
  go_enter Try.func37, Try.ntmps37
  go_wp2_with fail
  go_quiet (fail)
  go_upto_region 3 with (fail)
  have hz1 : (w.drewN nq).heap.size = w.heap.size := rfl
  have hd := bel_drewN w nq w.heap.size (Nat.le_refl _)
  generalize w.drewN nq = w1 at *
  have Hd := Lib.hid hd
  have H1 := Lib.hid (H.out.still hd)
  have Hx1 := Lib.hid (Hx.out.below EnS.still hd)
  have HS1 := Lib.hid (H1.out.src.weak EnS.still (S' := fun k => ((E k ∨ rowOf (.slice pv L.length cv) = some k) ∧ k < w1.heap.size) ∧ rowOf (.slice none 0 0) ≠ some k) (fun k hk hS => ⟨⟨hS, hk⟩, by simp [rowOf]⟩))
  have hc1 := H1.out.blk.cell
  have Hz1 := Lib.hid hz1
  clear hc hd hz1
  go_wp2_with (first
    | (at_builtin; refine step_appendEn _ rfl (.const (.slice none 0 0)) (.tmp 22) rfl B (fun k => (E k ∨ rowOf (.slice pv L.length cv) = some k) ∧ k < w1.heap.size) (.slice none 0 0) [] rfl (OwnS.empty _) pv L.length cv L rfl HS1.out (by simp; omega) (by rw [Hz1.out]; exact hBw) ?_; intro v2 w2 ho2 hg2 hn2; have hb2 := Below.of_row hg2 (Nat.le_refl w1.heap.size) (fun k hk => by simp [rowOf] at hk); obtain ⟨p2, c2, hv2, _⟩ := ho2.slice EnS.still (S' := fun _ => True) (fun _ _ _ => trivial) (fun _ _ => trivial); subst hv2; have Ho2 := Lib.hid ho2; have Hb2 := Lib.hid hb2; have Hn2 := Lib.hid hn2; have Hx2 := Lib.hid ((Hx1.out.below EnS.still hb2).weak EnS.still (S' := fun k => ((E k ∨ rowOf (.slice pv L.length cv) = some k) ∧ k < w1.heap.size) ∧ rowOf (.slice p2 ([] ++ L).length c2) ≠ some k) (fun k hk hS => ⟨⟨.inl hS.1, by rw [Hz1.out]; exact hS.2⟩, fun e => by rcases hn2 k e with e' | e'; (· simp [rowOf] at e'); (· have := hS.2; have := Hz1.out; omega)⟩)); have hc2 := (H1.out.still hb2).blk.cell; clear ho2 hg2 hn2 hb2)
    | (at_builtin; refine step_appendEn _ rfl (.tmp 23) (.tmp 24) rfl B (fun k => (E k ∨ rowOf (.slice pv L.length cv) = some k) ∧ k < w1.heap.size) (.slice p2 ([] ++ L).length c2) ([] ++ L) rfl Ho2.out p xs.length c xs rfl Hx2.out (by simp; omega) (by have := Hb2.out.size; have := Hz1.out; omega) ?_; intro v4 w4 ho4 hg4 hn4; obtain ⟨p4, c4, hv4, _⟩ := ho4.slice EnS.still (S' := fun _ => True) (fun _ _ _ => trivial) (fun _ _ => trivial); subst hv4; have hz := Hz1.out; have hzz := Hb2.out.size; have hr4 : ∀ k, rowOf (.slice p4 (([] ++ L) ++ xs).length c4) = some k → w.heap.size ≤ k := (fun k hk => by rcases hn4 k hk with e | e; (· rcases Hn2.out k e with e' | e'; (· simp [rowOf] at e'); (· omega)); (· omega)); have hb4 : Below w.heap.size w w4 := (Hd.out.trans (Hb2.out.mono (by omega))).trans (Below.of_row hg4 (by omega) (fun k hk => by rcases Hn2.out k hk with e' | e'; (· simp [rowOf] at e'); (· omega))); have hpe := H.out.renew hb4 ho4 hr4 (fun k _ hE => hE.1.elim .inl (fun e => .inr (.inl e))) (fun hE => hE.1.elim H.out.noE H.out.no) (fun x hx => by rcases List.mem_append.1 hx with hx | hx; (· exact H.out.small x (by simpa using hx)); (· exact Hs.out x hx)) (by simp; omega); have hc4 := hpe.1.cell; have hf4 := hpe.1.frozen; have HP := Lib.hid hpe.2; have HR4 := Lib.hid hr4; clear ho4 hg4 hn4 hpe hr4 hb4))
  go_ret
  have hP := HP.out
  have hR := HR4.out
  simp only [List.nil_append, List.length_append] at hP hR
  exact ⟨rfl, _, hP.1, fun k hk => .inr (hR k hk), hP.2.mono (fun _ _ e => .inl e)⟩

end Go.Proofs.Ytjfhpafaopeogaa
