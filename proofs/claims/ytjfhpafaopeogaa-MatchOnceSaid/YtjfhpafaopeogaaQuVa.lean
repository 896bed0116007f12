/-
  A call on one of the two queues, the other beside it (layer 21).
-/
import Derived.Test.YtjfhpafaopeogaaQuPr
import Derived.Test.YtjfhpafaopeogaaQuRA
namespace Go.Proofs.Ytjfhpafaopeogaa
open Go.RowKit
set_option linter.unusedVariables false
set_option linter.unusedSimpArgs false

theorem qAll_empty (p : Option Addr) (c : Nat) (w : World) : Calls Try.prog 68 #[.slice p 0 c] w fun e w' => e = .returned (.slice none 0 0) ∧ w' = w := by
  go_enter Try.func68, Try.ntmps68
  go_wp2_with fail
  refine wp_loop_rounds 1 ?_
  rw [rounds_succ]
  go_wp2
  go_ret
  exact ⟨rfl, rfl⟩

theorem qList_empty (sb : Nat) (p : Option Addr) (c : Nat) (m : Value) (w : World) (h : ∀ i, w.cell? ⟨sb, i, none⟩ = (#[.slice p 0 c, m] : Array Value)[i]?) :
    Calls Try.prog 43 #[.pointer (some ⟨sb, 0, none⟩)] w fun e w' => e = .returned (.slice none 0 0) ∧ w' = w := by
  have Ha := Lib.hid (qAll_empty p c w)
  go_enter Try.func43, Try.ntmps43
  go_wp2_with (go_at_call 68; refine Ha.out.mono ?_; rintro e w1 ⟨rfl, rfl⟩)
  go_ret
  exact ⟨rfl, rfl⟩

theorem qLen_empty (sb : Nat) (p : Option Addr) (c : Nat) (m : Value) (w : World) (h : ∀ i, w.cell? ⟨sb, i, none⟩ = (#[.slice p 0 c, m] : Array Value)[i]?) :
    Calls Try.prog 67 #[.pointer (some ⟨sb, 0, none⟩)] w fun e w' => e = .returned (.int .i64 0) ∧ w' = w := by
  go_enter Try.func67, Try.ntmps67
  go_wp2
  go_ret
  exact ⟨rfl, rfl⟩

theorem rAll_empty (p q : Option Addr) (c d : Nat) (w : World) : Calls Try.prog 38 #[.slice p 0 c, .slice q 0 d] w fun e w' => e = .returned (.bool true) ∧ w' = w := by
  go_enter Try.func38, Try.ntmps38
  go_wp2_with fail
  refine wp_loop_rounds 1 ?_
  rw [rounds_succ]
  go_wp2
  go_ret
  exact ⟨rfl, rfl⟩

def pushL (L xs : List EnV) (most : Nat) : List EnV := if L.length + xs.length ≤ most then L ++ xs else L
def pushZ (L xs : List EnV) (most : Nat) : Int := if L.length + xs.length ≤ most then 0 else 6
def popX : List EnV → EnV
  | [] => enZero
  | x :: _ => x
def popB : List EnV → Bool
  | [] => false
  | _ :: _ => true
def popL : List EnV → List EnV
  | [] => []
  | _ :: L => L

theorem enL_zero (S : Nat → Prop) (w : World) : EnL S w enZero enZeroP := enZero_l S w 0

section
variable {B : Nat} {w : World} {qb xb : Nat} {Eq Ex : Nat → Prop} {L Lx xs : List EnV} {most : Nat} {vq vx : Value}

theorem QT.of_below {sb : Nat} {v : Value} {w w' : World} (hb : Below w.heap.size w w') : QT sb v w w' := Touch.of_below hb

theorem pair_push_q (h : Pair B w qb xb Eq Ex L Lx most vq vx) {S : Nat → Prop} {p : Option Addr} {n c : Nat} (hx : SliceS 8 EnS S w [.slice p n c] xs) (hs : ∀ x ∈ xs, EnSmall x) (hm : 1 ≤ most) :
    Calls Try.prog 31 #[.pointer (some ⟨qb, 0, none⟩), .slice p n c] w fun e w' => e = .returned (.int .i64 (pushZ L xs most)) ∧ ∃ Eq' vq', Pair B w' qb xb Eq' Ex (pushL L xs most) Lx most vq' vx ∧ QT qb vq w w' := by
  have hn := hx.len.1
  unfold pushZ pushL
  by_cases hf : L.length + xs.length ≤ most
  · rw [if_pos hf, if_pos hf]
    refine (qPush_ok B qb Eq S L xs most vq p n c w h.q hx hs (by omega) hm h.base).mono ?_
    rintro e w' ⟨rfl, v', hq, hr, hT⟩
    exact ⟨rfl, _, _, h.stepq hq hr hT, hT⟩
  · rw [if_neg hf, if_neg hf]
    refine (qPush_full B qb Eq L most vq p n c w h.q (by omega) hm).mono ?_
    rintro e w' ⟨rfl, r, rfl⟩
    have hb := bel_drewN w r _ (Nat.le_refl _)
    exact ⟨rfl, _, _, h.still hb, Touch.of_below hb⟩

theorem pair_push_x (h : Pair B w qb xb Eq Ex L Lx most vq vx) {p : Option Addr} {n c : Nat} (hx : SliceS 8 EnS (fun k => k < B) w [.slice p n c] xs) (hs : ∀ x ∈ xs, EnSmall x) :
    Calls Try.prog 37 #[.pointer (some ⟨xb, 0, none⟩), .slice p n c] w fun e w' => e = .returned (.int .i64 (pushZ Lx xs most)) ∧ ∃ Ex' vx', Pair B w' qb xb Eq Ex' L (pushL Lx xs most) most vq vx' ∧ QT xb vx w w' := by
  have hn := hx.len.1
  unfold pushZ pushL
  by_cases hf : Lx.length + xs.length ≤ most
  · rw [if_pos hf, if_pos hf]
    refine (rPush_ok B xb Ex _ Lx xs most vx p n c w h.x hx (fun k _ hk => h.args k hk) hs (by omega) h.base).mono ?_
    rintro e w' ⟨rfl, v', hq, hr, hT⟩
    exact ⟨rfl, _, _, h.stepx hq hr hT, hT⟩
  · rw [if_neg hf, if_neg hf]
    refine (rPush_full B xb Ex Lx most vx p n c w h.x (by omega)).mono ?_
    rintro e w' ⟨rfl, r, rfl⟩
    have hb := bel_drewN w r _ (Nat.le_refl _)
    exact ⟨rfl, _, _, h.still hb, Touch.of_below hb⟩

theorem pair_pop_q (h : Pair B w qb xb Eq Ex L Lx most vq vx) :
    Calls Try.prog 73 #[.pointer (some ⟨qb, 0, none⟩)] w fun e w' => ∃ a G, e = .returned (.tuple #[enArg (popX L) a, .bool (popB L)]) ∧ EnL G w' (popX L) a ∧ (∀ k, G k → k ≠ xb ∧ rowOf vx ≠ some k) ∧ ∃ Eq' vq', Pair B w' qb xb Eq' Ex (popL L) Lx most vq' vx ∧ Below B w w' := by
  cases L with
  | nil =>
    refine (qPop_none (some ⟨qb, 0, none⟩) w (qLen_any _ _ _ _ _ _ _ _ (h.q.still ((Below.refl _ _).alloc (Nat.le_refl _) _)))).mono ?_
    rintro e w' ⟨rfl, hb⟩
    exact ⟨enZeroP, fun _ => False, rfl, enL_zero _ _, fun _ e => e.elim, _, _, h.still hb, hb.mono h.base⟩
  | cons x L =>
    refine (qPop_some B qb Eq x L most vq w h.q h.base).mono ?_
    rintro e w' ⟨a, v', rfl, hl, hq, hr, hT⟩
    have hT' : QT qb vq w w' := hT.mono (fun _ _ e => .inl e)
    refine ⟨a, _, rfl, hl, fun k hk => ?_, _, _, h.stepq hq (fun k hk => .inr (hr k hk)) hT', h.belowq hT'⟩
    rcases hk.1 with e | e
    · exact h.d1 k (.inl e)
    · exact h.d1 k (.inr (.inr e))

theorem pair_pop_x (h : Pair B w qb xb Eq Ex L Lx most vq vx) {y : EnV} {ay : EnP} {G : Nat → Prop} (hy : EnL G w y ay) (hG : ∀ k, G k → k ≠ xb ∧ rowOf vx ≠ some k) :
    Calls Try.prog 77 #[.pointer (some ⟨xb, 0, none⟩)] w fun e w' => ∃ a, e = .returned (.tuple #[enArg (popX Lx) a, .bool (popB Lx)]) ∧ EnL (fun _ => True) w' (popX Lx) a ∧ EnL G w' y ay ∧ ∃ Ex' vx', Pair B w' qb xb Eq Ex' L (popL Lx) most vq vx' ∧ QT xb vx w w' := by
  cases Lx with
  | nil =>
    refine (rPop_none B xb Ex most vx w h.x).mono ?_
    rintro e w' ⟨rfl, hb⟩
    exact ⟨enZeroP, rfl, enL_zero _ _, hy.keep (Kept.all hb), _, _, h.still hb, Touch.of_below hb⟩
  | cons x Lx =>
    refine (rPop_some B xb Ex x Lx most vx w h.x h.base).mono ?_
    rintro e w' ⟨a, rfl, hl, v', hq, hr, hT⟩
    refine ⟨a, rfl, hl, hy.keep (Kept.touch hT (fun k _ hk => ⟨hk, fun e => ?_⟩)), _, _, h.stepx hq hr hT, hT⟩
    rcases e with e | e
    · exact (hG k hk).1 e
    · exact (hG k hk).2 e

theorem pair_skip_q (h : Pair B w qb xb Eq Ex L Lx most vq vx) :
    Calls Try.prog 74 #[.pointer (some ⟨qb, 0, none⟩)] w fun e w' => ∃ p n c G, e = .returned (.slice p n c) ∧ SliceS 8 EnS G w' [.slice p n c] (L.take (ahead isSync L)) ∧ (∀ k, G k → k ≠ xb ∧ rowOf vx ≠ some k) ∧ ∃ Eq' vq', Pair B w' qb xb Eq' Ex (L.drop (ahead isSync L)) Lx most vq' vx ∧ Below B w w' := by
  refine (qSkip_any B qb Eq L most vq w h.q h.base).mono ?_
  rintro e w' ⟨p, v', rfl, hl, hq, hr, hT⟩
  have hT' : QT qb vq w w' := hT.mono (fun _ _ e => .inl e)
  refine ⟨p, _, _, _, rfl, hl, fun k hk => ?_, _, _, h.stepq hq (fun k hk => .inr (hr k hk)) hT', h.belowq hT'⟩
  rcases hk.1 with e | e
  · exact h.d1 k (.inl e)
  · exact h.d1 k (.inr (.inr e))

theorem pair_skip_x (h : Pair B w qb xb Eq Ex L Lx most vq vx) {ys : List EnV} {q : Option Addr} {m d : Nat} {G : Nat → Prop} (hy : SliceS 8 EnS G w [.slice q m d] ys) (hG : ∀ k, G k → k ≠ xb ∧ rowOf vx ≠ some k) :
    Calls Try.prog 79 #[.pointer (some ⟨xb, 0, none⟩)] w fun e w' => ∃ p n c, e = .returned (.slice p n c) ∧ SliceS 8 EnS (fun _ => True) w' [.slice p n c] (Lx.take (ahead isSync Lx)) ∧ SliceS 8 EnS G w' [.slice q m d] ys ∧ ∃ Ex' vx', Pair B w' qb xb Eq Ex' L (Lx.drop (ahead isSync Lx)) most vq vx' ∧ Below B w w' := by
  refine (rSkip_any B xb Ex Lx most vx w h.x h.base).mono ?_
  rintro e w' ⟨p, n, c, rfl, hl, v', hq, hr, hT⟩
  refine ⟨p, n, c, rfl, hl, (SliceS.still EnS.still) _ _ _ _ _ _ hy (Kept.touch hT (fun k _ hk => ⟨hk, fun e => ?_⟩)), _, _, h.stepx hq hr hT, h.belowx hT⟩
  rcases e with e | e
  · exact (hG k hk).1 e
  · exact (hG k hk).2 e
end

end Go.Proofs.Ytjfhpafaopeogaa
