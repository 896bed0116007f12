/-
  A queue in memory (layer 21): New, Len, List, Head, Push.
-/
import Derived.Test.YtjfhpafaopeogaaQuB
namespace Go.Proofs.Ytjfhpafaopeogaa
open Go.RowKit
set_option linter.unusedVariables false
set_option linter.unusedSimpArgs false

theorem SliceS.take' {α : Type} {n : Nat} {R : Rd α} {S : Nat → Prop} {w : World} {p : Option Addr} {m c : Nat} {xs : List α} (h : SliceS n R S w [.slice p m c] xs) (k c' : Nat) (hk : k ≤ xs.length) (h1 : k ≤ c') (h2 : c' ≤ maxLen) : SliceS n R S w [.slice p k c'] (xs.take k) := by
  obtain ⟨p', c0, css, e, _, _, h4, h5⟩ := h
  simp only [List.cons.injEq, Value.slice.injEq, and_true] at e
  obtain ⟨rfl, rfl, rfl⟩ := e
  have hlen : (xs.take k).length = k := by rw [List.length_take]; omega
  refine ⟨p, c', css.take k, by rw [hlen], by rw [hlen]; exact h1, h2, ?_, All2.take h5 k⟩
  rw [ElemsS.take h5 k]
  exact h4.take _

theorem SliceS.drop' {α : Type} {n : Nat} {R : Rd α} {S : Nat → Prop} {w : World} {b o m c : Nat} {xs : List α} (h : SliceS n R S w [.slice (some ⟨b, o, none⟩) m c] xs) (k : Nat) (hk : k ≤ xs.length) : SliceS n R S w [.slice (some ⟨b, o + k * n, none⟩) (xs.length - k) (c - k)] (xs.drop k) := by
  obtain ⟨p', c0, css, e, h2, h3, h4, h5⟩ := h
  simp only [List.cons.injEq, Value.slice.injEq, and_true] at e
  obtain ⟨rfl, rfl, rfl⟩ := e
  have hlen : (xs.drop k).length = xs.length - k := List.length_drop
  refine ⟨_, c - k, css.drop k, by rw [hlen], by rw [hlen]; omega, by omega, ?_, All2.drop h5 k⟩
  rcases ElemsS.drop h5 k with e | e
  · rw [e]
    exact h4.drop _
  · omega

theorem SliceS.empty {α : Type} {n : Nat} {R : Rd α} {S : Nat → Prop} {w : World} (p : Option Addr) (c : Nat) (hc : c ≤ maxLen) : SliceS n R S w [.slice p 0 c] [] :=
  ⟨p, c, [], rfl, Nat.zero_le _, hc, CellsIn.nil, trivial⟩

/-- A queue in memory: its struct in block sb, its entries in a row of the call's own; they lean on the blocks of E. -/
structure QO (t : TypeId) (B : Nat) (w : World) (sb : Nat) (E : Nat → Prop) (L : List EnV) (most : Nat) (v : Value) : Prop where
  blk : Blk w sb t #[v, .int .i64 (most : Int)]
  own : OwnEn B E w v L
  sB : B ≤ sb
  no : rowOf v ≠ some sb
  noE : ¬ E sb
  small : ∀ x ∈ L, EnSmall x
  len : L.length ≤ most
  lim : most ≤ 4096

/-- What a queue may lean on behind a step. -/
def gE (E : Nat → Prop) (v : Value) (w w' : World) : Nat → Prop := fun k => E k ∨ rowOf v = some k ∨ (w.heap.size ≤ k ∧ k < w'.heap.size)
/-- What a step on a queue may turn. -/
abbrev QT (sb : Nat) (v : Value) (w w' : World) : Prop := Touch (fun i => i = sb ∨ rowOf v = some i) w w'

section
variable {t : TypeId} {B : Nat} {w w' : World} {sb : Nat} {E E' : Nat → Prop} {L : List EnV} {most : Nat} {v : Value}
theorem QO.touch {p : Nat → Prop} (h : QO t B w sb E L most v) (ht : Touch p w w') (h1 : ¬ p sb) (h2 : ∀ k, rowOf v = some k → ¬ p k) (h3 : ∀ k, k < w.heap.size → E k → rowOf v ≠ some k → ¬ p k) : QO t B w' sb E L most v :=
  ⟨ht.blk h.blk h1, h.own.touch EnS.still ht h2 (fun k hk hs hr => ⟨hs, h3 k hk hs hr⟩), h.sB, h.no, h.noE, h.small, h.len, h.lim⟩
theorem QO.still (h : QO t B w sb E L most v) (hb : Below w.heap.size w w') : QO t B w' sb E L most v :=
  h.touch (Touch.of_below (p := fun _ => False) hb) (fun e => e) (fun _ _ e => e) (fun _ _ _ _ e => e)
theorem QO.weak (h : QO t B w sb E L most v) (hE : ∀ k, k < w.heap.size → E k → E' k) (hn : ¬ E' sb) : QO t B w sb E' L most v :=
  ⟨h.blk, h.own.touch EnS.still (Touch.refl (fun _ => False) w) (fun _ _ e => e) (fun k hk hs _ => ⟨hE k hk hs, fun e => e⟩), h.sB, h.no, hn, h.small, h.len, h.lim⟩
theorem QO.slice (h : QO t B w sb E L most v) : ∃ p c, v = .slice p L.length c ∧ SliceS 8 EnS (fun k => E k ∨ rowOf v = some k) w [.slice p L.length c] L := by
  obtain ⟨p, c, e, hs⟩ := h.own.slice EnS.still (S' := fun k => E k ∨ rowOf v = some k) (fun _ _ h => .inl h) (fun _ h => .inr h)
  exact ⟨p, c, e, hs⟩
/-- New entries. -/
theorem QO.set {L' : List EnV} {v' : Value} (h : Blk w sb t #[v, .int .i64 (most : Int)]) (hB : B ≤ sb) (ho : OwnEn B E w v' L') (hn : rowOf v' ≠ some sb) (hE : ¬ E sb) (hs : ∀ x ∈ L', EnSmall x) (hl : L'.length ≤ most) (hm : most ≤ 4096) : QO t B (w.setCell ⟨sb, 0, none⟩ v') sb E L' most v' := by
  have hT : Touch (fun i => i = sb) w (w.setCell ⟨sb, 0, none⟩ v') := (Touch.refl (fun i => i = sb) w).setCell (x := ⟨sb, 0, none⟩) (fun _ => rfl) _
  exact ⟨by simpa using h.set_ 0 v', ho.touch EnS.still hT (fun k hk e => hn (by rw [hk, e])) (fun k _ hs _ => ⟨hs, fun e => hE (by rw [← e]; exact hs)⟩), hB, hn, hE, hs, hl, hm⟩
end

theorem qLen_nil (w : World) : Calls Try.prog 67 #[.pointer none] w fun e w' => e = .returned (.int .i64 0) ∧ w = w' := by
  go_enter Try.func67, Try.ntmps67
  go_wp2
  go_ret
  exact ⟨rfl, rfl⟩

theorem qLen_any (t : TypeId) (B sb : Nat) (E : Nat → Prop) (L : List EnV) (most : Nat) (v : Value) (w : World) (h : QO t B w sb E L most v) :
    Calls Try.prog 67 #[.pointer (some ⟨sb, 0, none⟩)] w fun e w' => e = .returned (.int .i64 (L.length : Nat)) ∧ w = w' := by
  obtain ⟨p, c, rfl, _⟩ := h.slice
  have hc := h.blk.cell
  clear h
  go_enter Try.func67, Try.ntmps67
  go_wp2
  go_ret
  exact ⟨rfl, rfl⟩

theorem qNew_ok (most : Nat) (w : World) (h1 : 1 ≤ most) (h2 : most ≤ 4096) :
    Calls Try.prog 30 #[.int .i64 (most : Int)] w fun e w' =>
      e = .returned (.tuple #[.pointer (some ⟨w.heap.size, 0, none⟩), .int .i64 0]) ∧ QO 126 w.heap.size w' w.heap.size (fun _ => False) [] most (.slice none 0 0) ∧ Below w.heap.size w w' := by
  have Hend : Hid (QO 126 w.heap.size (w.alloc (.cells #[.slice none 0 0, .int .i64 (most : Int)] 126)) w.heap.size (fun _ => False) [] most (.slice none 0 0)) :=
    Lib.hid ⟨Blk.new _ _ _, OwnS.empty _, Nat.le_refl _, by simp [rowOf], fun e => e, fun x hx => by simp at hx, by simp, h2⟩
  go_enter Try.func30, Try.ntmps30
  go_wp2
  go_ret2
  exact ⟨rfl, Hend.out, (Below.refl _ _).alloc (Nat.le_refl _) _⟩

theorem qNew_bad (most : Int) (w : World) (h : most < 1 ∨ 4096 < most) :
    Calls Try.prog 30 #[.int .i64 most] w fun e w' => e = .returned (.tuple #[.pointer none, .int .i64 1]) ∧ w = w' := by
  rcases h with h | h
  · go_enter Try.func30, Try.ntmps30
    go_wp2
    go_ret2
    exact ⟨rfl, rfl⟩
  · have h' : ¬ most < 1 := by omega
    go_enter Try.func30, Try.ntmps30
    go_wp2
    go_ret2
    exact ⟨rfl, rfl⟩

theorem qList_nil (w : World) : Calls Try.prog 43 #[.pointer none] w fun e w' => e = .returned (.slice none 0 0) ∧ w = w' := by
  go_enter Try.func43, Try.ntmps43
  go_wp2
  go_ret
  exact ⟨rfl, rfl⟩

theorem qList_any (t : TypeId) (B sb : Nat) (E : Nat → Prop) (L : List EnV) (most : Nat) (v : Value) (w : World) (h : QO t B w sb E L most v) :
    Calls Try.prog 43 #[.pointer (some ⟨sb, 0, none⟩)] w fun e w' => ∃ v, e = .returned v ∧ OwnEn w.heap.size (fun k => w.heap.size ≤ k) w' v L ∧ Below w.heap.size w w' := by
  obtain ⟨p, c, rfl, hs⟩ := h.slice
  have hc := h.blk.cell
  have Ha := Lib.hid (all_any _ p L.length c L w hs h.small (by have := h.len; have := h.lim; omega))
  clear h hs
  go_enter Try.func43, Try.ntmps43
  go_wp2_with (go_at_call 68; refine Ha.out.mono ?_; rintro e w1 ⟨v1, rfl, ho1, hb1⟩; have Ho1 := Lib.hid ho1; have Hb1 := Lib.hid hb1; obtain ⟨p1, c1, rfl, _⟩ := ho1.slice EnS.still (S' := fun _ => True) (fun _ _ _ => trivial) (fun _ _ => trivial); clear ho1 hb1)
  go_ret
  exact ⟨_, rfl, Ho1.out, Hb1.out⟩

def enZero : EnV := ⟨0, false, ⟨#[]⟩, ⟨#[]⟩, [], [], [], []⟩

end Go.Proofs.Ytjfhpafaopeogaa
