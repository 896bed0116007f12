/-
  The contracts of remudaref03 (layer 3): New, Num, Take, Left, Done.
-/
import Derived.Test.YtjfhpafaopeogaaScanC
namespace Go.Proofs.Ytjfhpafaopeogaa
open Go.RowKit

/-- The document's scan in memory. -/
def RefS (w : World) (xb g : Nat) (L : List UInt8) (no : Bool) : Prop :=
  ∃ p c, Blk w xb 183 #[.slice p L.length c, .bool no] ∧ L.length ≤ c ∧ c ≤ maxLen ∧ BytesIn w p L ∧ (∀ x, p = some x → x.block = g) ∧ (L ≠ [] → g ≠ xb) ∧ (p = none → c = 0)

theorem RefS.touch {w w' : World} {xb g : Nat} {L : List UInt8} {no : Bool} {p : Nat → Prop} (h : RefS w xb g L no) (ht : Touch p w w') (h1 : ¬ p xb) (h2 : L ≠ [] → ¬ p g) : RefS w' xb g L no := by
  obtain ⟨q, c, hb, h3, h4, h5, h6, h7, h8⟩ := h
  exact ⟨q, c, ht.blk hb h1, h3, h4, ht.bytesIn h5 (fun hne x hx => by rw [h6 x hx]; exact h2 hne), h6, h7, h8⟩

theorem RefS.lt {w : World} {xb g : Nat} {L : List UInt8} {no : Bool} (h : RefS w xb g L no) : xb < w.heap.size := by
  obtain ⟨q, c, hb, _⟩ := h
  exact hb.lt

theorem refSNew_any (p : Option Addr) (l : List UInt8) (cap : Nat) (w : World) (hl : l.length ≤ 1000000000) (hb : BytesIn w p l) :
    Calls Try.prog 92 #[.slice p l.length cap] w fun e w' =>
      ∃ xb g, e = .returned (.pointer (some ⟨xb, 0, none⟩)) ∧ RefS w' xb g l false ∧ w.heap.size ≤ xb ∧ w.heap.size ≤ g ∧ Touch (fun _ => False) w w' := by
  have Hb := Lib.hid hb
  clear hb
  go_enter Try.func92, Try.ntmps92
  go_wp2_with (at_builtin; refine step_appendB' _ rfl (.const (.slice none 0 0)) (.tmp 3) rfl w.heap.size (.slice none 0 0) [] rfl (OwnB.none _ _) p l l.length cap rfl rfl Hb.out (by simp; omega) (Nat.le_refl _) ?_; intro v w1 ho hg hn; rw [List.nil_append] at ho; have Ho := Lib.hid ho; have Ht1 : Hid (Touch (fun _ => False) w w1) := Lib.hid ((Touch.of_grown hg).mono (fun k _ e => by simp [Value.ownBlock] at e)); have hs1 := Ht1.out.size; clear ho hg hn; obtain ⟨p2, n2, c2, rfl⟩ : ∃ p n c, v = .slice p n c := (by obtain ⟨p, c, h, _⟩ := Ho.out.slice; exact ⟨p, _, c, h⟩))
  go_ret
  obtain ⟨p', c', e, k1, k2, k3⟩ := Ho.out.slice
  simp only [Value.slice.injEq] at e
  obtain ⟨rfl, rfl, rfl⟩ := e
  rcases Ho.out.2 with ⟨e, h0⟩ | ⟨g, cap', cur, e, h1, h2, h3, h4, _⟩
  · simp only [Value.slice.injEq] at e
    obtain ⟨rfl, -, rfl⟩ := e
    have hl0 : l = [] := List.eq_nil_of_length_eq_zero h0
    subst hl0
    exact ⟨_, w.heap.size, rfl, ⟨none, 0, Blk.new _ _ _, Nat.le_refl _, by simp [maxLen], BytesIn.nil _ _, (by simp), fun h => absurd rfl h, fun _ => rfl⟩, hs1, Nat.le_refl _, Ht1.out.alloc _⟩
  · simp only [Value.slice.injEq] at e
    obtain ⟨rfl, -, rfl⟩ := e
    have hgl : g < w1.heap.size := (Ho.out.lt g rfl).2
    exact ⟨_, g, rfl, ⟨some ⟨g, 0, none⟩, c2, Blk.new _ _ _, k1, k2, k3.alloc _, (by simp), fun _ => by omega, (by simp)⟩, hs1, h1, Ht1.out.alloc _⟩

theorem refSDone_any (xb g : Nat) (L : List UInt8) (no : Bool) (w : World) (h : RefS w xb g L no) :
    Calls Try.prog 95 #[.pointer (some ⟨xb, 0, none⟩)] w fun e w' => e = .returned (.bool (!no && L.isEmpty)) ∧ w = w' := by
  obtain ⟨p, c, hb, _⟩ := h
  have hc := hb.cell
  clear hb
  generalize hm : L.isEmpty = em
  have he : ((L.length : Int) == 0) = em := by rw [← hm]; cases L <;> simp; omega
  have He := Lib.hid he
  clear hm he
  cases no
  · go_enter Try.func95, Try.ntmps95
    go_wp2
    go_ret
    refine ⟨ret_bool ?_, rfl⟩
    have := He.out
    simpa using this
  · go_enter Try.func95, Try.ntmps95
    go_wp2
    go_ret
    exact ⟨rfl, rfl⟩

end Go.Proofs.Ytjfhpafaopeogaa
