/-
  Both queues side by side (layer 21); the calls' reading; few.
-/
import Derived.Test.YtpdkoijgemgaiaaQuS
namespace Go.Proofs.Ytpdkoijgemgaiaa
open Go.RowKit
set_option linter.unusedVariables false
set_option linter.unusedSimpArgs false

/-- The program's queue and the document's, beside each other. -/
structure Pair (B : Nat) (w : World) (qb xb : Nat) (Eq Ex : Nat → Prop) (Lq Lx : List EnV) (most : Nat) (vq vx : Value) : Prop where
  q : QO 30 B w qb Eq Lq most vq
  x : QO 81 B w xb Ex Lx most vx
  bq : ∀ k, Eq k → k < w.heap.size
  bx : ∀ k, Ex k → k < w.heap.size
  d1 : ∀ k, (Eq k ∨ k = qb ∨ rowOf vq = some k) → k ≠ xb ∧ rowOf vx ≠ some k
  d2 : ∀ k, (Ex k ∨ k = xb ∨ rowOf vx = some k) → k ≠ qb ∧ rowOf vq ≠ some k
  args : ∀ k, k < B → Ex k
  base : B ≤ w.heap.size

section
variable {B : Nat} {w w' : World} {qb xb : Nat} {Eq Ex : Nat → Prop} {Lq Lx L' : List EnV} {most : Nat} {vq vx v' : Value}
theorem Pair.still (h : Pair B w qb xb Eq Ex Lq Lx most vq vx) (hb : Below w.heap.size w w') : Pair B w' qb xb Eq Ex Lq Lx most vq vx := by
  have hz := hb.size
  exact ⟨h.q.still hb, h.x.still hb, fun k hk => by have := h.bq k hk; omega, fun k hk => by have := h.bx k hk; omega, h.d1, h.d2, h.args, by have := h.base; omega⟩

theorem Pair.stepq (h : Pair B w qb xb Eq Ex Lq Lx most vq vx) (hq : QO 30 B w' qb (gE Eq vq w w') L' most v') (hr : ∀ k, rowOf v' = some k → rowOf vq = some k ∨ w.heap.size ≤ k) (hT : QT qb vq w w') :
    Pair B w' qb xb (gE Eq vq w w') Ex L' Lx most v' vx := by
  have hz := hT.size
  have hxb := h.x.blk.lt
  have hqb := h.q.blk.lt
  refine ⟨hq, h.x.touch hT ?_ ?_ ?_, ?_, fun k hk => by have := h.bx k hk; omega, ?_, ?_, h.args, by have := h.base; omega⟩
  · rintro (e | e)
    · exact (h.d2 xb (.inr (.inl rfl))).1 e
    · exact (h.d2 xb (.inr (.inl rfl))).2 e
  · intro k hk e
    have := h.d2 k (.inr (.inr hk))
    rcases e with e | e
    · exact this.1 e
    · exact this.2 e
  · intro k _ hk _ e
    have := h.d2 k (.inl hk)
    rcases e with e | e
    · exact this.1 e
    · exact this.2 e
  · rintro k (e | e | e)
    · have := h.bq k e; omega
    · have := (h.q.own.row k e).2; omega
    · exact e.2
  · have hnew : ∀ k, w.heap.size ≤ k → k ≠ xb ∧ rowOf vx ≠ some k := fun k hk => ⟨by omega, fun e => by have := (h.x.own.row k e).2; omega⟩
    rintro k ((e | e | e) | e | e)
    · exact h.d1 k (.inl e)
    · exact h.d1 k (.inr (.inr e))
    · exact hnew k e.1
    · exact h.d1 k (.inr (.inl e))
    · rcases hr k e with e' | e'
      · exact h.d1 k (.inr (.inr e'))
      · exact hnew k e'
  · intro k hk
    have hlt : k < w.heap.size := by
      rcases hk with e | e | e
      · exact h.bx k e
      · omega
      · exact (h.x.own.row k e).2
    have := h.d2 k hk
    refine ⟨this.1, fun e => ?_⟩
    rcases hr k e with e' | e'
    · exact this.2 e'
    · omega

theorem Pair.stepx (h : Pair B w qb xb Eq Ex Lq Lx most vq vx) (hx : QO 81 B w' xb (gE Ex vx w w') L' most v') (hr : ∀ k, rowOf v' = some k → rowOf vx = some k ∨ w.heap.size ≤ k) (hT : QT xb vx w w') :
    Pair B w' qb xb Eq (gE Ex vx w w') Lq L' most vq v' := by
  have hz := hT.size
  have hxb := h.x.blk.lt
  have hqb := h.q.blk.lt
  refine ⟨h.q.touch hT ?_ ?_ ?_, hx, fun k hk => by have := h.bq k hk; omega, ?_, ?_, ?_, fun k hk => .inl (h.args k hk), by have := h.base; omega⟩
  · rintro (e | e)
    · exact (h.d1 qb (.inr (.inl rfl))).1 e
    · exact (h.d1 qb (.inr (.inl rfl))).2 e
  · intro k hk e
    have := h.d1 k (.inr (.inr hk))
    rcases e with e | e
    · exact this.1 e
    · exact this.2 e
  · intro k _ hk _ e
    have := h.d1 k (.inl hk)
    rcases e with e | e
    · exact this.1 e
    · exact this.2 e
  · rintro k (e | e | e)
    · have := h.bx k e; omega
    · have := (h.x.own.row k e).2; omega
    · exact e.2
  · intro k hk
    have hlt : k < w.heap.size := by
      rcases hk with e | e | e
      · exact h.bq k e
      · omega
      · exact (h.q.own.row k e).2
    have := h.d1 k hk
    refine ⟨this.1, fun e => ?_⟩
    rcases hr k e with e' | e'
    · exact this.2 e'
    · omega
  · have hnew : ∀ k, w.heap.size ≤ k → k ≠ qb ∧ rowOf vq ≠ some k := fun k hk => ⟨by omega, fun e => by have := (h.q.own.row k e).2; omega⟩
    rintro k ((e | e | e) | e | e)
    · exact h.d2 k (.inl e)
    · exact h.d2 k (.inr (.inr e))
    · exact hnew k e.1
    · exact h.d2 k (.inr (.inl e))
    · rcases hr k e with e' | e'
      · exact h.d2 k (.inr (.inr e'))
      · exact hnew k e'

theorem Pair.belowq (h : Pair B w qb xb Eq Ex Lq Lx most vq vx) (hT : QT qb vq w w') : Below B w w' := h.q.below hT h.base
theorem Pair.belowx (h : Pair B w qb xb Eq Ex Lq Lx most vq vx) (hT : QT xb vx w w') : Below B w w' := h.x.below hT h.base
end

/-- A call of the statement. -/
structure QDoV where
  op : Int
  ents : List EnV
def QDoS : Rd QDoV := fun S w cs x => ∃ p c, cs = [.int .i64 x.op, .slice p x.ents.length c] ∧ SliceS 8 EnS S w [.slice p x.ents.length c] x.ents
theorem QDoS.still : Still QDoS := by
  rintro S S' w w' cs x ⟨p, c, rfl, h⟩ hk
  exact ⟨p, c, rfl, (SliceS.still EnS.still) _ _ _ _ _ _ h hk⟩
theorem opensS_qdo : OpensS Try.prog 77 QDoS := by
  intro H enc w base spare held fuel cs x h
  have S : StructOf Try.prog 77 _ := ⟨Try.underlying77, by kernel_rfl, by kernel_rfl⟩
  have hl := S.len h
  match cs, hl with
  | [c0, c1], _ =>
    obtain ⟨y0, e0, _⟩ := S.field h 0 _ rfl c0 rfl (opens_int Try.underlying3)
    obtain ⟨y1, h1⟩ := S.field h 1 _ rfl c1 rfl opensS_ens
    obtain ⟨p, c, rfl⟩ := SliceS.shape h1
    simp only [List.cons.injEq, and_true] at e0
    subst e0
    exact ⟨⟨y0, y1⟩, p, c, rfl, h1⟩
theorem opensS_qdos : OpensS Try.prog 71 (SliceS 2 QDoS) := opensS_slice Try.underlying71 (by kernel_rfl) (by omega) opensS_qdo

theorem qdo_at {S : Nat → Prop} {w : World} {p : Option Addr} {n c k : Nat} {xs : List QDoV} (h : SliceS 2 QDoS S w [.slice p n c] xs) (hk : k < xs.length) :
    ∃ b o q d, p = some ⟨b, o, none⟩ ∧ S b ∧ b < w.heap.size ∧ SliceS 8 EnS S w [.slice q xs[k].ents.length d] xs[k].ents ∧
      w.cell? ⟨b, o + k * 2, none⟩ = some (.int .i64 xs[k].op) ∧ w.cell? ⟨b, o + k * 2 + 1, none⟩ = some (.slice q xs[k].ents.length d) := by
  obtain ⟨b, o, cs, rfl, hS, hb, _, hc, q, d, rfl, hl⟩ := h.elem (by omega) k xs[k] (List.getElem?_eq_getElem hk)
  have c0 := hc 0 _ rfl
  rw [Nat.add_zero] at c0
  exact ⟨b, o, q, d, rfl, hS, hb, hl, c0, hc 1 _ rfl⟩

def QFew (l : List QDoV) : Prop := ∀ k ∈ l, k.ents.length ≤ 6 ∧ ∀ x ∈ k.ents, EnFew x

set_option maxRecDepth 100000 in
set_option maxHeartbeats 4000000 in
theorem qFew_any (S : Nat → Prop) (p : Option Addr) (n c : Nat) (l : List QDoV) (w : World) (h : SliceS 2 QDoS S w [.slice p n c] l) :
    Calls Try.prog 48 #[.slice p n c] w fun e w' => ∃ b, e = .returned (.bool b) ∧ (b = true → QFew l) ∧ Below w.heap.size w w' := by
  have H := Lib.hid ((SliceS.weak QDoS.still h (S' := fun k => k < w.heap.size) (fun k hk _ => hk)))
  obtain ⟨rfl, hlc, hcm⟩ := h.len
  unfold maxLen at hcm
  clear h
  go_enter Try.func48, Try.ntmps48
  go_wp2_with fail
  go_loopw [7] (fun i wr => ∃ k : Nat, k ≤ l.length ∧ i = .int .i64 k ∧ QFew (l.take k) ∧ Below w.heap.size w wr) (fun i _ => l.length - (intOf i).toNat)
  case atStart => exact ⟨0, Nat.zero_le _, rfl, fun x hx => by simp at hx, Below.refl _ _⟩
  case round =>
    obtain ⟨k, hk, rfl, hf, hb⟩ := hrel
    have Hf := Lib.hid hf
    have Hb := Lib.hid hb
    have hbs := hb.size
    clear hf hb
    by_cases hlt : k < l.length
    · obtain ⟨b, o, q, d, rfl, hS, hbl, hs, c0, c1⟩ := qdo_at (SliceS.below QDoS.still H.out Hb.out) hlt
      have Htk := Lib.hid (show l.take (k + 1) = l.take k ++ [l[k]] by rw [List.take_succ_eq_append_getElem hlt])
      have hal := (Below.refl wr.heap.size wr).alloc (Nat.le_refl _) (.cells #[.int .i64 l[k].op, .slice q l[k].ents.length d] 77)
      have HE := Lib.hid (entries_any _ _ _ _ _ 6 _ (hs.below EnS.still hal))
      have Hb2 := Lib.hid (Hb.out.trans (hal.mono hbs))
      clear hs hal hS
      generalize l[k] = x at *
      obtain ⟨xo, xe⟩ := x
      dsimp only at *
      have hlti : (k : Int) < (l.length : Int) := by omega
      by_cases h40 : (40 : Int) ≤ (k : Int)
      · go_wp2_with fail
        go_ret
        exact ⟨false, rfl, (fun e => by simp at e), Hb2.out⟩
      · go_wp2_with fail
        refine HE.out.mono ?_
        rintro e w2 ⟨bb, rfl, hfe, hb2⟩
        have Hb3 := Lib.hid (Hb2.out.trans (hb2.mono (by simp; omega)))
        have Hfe := Lib.hid hfe
        clear hfe hb2
        cases bb with
        | false =>
          go_wp2_with fail
          go_ret
          exact ⟨false, rfl, (fun e => by simp at e), Hb3.out⟩
        | true =>
          have Hf2 : Hid (QFew (l.take (k + 1))) := Lib.hid (by
            rw [Htk.out]
            intro y hy
            rcases List.mem_append.1 hy with hy | hy
            · exact Hf.out y hy
            · rw [List.mem_singleton.1 hy]
              exact Hfe.out rfl)
          go_wp2_with fail
          go_roundw
          case rel => exact ⟨k + 1, by omega, by go_num, Hf2.out, Hb3.out⟩
          case measure => simp [intOf]; omega
    · obtain rfl : k = l.length := by omega
      rw [List.take_length] at Hf
      go_wp2
      go_ret
      exact ⟨true, rfl, fun _ => Hf.out, Hb.out⟩

end Go.Proofs.Ytpdkoijgemgaiaa
