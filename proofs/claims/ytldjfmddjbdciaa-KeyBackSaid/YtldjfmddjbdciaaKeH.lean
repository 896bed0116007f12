/-
  Statements as keys (layer 12): Split, the program's.
-/
import Derived.Test.YtldjfmddjbdciaaKeG
namespace Go.Proofs.Ytldjfmddjbdciaa
open Go.RowKit Go.Shelf
set_option linter.unusedVariables false
set_option linter.unusedSimpArgs false
attribute [local go_sem] Oper.semAt_some

theorem OwnR.of_owns {w : World} {base : Nat} {e : TypeId} {size : Nat} {v : Value} {n : Nat} {xs : List Value} (h : w.ownsRow base e size v n xs) : OwnR base e size w v n xs := by
  obtain ⟨h1, h2⟩ := h
  refine ⟨h1, ?_⟩
  rcases h2 with ⟨rfl, rfl⟩ | ⟨g, cap, cur, rfl, hb, hg, hn, hm, hc, ht⟩
  · exact .inl ⟨none, rfl, rfl⟩
  · by_cases h0 : cap = 0
    · subst h0
      obtain rfl : n = 0 := by omega
      exact .inl ⟨_, rfl, rfl⟩
    · exact .inr ⟨g, cap, cur, rfl, by omega, hb, hg, hn, hm, hc, ht⟩
theorem elems_ints : ∀ (S : Nat → Prop) (w : World) (l : List Int), ElemsS 1 IntU S w (l.map fun n => [Value.int .i64 n]) l
  | S, w, [] => trivial
  | S, w, n :: l => ⟨⟨rfl, rfl⟩, elems_ints S w l⟩
theorem flat_ints : ∀ l : List Int, (l.map fun n => [Value.int .i64 n]).flatten = l.map (Value.int .i64)
  | [] => rfl
  | n :: l => by rw [List.map_cons, List.flatten_cons, flat_ints l]; rfl
theorem OwnI.of_owns {w : World} {base : Nat} {v : Value} {l : List Int} (h : w.ownsRow base 3 1 v l.length (l.map (Value.int .i64))) : OwnS base 3 1 IntU (fun _ => False) w v l := by
  have := OwnR.of_owns h
  refine ⟨l.map fun n => [Value.int .i64 n], ?_, elems_ints _ _ _⟩
  rw [flat_ints l]
  exact this

/-- What holds between two rounds. -/
structure SpQ (w0 : World) (B0 g : Nat) (T : ByteArray) (L : List UInt8) (l : List Int) (W : World) : Prop where
  r : Blk W w0.heap.size 24 #[.string ⟨#[]⟩, .slice none 0 0]
  y : BytesIn W (some ⟨w0.heap.size + 1, 0, none⟩) L
  s : ∃ u, Blk W g 24 #[.string T, u] ∧ W.ownsRow B0 3 1 u l.length (l.map (Value.int .i64))
  bel : Below w0.heap.size w0 W
  sz : B0 ≤ W.heap.size
theorem SpQ.own {q : Nat} (w0 : World) (B0 B g : Nat) (T : ByteArray) (L : List UInt8) (f : List (Fin q) → List Int) (hB : w0.heap.size ≤ B) : OwnFrom B (fun pre W => SpQ w0 B0 g T L (f pre) W) := by
  intro pre W W' row h hg hr
  have hne : ∀ {b : Nat} {t : TypeId} {cs : Array Value}, Blk W b t cs → some b ≠ row := by
    intro b t cs hb e
    obtain ⟨-, o, ho, hc⟩ := hr b e.symm
    rw [show W.heap[b]? = _ from hb] at ho
    cases ho
    cases hc
  obtain ⟨u, hs, hu⟩ := h.s
  refine ⟨h.r.grown hg (hne h.r), ?_, ⟨u, hs.grown hg (hne hs), hu.kept hg ?_⟩, h.bel.grown hg h.bel.size (fun k e => Nat.le_trans hB (hr k e).1), Nat.le_trans h.sz hg.size⟩
  · intro i hi
    obtain ⟨b, o, e, hc⟩ := h.y i hi
    exact ⟨b, o, e, cell_kept hc hg (fun r e => (hr r e).2)⟩
  · rcases hu.2 with ⟨rfl, _⟩ | ⟨g', cap, cur, rfl, _, hgb, _⟩
    · exact .inl rfl
    · exact .inr (hne (show Blk W g' _ _ from hgb))
/-- A round: the row grows, the statement takes it. -/
theorem SpQ.put {w0 W w1 : World} {B0 g A B : Nat} {T : ByteArray} {L : List UInt8} {l : List Int} {x : Int} {tmp : Obj} {u u' : Value} (h : SpQ w0 B0 g T L l W) (hs : Blk W g 24 #[.string T, u]) (hu : W.ownsRow B0 3 1 u l.length (l.map (Value.int .i64)))
    (hw : w0.heap.size + 1 < g) (hg0 : g < B0) (hA : A < B0) (hB : B < B0) (hAg : A ≠ g) (hBg : B ≠ g)
    (hown : w1.ownsRow B0 3 1 u' (l.length + 1) (l.map (Value.int .i64) ++ [.int .i64 x])) (hgr : (W.alloc tmp).grownBy w1 u.ownBlock) :
    Blk w1 g 24 #[.string T, u] ∧ SpQ w0 B0 g T L (l ++ [x]) (w1.setCell ⟨g, 1, none⟩ u') ∧ KeepsOthers W (w1.setCell ⟨g, 1, none⟩ u') ∧ chKp A B W (w1.setCell ⟨g, 1, none⟩ u') := by
  have hBW := h.sz
  have hub : ∀ k, u.ownBlock = some k → B0 ≤ k := by
    intro k ek
    rcases hu.2 with ⟨rfl, _⟩ | ⟨g', cap, cur, rfl, hb, _, _⟩
    · simp [Value.ownBlock] at ek
    · obtain rfl : g' = k := by simpa [Value.ownBlock] using ek
      exact hb
  have hub' : ∀ k, u'.ownBlock = some k → B0 ≤ k := by
    intro k ek
    rcases hown.2 with ⟨rfl, _⟩ | ⟨g', cap, cur, rfl, hb, _, _⟩
    · simp [Value.ownBlock] at ek
    · obtain rfl : g' = k := by simpa [Value.ownBlock] using ek
      exact hb
  have hk1 : ∀ k, k < B0 → w1.heap[k]? = W.heap[k]? := fun k hk => (hgr.block k (by simp; omega) (fun e => by have := hub k e.symm; omega)).trans (Below.heap_alloc W tmp k (by omega))
  have hk2 : ∀ k, k < B0 → k ≠ g → (w1.setCell ⟨g, 1, none⟩ u').heap[k]? = W.heap[k]? := fun k hk hkg => (Below.heap_setCell _ _ _ k (by simpa using hkg)).trans (hk1 k hk)
  have hs1 : Blk w1 g 24 #[.string T, u] := (hk1 g hg0).trans hs
  refine ⟨hs1, ⟨(hk2 _ (by omega) (by omega)).trans h.r, ?_, ⟨u', ?_, ?_⟩, ?_, ?_⟩, ?_, hk2 A hA hAg, hk2 B hB hBg⟩
  · intro i hi
    obtain ⟨b, o, e, hc⟩ := h.y i hi
    cases e
    exact ⟨_, _, rfl, (World.cell?_of_block (a := ⟨w0.heap.size + 1, 0 + i, none⟩) (hk2 (w0.heap.size + 1) (by omega) (by omega))).trans hc⟩
  · have := hs1.set_ 1 u'
    simpa using this
  · rw [List.length_append, List.map_append]
    refine hown.kept (row := some g) ⟨rfl, rfl, rfl, (KeepsOthers.setCell w1 ⟨g, 1, none⟩ u').size, fun k _ hk => Below.heap_setCell _ _ _ k (fun e => hk (by rw [e]))⟩ (.inr fun e => by have := hub' g e; omega)
  · exact ((h.bel.trans ((Below.refl _ W).alloc h.bel.size tmp)).grown hgr (by have := h.bel.size; simp; omega) (fun k e => by have := hub k e; omega)).setCell (p := ⟨g, 1, none⟩) (show w0.heap.size ≤ g by omega) u'
  · have h1 := hgr.size
    have h2 := (KeepsOthers.setCell w1 ⟨g, 1, none⟩ u').size
    rw [World.size_alloc] at h1
    omega
  · refine ((KeepsOthers.alloc W tmp).trans (KeepsOthers.of_grownBy hgr fun j o ej hj => ?_)).trans (KeepsOthers.setCell _ _ _)
    rcases (hu.alloc tmp).2 with ⟨rfl, _⟩ | ⟨g', cap, cur, rfl, _, hgb, _⟩
    · simp [Value.ownBlock] at ej
    · obtain rfl : g' = j := by simpa [Value.ownBlock] using ej
      rw [hgb] at hj; cases hj; rfl
/-- The end: the result's block is set, the deferred calls are taken. -/
theorem split_fin {w0 W : World} {D : Nat} {T : ByteArray} {p : Option Addr} {c : Nat} {l : List Int} (hr : Blk W w0.heap.size 24 #[.string ⟨#[]⟩, .slice none 0 0]) (hB : Below w0.heap.size w0 W) (hs : SliceS 1 IntU (fun j => w0.heap.size < j ∧ j ≠ D) W [.slice p l.length c] l)
    (hK : W.heap[D]? = some (.deferred (some []))) (hD : w0.heap.size < D) (b : Bool) :
    ((W.setCell ⟨w0.heap.size, 0, none⟩ (.string T)).setCell ⟨w0.heap.size, 1, none⟩ (.slice p l.length c)).heap[D]? = some (.deferred (some [])) ∧
    (∀ i, (((W.setCell ⟨w0.heap.size, 0, none⟩ (.string T)).setCell ⟨w0.heap.size, 1, none⟩ (.slice p l.length c)).putObj D (.deferred none)).cell? ⟨w0.heap.size, i, none⟩ = (#[.string T, .slice p l.length c] : Array Value)[i]?) ∧
    SplitR (⟨T, l⟩, b) w0 (.returned (.tuple #[.agg #[.string T, .slice p l.length c], .bool b])) (((W.setCell ⟨w0.heap.size, 0, none⟩ (.string T)).setCell ⟨w0.heap.size, 1, none⟩ (.slice p l.length c)).putObj D (.deferred none)) := by
  have hT : Touch (fun i => i = w0.heap.size) W ((W.setCell ⟨w0.heap.size, 0, none⟩ (.string T)).setCell ⟨w0.heap.size, 1, none⟩ (.slice p l.length c)) := ((Touch.refl (fun i => i = w0.heap.size) _).setCell (x := ⟨w0.heap.size, 0, none⟩) (fun _ => rfl) _).setCell (x := ⟨w0.heap.size, 1, none⟩) (fun _ => rfl) _
  have hk7 := (hT.block D (Array.getElem?_eq_some_iff.1 hK).1 (by omega)).trans hK
  have hb7 : Blk ((W.setCell ⟨w0.heap.size, 0, none⟩ (.string T)).setCell ⟨w0.heap.size, 1, none⟩ (.slice p l.length c)) w0.heap.size 24 #[.string T, .slice p l.length c] := by
    have := (hr.set_ 0 (.string T)).set_ 1 (.slice p l.length c)
    simpa using this
  have hP := Touch.of_row (grownBy_putObj' ((W.setCell ⟨w0.heap.size, 0, none⟩ (.string T)).setCell ⟨w0.heap.size, 1, none⟩ (.slice p l.length c)) D (.deferred none))
  refine ⟨hk7, (hP.blk hb7 (fun e => by cases e; omega)).cell, p, c, rfl, ?_, ?_⟩
  · have h2 := (SliceS.still IntU.still) _ _ _ _ _ _ hs (Kept.touch (S' := fun j => w0.heap.size < j ∧ j ≠ D) hT (fun j hj h => ⟨h, by omega⟩))
    exact (SliceS.still IntU.still) _ _ _ _ _ _ h2 (Kept.touch hP (fun j hj h => ⟨Nat.le_of_lt h.1, fun e => by cases e; exact h.2 rfl⟩))
  · exact (hB.trans (hT.below hB.size (fun k e => by omega))).trans (hP.below (Nat.le_trans hB.size hT.size) (fun k e => by cases e; omega))
theorem owns_row {W : World} {B0 D : Nat} {u : Value} {n : Nat} {xs : List Value} (h : W.ownsRow B0 3 1 u n xs) (hK : W.heap[D]? = some (.deferred (some []))) (k : Nat) (e : rowOf u = some k) : B0 ≤ k ∧ k ≠ D := by
  have hr := (OwnR.of_owns h).row k e
  refine ⟨hr.1, ?_⟩
  rintro rfl
  rcases h.2 with ⟨rfl, _⟩ | ⟨g', cap, cur, rfl, _, hgb, _⟩
  · simp [rowOf] at e
  · by_cases hc : cap = 0
    · subst hc
      simp [rowOf] at e
    · rw [rowOf_pos (by omega)] at e
      injection e with e
      subst e
      rw [hgb] at hK
      cases hK
theorem fours_map (q : Nat) (S : List UInt8) : ∀ k, k ≤ q → ((List.finRange q).take k).map (fun x => be ((S.drop (4 * x.1)).take 4)) = fours k S
  | 0, _ => by simp [fours]
  | k + 1, h => by rw [fin_take (show k < q by omega), List.map_append, fours_map q S k (by omega), fours_succ]; rfl


end Go.Proofs.Ytldjfmddjbdciaa
