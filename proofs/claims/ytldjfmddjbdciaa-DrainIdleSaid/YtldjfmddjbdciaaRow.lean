/-
  Rows of the call's own, of any element type, and appends onto them: nil, an empty cut of any slice, or a block of the call's own.
-/
import Derived.Test.YtldjfmddjbdciaaAppend
import Derived.Test.YtldjfmddjbdciaaTouch
namespace Go.Proofs.Ytldjfmddjbdciaa
open Go.RowKit

/-- The block of a slice that has room. -/
def rowOf : Value → Option Nat
  | .slice (some a) _ c => if c = 0 then none else some a.block
  | _ => none

theorem rowOf_zero (p : Option Addr) (n : Nat) : rowOf (.slice p n 0) = none := by cases p <;> simp [rowOf]
theorem rowOf_pos {g o n c : Nat} (h : 0 < c) : rowOf (.slice (some ⟨g, o, none⟩) n c) = some g := by
  have : c ≠ 0 := by omega
  simp [rowOf, this]

/-- A row of the call's own: its n elements' cells. -/
def OwnR (B : Nat) (e : TypeId) (size : Nat) (w : World) (v : Value) (n : Nat) (xs : List Value) : Prop :=
  xs.length = n * size ∧
  ((∃ p, v = .slice p 0 0 ∧ n = 0) ∨
   ∃ g cap cur, v = .slice (some ⟨g, 0, none⟩) n cap ∧ 0 < cap ∧ B ≤ g ∧ w.heap[g]? = some (.cells cur e (0, 0)) ∧ n ≤ cap ∧ cap ≤ maxLen ∧ cur.size = cap * size ∧ cur.toList.take (n * size) = xs)

theorem OwnR.empty (B : Nat) (e : TypeId) (size : Nat) (w : World) (p : Option Addr) : OwnR B e size w (.slice p 0 0) 0 [] := ⟨by simp, .inl ⟨p, rfl, rfl⟩⟩

theorem OwnR.new (B : Nat) (e : TypeId) (size : Nat) (w : World) (n : Nat) (cs : Array Value) (h0 : 0 < n) (hm : n ≤ maxLen) (hc : cs.size = n * size) (hB : B ≤ w.heap.size) : OwnR B e size (w.alloc (.cells cs e)) (.slice (some ⟨w.heap.size, 0, none⟩) n n) n cs.toList :=
  ⟨by simpa using hc, .inr ⟨_, n, cs, rfl, h0, hB, heap_alloc_new w _, Nat.le_refl _, hm, hc, by rw [← hc, ← Array.length_toList]; exact List.take_length⟩⟩

section
variable {B : Nat} {e : TypeId} {size : Nat} {w w' : World} {v : Value} {n : Nat} {xs : List Value}

theorem OwnR.slice (h : OwnR B e size w v n xs) : ∃ p c, v = .slice p n c ∧ n ≤ c ∧ c ≤ maxLen ∧ (∀ j u, xs[j]? = some u → ∃ g, p = some ⟨g, 0, none⟩ ∧ rowOf v = some g ∧ B ≤ g ∧ w.cell? ⟨g, j, none⟩ = some u) := by
  rcases h.2 with ⟨p, rfl, rfl⟩ | ⟨g, cap, cur, rfl, h0, h1, h2, h3, h4, h5, h6⟩
  · refine ⟨p, 0, rfl, Nat.le_refl _, by simp [maxLen], fun j u hu => ?_⟩
    have : xs = [] := List.eq_nil_of_length_eq_zero (by simpa using h.1)
    subst this
    simp at hu
  · refine ⟨_, cap, rfl, h3, h4, fun j u hu => ⟨g, rfl, rowOf_pos h0, h1, ?_⟩⟩
    rw [cell_of_row w g j cur e (0, 0) h2]
    rw [← h6, List.getElem?_take] at hu
    split at hu
    · rwa [Array.getElem?_toList] at hu
    · cases hu

theorem OwnR.row (h : OwnR B e size w v n xs) : ∀ k, rowOf v = some k → B ≤ k ∧ k < w.heap.size := by
  intro k hk
  rcases h.2 with ⟨p, rfl, rfl⟩ | ⟨g, cap, cur, rfl, h0, h1, h2, h3, h4, h5, h6⟩
  · rw [rowOf_zero] at hk; cases hk
  · have hgk : g = k := by simpa [rowOf_pos h0] using hk
    rw [← hgk]
    refine ⟨h1, ?_⟩
    rcases Nat.lt_or_ge g w.heap.size with h | h
    · exact h
    · rw [Array.getElem?_eq_none h] at h2; cases h2

theorem OwnR.base {B' : Nat} (h : OwnR B e size w v n xs) (hb : B' ≤ B) : OwnR B' e size w v n xs := by
  refine ⟨h.1, ?_⟩
  rcases h.2 with hn | ⟨g, cap, cur, rfl, h0, h1, h2⟩
  · exact .inl hn
  · exact .inr ⟨g, cap, cur, rfl, h0, Nat.le_trans hb h1, h2⟩

theorem OwnR.keep (h : OwnR B e size w v n xs) (hk : ∀ k, rowOf v = some k → w'.heap[k]? = w.heap[k]?) : OwnR B e size w' v n xs := by
  refine ⟨h.1, ?_⟩
  rcases h.2 with hn | ⟨g, cap, cur, rfl, h0, h1, h2, h3⟩
  · exact .inl hn
  · exact .inr ⟨g, cap, cur, rfl, h0, h1, (hk g (rowOf_pos h0)).trans h2, h3⟩

theorem OwnR.touch {p : Nat → Prop} (h : OwnR B e size w v n xs) (ht : Touch p w w') (hp : ∀ k, rowOf v = some k → ¬ p k) : OwnR B e size w' v n xs :=
  h.keep (fun k hk => ht.block k (h.row k hk).2 (hp k hk))

theorem run_append_R {P : Program} (t tx ty : TypeId) (i : TypeInfo) (z : Value) (bytes : Nat) (ht : P.underlying t = some (.slice e)) (hi : P.info? e = some i) (hz : i.zero = some z)
    (hsize : i.size = size) (hby : i.bytes = bytes) (hzs : z.cells.size = size) (hown : OwnR B e size w v n xs)
    (x : Value) (m : Nat) (news : List Value) (hs : Src P size tx x m news w)
    (h63 : n + m ≤ maxLen) (hbytes : (n + m) * bytes ≤ 140737488355328) (hbase : B ≤ w.heap.size) :
    ∃ v' w', (Builtin.append_ #[t, tx] ty #[v, x]).run P w = .ok v' w' ∧ OwnR B e size w' v' (n + m) (xs ++ news) ∧ w.grownBy w' (rowOf v) ∧ (∀ k, rowOf v' = some k → rowOf v = some k ∨ w.heap.size ≤ k) := by
  subst hsize
  subst hby
  have hl := hs.newsLen
  have hsmall : n + m ≤ 9223372036854775807 := by simp only [maxLen] at h63; omega
  have hlen : (xs ++ news).length = (n + m) * i.size := by rw [List.length_append, hown.1, hl, Nat.add_mul]
  have grown : ∀ (old : Nat), old < n + m → ∀ (row : Option Nat),
      OwnR B e i.size (w.drew.alloc (.cells ((xs ++ news).toArray ++ Builtin.zeroCells z.cells (grownCap w (n + m) old e - (n + m))) e))
        (.slice (some ⟨w.heap.size, 0, none⟩) (n + m) (grownCap w (n + m) old e)) (n + m) (xs ++ news) ∧
      w.grownBy (w.drew.alloc (.cells ((xs ++ news).toArray ++ Builtin.zeroCells z.cells (grownCap w (n + m) old e - (n + m))) e)) row := by
    intro old ho row
    have hge := grownCap_ge w (n + m) old e
    have hcm : grownCap w (n + m) old e ≤ maxLen := grownCap_le_maxLen w (n + m) old e h63
    refine ⟨⟨hlen, .inr ⟨w.heap.size, _, _, rfl, by omega, hbase, heap_alloc_new w.drew _, hge, hcm, ?_, ?_⟩⟩, ⟨rfl, rfl, rfl, by simp, fun k hk _ => Below.heap_alloc w.drew _ k hk⟩⟩
    · rw [Array.size_append, List.size_toArray, size_zeroCells, hzs, hlen, ← Nat.add_mul]
      congr 1
      omega
    · rw [Array.toList_append, ← hlen]
      exact List.take_left
  rcases hown.2 with ⟨p, rfl, rfl⟩ | ⟨g, cap, cur, rfl, h0, hbg, hg, hnc, hcm, hcs, htake⟩
  · have hx : xs = [] := List.eq_nil_of_length_eq_zero (by simpa using hown.1)
    subst hx
    by_cases hm : m = 0
    · subst hm
      have hn : news = [] := List.eq_nil_of_length_eq_zero (by simpa using hl)
      subst hn
      refine ⟨.slice p 0 0, w, ?_, OwnR.empty _ _ _ _ _, ⟨rfl, rfl, rfl, Nat.le_refl _, fun _ _ _ => rfl⟩, fun k hk => by rw [rowOf_zero] at hk; cases hk⟩
      have hc := hs.cells
      rcases hs.kind with ⟨e', hk⟩ | hk <;> cases p <;> simp [Builtin.append_, run_underlying ht, run_underlying hk, sizeOf, typeInfo, hi, hs.len, hc, storeCells]
    · have hf : (Builtin.firstCells i.size 0 (.slice p 0 0)).run P w.drew = .ok ([] : List Value).toArray w.drew := by
        cases p <;> simp [Builtin.firstCells, loadCells, loadCellsFrom]
      have hr := run_append_grow_src (P := P) w t tx ty e i z ht hi hz p 0 0 [] hf x m news hs (by omega) (by omega)
        (by rw [Nat.zero_add, nextslicecap_zero (by omega)]; have hb := hbytes; simp only [Nat.zero_add] at hb; omega)
      have hgr := grown 0 (by omega) (rowOf (.slice p 0 0))
      refine ⟨_, _, hr, hgr.1, hgr.2, fun k hk => ?_⟩
      have hge := grownCap_ge w (0 + m) 0 e
      rw [rowOf_pos (by omega)] at hk
      cases hk
      exact .inr (Nat.le_refl _)
  · by_cases hroom : n + m ≤ cap
    · have hfit : n * i.size + news.length ≤ cur.size := by rw [hl, hcs, ← Nat.add_mul]; exact Nat.mul_le_mul_right _ hroom
      have hst := run_storeCells_at P g (n * i.size) e news 0 cur w hg (by simpa using hfit) hs.one
      simp only [Nat.add_zero] at hst
      have hc := hs.cells
      have hr : (Builtin.append_ #[t, tx] ty #[.slice (some ⟨g, 0, none⟩) n cap, x]).run P w =
          .ok (.slice (some ⟨g, 0, none⟩) (n + m) cap) (w.setRow g (cur.toList.take (n * i.size) ++ news ++ cur.toList.drop (n * i.size + news.length)).toArray) := by
        rcases hs.kind with ⟨e', hk⟩ | hk <;> simp [Builtin.append_, run_underlying ht, run_underlying hk, sizeOf, typeInfo, hi, hs.len, hroom, hc, Addr.add_lit, hst]
      refine ⟨_, _, hr, ⟨hlen, .inr ⟨g, cap, _, rfl, h0, hbg, setRow_heap w g cur _ e _ hg, hroom, hcm, ?_, ?_⟩⟩, ⟨rfl, rfl, rfl, by simp, fun k _ hk => setRow_other w g k _ (fun e => hk (by rw [rowOf_pos h0, e]))⟩, fun k hk => .inl ?_⟩
      · simp only [List.size_toArray, List.length_append, List.length_take, List.length_drop, Array.length_toList]
        omega
      · rw [htake, ← hlen]
        exact List.take_left
      · rw [rowOf_pos h0] at hk ⊢
        exact hk
    · have holds : ∀ j u, xs[j]? = some u → w.drew.cell? ((⟨g, 0, none⟩ : Addr).add j) = some u := by
        intro j u hu
        obtain ⟨p', c', e', _, _, hc⟩ := hown.slice
        cases e'
        obtain ⟨g', e', _, _, hc⟩ := hc j u hu
        cases e'
        rw [Addr.add_lit, Nat.zero_add]
        exact hc
      have hr := run_append_grow_src (P := P) w t tx ty e i z ht hi hz (some ⟨g, 0, none⟩) n cap xs (run_firstCells_some w.drew i.size n ⟨g, 0, none⟩ n cap xs hown.1 holds) x m news hs (by omega) (by omega)
        (growslice_fits (by omega) hbytes)
      have hgr := grown cap (by omega) (rowOf (.slice (some ⟨g, 0, none⟩) n cap))
      refine ⟨_, _, hr, hgr.1, hgr.2, fun k hk => .inr ?_⟩
      have hge := grownCap_ge w (n + m) cap e
      rw [rowOf_pos (by omega)] at hk
      cases hk
      exact Nat.le_refl _

end

/-- The same as a step of the walk. -/
theorem wpList_append_R {P : Program} (w : World) {ops : Array Oper} {rest : List Oper} {o : Oper} {a : Act} {Q : Exit → Act → World → Prop} (hgd : o.guard = none) (s y : Operand) (t tx : TypeId)
    (ho : o.op = .call { callee := .builtin .append, args := #[s, y], argTypes := #[t, tx] })
    (B : Nat) (e : TypeId) (i : TypeInfo) (z : Value) (size bytes : Nat) (ht : P.underlying t = some (.slice e)) (hi : P.info? e = some i) (hz : i.zero = some z)
    (hsize : i.size = size) (hby : i.bytes = bytes) (hzs : z.cells.size = size)
    (v : Value) (n : Nat) (xs : List Value) (hsv : a.eval s = v) (hown : OwnR B e size w v n xs)
    (x : Value) (m : Nat) (news : List Value) (hx : a.eval y = x) (hs : Src P size tx x m news w)
    (h63 : n + m ≤ maxLen) (hbytes : (n + m) * bytes ≤ 140737488355328) (hbase : B ≤ w.heap.size)
    (h : ∀ v' w', OwnR B e size w' v' (n + m) (xs ++ news) → w.grownBy w' (rowOf v) → (∀ k, rowOf v' = some k → rowOf v = some k ∨ w.heap.size ≤ k) → wpList P ops Q rest (a.put o.dst v') w') :
    wpList P ops Q (o :: rest) a w := by
  refine wpList_plain hgd fun K hK => ?_
  obtain ⟨v', w', hrun, r1, r2, r3⟩ := run_append_R (P := P) t tx o.type i z bytes ht hi hz hsize hby hzs hown x m news hs h63 hbytes hbase
  unfold Oper.wp
  simp [execOp, ho, resolve, invoke, builtin, hsv, hx, hrun, Result.andThen]
  exact hK _ _ (h v' w' r1 r2 r3)

theorem Touch.of_row {w w' : World} {row : Option Nat} (h : w.grownBy w' row) : Touch (fun i => some i = row) w w' :=
  ⟨h.os, h.tape, h.output, h.size, fun k hk hne => h.block k hk hne⟩

end Go.Proofs.Ytldjfmddjbdciaa
