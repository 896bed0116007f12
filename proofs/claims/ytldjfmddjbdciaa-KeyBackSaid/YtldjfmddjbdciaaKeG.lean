/-
  slices.Chunk at bytes, in fours: its contract as an iterator.
-/
import Derived.Test.YtldjfmddjbdciaaKeF
import Derived.RangeFuncNested
import Derived.RangeFuncBound
import Derived.RangeFuncCalls
import Derived.RangeFuncLeaves
import Derived.RangeFuncBox
import Derived.Shelf.Abstract
import Derived.Shelf.RegionOpen
import Derived.WalkKit
import Derived.OwnWalkIn
import Derived.TacticsInMore
import Derived.LoopNIn
import Derived.LoopIn
import Derived.Maps.AppendAt
namespace Go.Proofs.Ytldjfmddjbdciaa
open Go.RowKit Go.Shelf
set_option linter.unusedVariables false
set_option linter.unusedSimpArgs false
attribute [local go_sem] Oper.semAt_some

/-- What a round must leave: the two boxes of the iterator. -/
def chKp (A B : Nat) (W W' : World) : Prop := W'.heap[A]? = W.heap[A]? ∧ W'.heap[B]? = W.heap[B]?
theorem chKp_t {A B : Nat} {X Y Z : World} (h : chKp A B X Y) (k : chKp A B Y Z) : chKp A B X Z := ⟨k.1.trans h.1, k.2.trans h.2⟩
theorem chKp_b {A B : Nat} {w : World} (hA : A < w.heap.size) (hB : B < w.heap.size) (W : World) (l : Nat) (o o' : Obj) (hl : w.heap.size ≤ l) (h : W.heap[l]? = some o) (_ : o.isCells = false) (_ : o.isWalk = false) : chKp A B W (W.putObj l o') :=
  ⟨World.putObj_heap_other (by omega), World.putObj_heap_other (by omega)⟩

set_option maxRecDepth 100000 in
set_option maxHeartbeats 4000000 in
theorem chunk_any (p : Option Addr) (n c : Nat) (w : World) : Calls Try.prog 37 #[.slice p n c, .int .i64 4] w fun e w' =>
    e = .returned (.func (.func 75) #[] #[.pointer (some ⟨w.heap.size, 0, none⟩), .pointer (some ⟨w.heap.size + 1, 0, none⟩)]) ∧ w' = (w.alloc (.cells #[.slice p n c] 38)).alloc (.cells #[.int .i64 4] 3) := by
  have hmf : ∀ (fn : Fn) (first cap : Array Value) (w : World), (Instr.makeFunc fn first cap).run Try.prog w = .ok (.func fn first cap) w := fun _ _ _ _ => rfl
  go_enter Try.func37, Try.ntmps37
  go_wp2
  go_ret
  exact ⟨rfl, rfl⟩

theorem fin_take {q k : Nat} (h : k < q) : (List.finRange q).take (k + 1) = (List.finRange q).take k ++ [⟨k, h⟩] := by
  rw [List.take_succ_eq_append_getElem (by simpa using h)]
  simp

set_option maxRecDepth 100000 in
set_option maxHeartbeats 4000000 in
theorem chunk1_in (F : Fence) (n : Nat) (h7 : F.fn 75) (hro : F.round = none) (hn : 1 ≤ n) (l Bs Bn b o q c : Nat) (p : Option Addr) (hp : 0 < q → p = some ⟨b, o, none⟩) (hc : 4 * q ≤ c) (hq : q ≤ 100000) (J Jx : List (Fin q) → World → Prop)
    (hJ : ∀ s W, J s W → J s W.drew)
    (hY : ∀ pre (x : Fin q) W, J pre W → pre.length < q → YieldAt F (n - 1) Try.prog l #[.slice (some ⟨b, o + 4 * x.1, none⟩) 4 4] W fun e W' =>
      (e = .returned (.bool true) ∧ J (pre ++ [x]) W' ∧ chKp Bs Bn W W') ∨ (e = .returned (.bool false) ∧ Jx (pre ++ [x]) W'))
    (W : World) (hBs : W.cell? ⟨Bs, 0, none⟩ = some (.slice p (4 * q) c)) (hBn : W.cell? ⟨Bn, 0, none⟩ = some (.int .i64 4)) (h0 : J [] W) :
    CallsIn F n Try.prog 75 #[.func (.yield l) #[] #[], .pointer (some ⟨Bs, 0, none⟩), .pointer (some ⟨Bn, 0, none⟩)] W fun e W' => (∃ v, e = .returned v) ∧
      ((∃ ys, ys = List.finRange q ∧ J ys W') ∨ (∃ pre, (∃ k, pre = (List.finRange q).take k) ∧ Jx pre W')) := by
  refine callsIn_of_wp Try.func75 rfl h7 ?_ hro
  simp only [Try.ntmps75, List.size_toArray, List.length_cons, List.length_nil, Nat.reduceAdd, Nat.reduceSub, Array.replicate_succ, Array.replicate_zero, List.push_toArray, List.append_toArray, List.nil_append, List.cons_append]
  gi_wp2
  gi_loopw [4] (fun i wr => ∃ k : Nat, k ≤ q ∧ i = .int .i64 ((4 * k : Nat) : Int) ∧ J ((List.finRange q).take k) wr ∧ wr.cell? ⟨Bs, 0, none⟩ = some (.slice p (4 * q) c) ∧ wr.cell? ⟨Bn, 0, none⟩ = some (.int .i64 4))
    (fun i _ => 4 * q - (intOf i).toNat)
  case atStart => exact ⟨0, Nat.zero_le _, rfl, h0, hBs, hBn⟩
  case round =>
    obtain ⟨k, hk, rfl, hJs, hb1, hb2⟩ := hrel
    by_cases hlt : k < q
    · obtain rfl := hp (by omega)
      have hlti : ((4 * k : Nat) : Int) < ((4 * q : Nat) : Int) := by omega
      have hkc : ¬ c = 4 * k := by omega
      gi_wp2
      have hmn : (if ((4 * q - 4 * k : Nat) : Int) < 4 then ((4 * q - 4 * k : Nat) : Int) else 4) = 4 := if_neg (by omega)
      gi_region
      all_goals
        clear hmn
        have c1 : wr.drew.cell? ⟨Bs, 0, none⟩ = some (.slice (some ⟨b, o, none⟩) (4 * q) c) := hb1
        have c2 : wr.drew.cell? ⟨Bn, 0, none⟩ = some (.int .i64 4) := hb2
        obtain ⟨fn, tmps, assign, body, hy, hR⟩ := hY _ ⟨k, hlt⟩ wr.drew (hJ _ _ hJs) (by rw [List.length_take, List.length_finRange]; omega)
        dsimp only at hy
        generalize wr.drew = wd at *
      all_goals
        gi_wp2
        refine hR.mono ?_
        rintro e W3 (⟨rfl, hJ3, hk3⟩ | ⟨rfl, hJx3⟩)
        · have d1 : W3.cell? ⟨Bs, 0, none⟩ = some (.slice (some ⟨b, o, none⟩) (4 * q) c) := (World.cell?_of_block (a := ⟨Bs, 0, none⟩) hk3.1).trans c1
          have d2 : W3.cell? ⟨Bn, 0, none⟩ = some (.int .i64 4) := (World.cell?_of_block (a := ⟨Bn, 0, none⟩) hk3.2).trans c2
          gi_wp2
          go_roundw
          case rel => exact ⟨k + 1, by omega, by (first | rfl | (simp; done) | (simp; omega)), by rw [fin_take hlt]; exact hJ3, d1, d2⟩
          case measure => simp [intOf]; omega
        · gi_wp2
          refine bodyPost_ret (results_none rfl _ _ _) rfl ?_
          exact ⟨⟨_, rfl⟩, .inr ⟨_, ⟨k + 1, (fin_take hlt).symm⟩, hJx3⟩⟩
    · obtain rfl : k = q := by omega
      gi_wp2
      go_end0
      exact ⟨⟨_, rfl⟩, .inl ⟨_, by rw [List.take_of_length_le (by simp)], hJs⟩⟩

/-- slices.Chunk's value as an iterator. -/
theorem chunk_stops (F : Fence) (n : Nat) (h7 : F.fn 75) (hro : F.round = none) (hn : 1 ≤ n) (Bs Bn b o q c : Nat) (p : Option Addr) (hp : 0 < q → p = some ⟨b, o, none⟩) (hc : 4 * q ≤ c) (hq : q ≤ 100000) (w : World)
    (hs : Bs < w.heap.size) (hn' : Bn < w.heap.size) (hBs : w.cell? ⟨Bs, 0, none⟩ = some (.slice p (4 * q) c)) (hBn : w.cell? ⟨Bn, 0, none⟩ = some (.int .i64 4)) :
    SeqStopsK F n Try.prog 75 #[.pointer (some ⟨Bs, 0, none⟩), .pointer (some ⟨Bn, 0, none⟩)] (fun x : Fin q => #[.slice (some ⟨b, o + 4 * x.1, none⟩) 4 4]) (chKp Bs Bn) (fun ys => ys = List.finRange q) (fun pre => ∃ k, pre = (List.finRange q).take k) q w :=
  fun l J Jx W hW hJ _ hY h0 => chunk1_in F n h7 hro hn l Bs Bn b o q c p hp hc hq J Jx (fun s W1 h => hJ s W1 W1.drew none h ⟨rfl, rfl, rfl, Nat.le_refl _, fun _ _ _ => rfl⟩ (fun r e => by cases e)) hY W ((hW.cell (p := ⟨Bs, 0, none⟩) hs).trans hBs) ((hW.cell (p := ⟨Bn, 0, none⟩) hn').trans hBn) h0

end Go.Proofs.Ytldjfmddjbdciaa
