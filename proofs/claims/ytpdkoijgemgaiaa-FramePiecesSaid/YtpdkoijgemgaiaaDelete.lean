/-
  The contract of slices.Delete at bytes, from the first byte on, on a row of the call's own.
-/
import Derived.Test.YtpdkoijgemgaiaaBytesR
import Derived.Lib.SliceRun
import Derived.BigQuiet
import Derived.Deep.QuietTactic
import Derived.Deep.RegionLaw
import Derived.Deep.RegionHeld3
namespace Go.Proofs.Ytpdkoijgemgaiaa
open Go.RowKit

/-- A block of bytes, the first of them told. -/
def RowIn (w : World) (g cap : Nat) (l : List UInt8) : Prop :=
  ∃ cur, w.heap[g]? = some (.cells cur 5 (0, 0)) ∧ l.length ≤ cap ∧ cur.size = cap ∧ cur.toList.take l.length = bytesV l ∧ ∀ i, i < cap → ∃ c : UInt8, cur[i]? = some (byteV c)

/-- 'append' in place. -/
theorem run_append_in (w : World) (ty : TypeId) (g n cap : Nat) (cur : Array Value) (hg : w.heap[g]? = some (.cells cur 5 (0, 0))) (hcs : cur.size = cap)
    (x : Value) (m : Nat) (news : List Value) (hs : Src Try.prog 1 24 x m news w) (hroom : n + m ≤ cap) :
    (Builtin.append_ #[24, 24] ty #[.slice (some ⟨g, 0, none⟩) n cap, x]).run Try.prog w =
      .ok (.slice (some ⟨g, 0, none⟩) (n + m) cap) (w.setRow g (cur.toList.take n ++ news ++ cur.toList.drop (n + news.length)).toArray) := by
  obtain ⟨i, hi, hz0, hz1, hz2⟩ := info_parts Try.info5
  have hl := hs.newsLen
  have hfit : n + news.length ≤ cur.size := by rw [hl, hcs]; omega
  have hst := run_storeCells_at Try.prog g n 5 news 0 cur w hg (by simpa using hfit) hs.one
  simp only [Nat.add_zero] at hst
  have hc := hs.cells
  rw [← hz1] at hc
  have hzn : n * i.size = n := by rw [hz1]; omega
  have ht := Try.underlying24
  rcases hs.kind with ⟨e', hk⟩ | hk <;> simp [Builtin.append_, run_underlying ht, sizeOf, typeInfo, hi, hs.len, hroom, hc, Addr.add_lit, hzn, hst]

theorem run_clear_row (w : World) (ty : TypeId) (g o k c : Nat) (cur : Array Value) (hg : w.heap[g]? = some (.cells cur 5 (0, 0))) (hk : 0 < k) (hfit : o + k ≤ cur.size) :
    (Builtin.clear_ #[24] ty #[.slice (some ⟨g, o, none⟩) k c]).run Try.prog w = .ok (.tuple #[]) (w.setRow g (cur.toList.take o ++ List.replicate k (Value.int .u8 0) ++ cur.toList.drop (o + k)).toArray) := by
  obtain ⟨i, hi, hz0, hz1, hz2⟩ := info_parts Try.info5
  have hz : (Value.int .u8 0).cells = #[.int .u8 0] := rfl
  have hzc : (Builtin.zeroCells (Value.int .u8 0).cells k).toList = List.replicate k (.int .u8 0) := by
    rw [hz]
    simp [Builtin.zeroCells]
    apply List.ext_getElem
    · simp
    · intro i h1 h2
      simp [Nat.mod_one]
  have hv : ∀ w, (zeroValue 5).run Try.prog w = .ok (.int .u8 0) w := by intro w; simp [zeroValue, typeInfo, hi, hz0]
  have hst := run_storeCells_at Try.prog g o 5 (List.replicate k (.int .u8 0)) 0 cur w hg (by simpa using hfit) (by intro v hv'; rw [List.eq_of_mem_replicate hv']; rfl)
  simp only [Nat.add_zero, List.length_replicate] at hst
  have ht := Try.underlying24
  obtain ⟨m, rfl⟩ : ∃ m, k = m + 1 := ⟨k - 1, by omega⟩
  simp [Builtin.clear_, run_underlying ht, hv, hzc, hst]

/-- The row behind 'append(s[:0], s[k:]...)' and behind 'clear'. -/
theorem row_cut {B g cap : Nat} {w w1 : World} {L : List UInt8} (k : Nat) (hk0 : 0 < k) (hk : k ≤ L.length) (hB : B ≤ g) (hc : cap ≤ maxLen) {cur : Array Value} (hg : w.heap[g]? = some (.cells cur 5 (0, 0))) (hcs : cur.size = cap) (hLc : L.length ≤ cap) (_htk : cur.toList.take L.length = bytesV L)
    (e1 : w1 = w.setRow g (cur.toList.take 0 ++ bytesV (L.drop k) ++ cur.toList.drop (0 + (bytesV (L.drop k)).length)).toArray) :
    ∃ w2, (∀ ty, (Builtin.clear_ #[24] ty #[.slice (some ⟨g, L.length - k, none⟩) k (cap - (L.length - k))]).run Try.prog w1 = .ok (.tuple #[]) w2) ∧ OwnBR B w2 (.slice (some ⟨g, 0, none⟩) (L.length - k) cap) (L.drop k) ∧ Touch (fun i => i = g) w w2 := by
  have hl : (bytesV (L.drop k)).length = L.length - k := by rw [bytesV_length, List.length_drop]
  have hg1 := setRow_heap w g cur (cur.toList.take 0 ++ bytesV (L.drop k) ++ cur.toList.drop (0 + (bytesV (L.drop k)).length)).toArray 5 (0, 0) hg
  rw [← e1] at hg1
  have hs1 : (cur.toList.take 0 ++ bytesV (L.drop k) ++ cur.toList.drop (0 + (bytesV (L.drop k)).length)).toArray.size = cap := by
    simp only [List.size_toArray, List.length_append, List.length_take, List.length_drop, Array.length_toList, hl]
    omega
  generalize hcur1 : (cur.toList.take 0 ++ bytesV (L.drop k) ++ cur.toList.drop (0 + (bytesV (L.drop k)).length)).toArray = cur1 at hg1 hs1
  have htk1 : cur1.toList.take (L.length - k) = bytesV (L.drop k) := by
    rw [← hcur1]
    simp only [List.take_zero, List.nil_append]
    rw [← hl, List.take_left]
  refine ⟨_, fun ty => run_clear_row w1 ty g (L.length - k) k _ cur1 hg1 hk0 (by omega), ?_, ?_⟩
  · have hg2 := setRow_heap w1 g cur1 (cur1.toList.take (L.length - k) ++ List.replicate k (Value.int .u8 0) ++ cur1.toList.drop (L.length - k + k)).toArray 5 (0, 0) hg1
    refine ⟨by rw [hl, List.length_drop]; omega, .inr ⟨g, cap, _, by rw [List.length_drop], by omega, hB, hg2, by rw [List.length_drop]; omega, hc, ?_, ?_⟩⟩
    · simp only [List.size_toArray, List.length_append, List.length_take, List.length_drop, Array.length_toList, List.length_replicate]
      omega
    · rw [List.length_drop, Nat.mul_one]
      rw [htk1]
      simp only [List.append_assoc]
      rw [← hl, List.take_left]
  · rw [e1]
    exact ⟨rfl, rfl, rfl, by simp [World.setRow], fun j _ hj => (setRow_other _ g j _ hj).trans (setRow_other w g j _ hj)⟩

/-- The same as a step of a region that draws its order. -/
theorem rgn_append_in {ops : Array Oper} {o : Oper} {a : Act} {w : World} {K : Act → World → Prop} {Q : Exit → Act → World → Prop} {E : Prop} (hgd : o.guard = none) (s y : Operand)
    (ho : o.op = .call { callee := .builtin .append, args := #[s, y], argTypes := #[24, 24] })
    (g n cap : Nat) (cur : Array Value) (hsv : a.eval s = .slice (some ⟨g, 0, none⟩) n cap) (hg : w.heap[g]? = some (.cells cur 5 (0, 0))) (hcs : cur.size = cap)
    (p : Option Addr) (l : List UInt8) (m c : Nat) (hm : l.length = m) (hx : a.eval y = .slice p m c) (hin : BytesIn w p l) (hroom : n + m ≤ cap)
    (h : ∀ w', Hid (w' = w.setRow g (cur.toList.take n ++ bytesV l ++ cur.toList.drop (n + (bytesV l).length)).toArray) → K (a.put o.dst (.slice (some ⟨g, 0, none⟩) (n + m) cap)) w') :
    if Region.wanted o (yielded ops a.tmps) = true then Oper.wp Try.prog o a w K Q else E := by
  have hw : Region.wanted o (yielded ops a.tmps) = true := by simp [Region.wanted, hgd]
  rw [if_pos hw]
  subst hm
  have hrun := run_append_in w o.type g n cap cur hg hcs _ l.length _ (hin.src Try.underlying24 c) hroom
  unfold Oper.wp
  have hex : (execOp a.eval o).run Try.prog w = .ok (.value (.slice (some ⟨g, 0, none⟩) (n + l.length) cap)) (w.setRow g (cur.toList.take n ++ bytesV l ++ cur.toList.drop (n + (bytesV l).length)).toArray) := by
    simp only [execOp, ho, resolve, invoke, builtin, Sem.run_bind, Sem.run_pure, List.map_toArray, List.map_cons, List.map_nil, hsv, hx, hrun, Result.andThen]
  rw [hex]
  exact h _ (Lib.hid rfl)

theorem wpList_clear {ops : Array Oper} {rest : List Oper} {o : Oper} {a : Act} {Q : Exit → Act → World → Prop} (w w2 : World) (hgd : o.guard = none) (s : Operand)
    (ho : o.op = .call { callee := .builtin .clear, args := #[s], argTypes := #[24] }) (v : Value) (hs : a.eval s = v) (hrun : ∀ ty, (Builtin.clear_ #[24] ty #[v]).run Try.prog w = .ok (.tuple #[]) w2)
    (h : wpList Try.prog ops Q rest (a.put o.dst (.tuple #[])) w2) : wpList Try.prog ops Q (o :: rest) a w := by
  refine wpList_plain hgd fun K hK => ?_
  unfold Oper.wp
  have hex : (execOp a.eval o).run Try.prog w = .ok (.value (.tuple #[])) w2 := by
    simp only [execOp, ho, resolve, invoke, builtin, Sem.run_bind, Sem.run_pure, List.map_toArray, List.map_cons, List.map_nil, hs, hrun, Result.andThen]
  rw [hex]
  exact hK _ _ h

set_option maxRecDepth 100000 in
set_option maxHeartbeats 1000000 in
theorem delete_any (B : Nat) (v : Value) (L : List UInt8) (k : Nat) (w : World) (h : OwnBR B w v L) (hk0 : 0 < k) (hk : k ≤ L.length) :
    Calls Try.prog 91 #[v, .int .i64 0, .int .i64 (k : Int)] w fun e w' =>
      ∃ v', e = .returned v' ∧ OwnBR B w' v' (L.drop k) ∧ rowOf v' = rowOf v ∧ Touch (fun i => rowOf v = some i) w w' := by
  rcases h.2 with ⟨p, rfl, h0⟩ | ⟨g, cap, cur, rfl, hc0, hB, hg, hLc, hcm, hcs, htk⟩
  · omega
  · obtain ⟨p', c', e', _, _, hin, _⟩ := h.slice
    simp only [Value.slice.injEq] at e'
    obtain ⟨rfl, -, rfl⟩ := e'
    rw [Nat.mul_one] at hcs htk
    have Hcut : Hid (∀ w1, w1 = (w.drewN 1).setRow g (cur.toList.take 0 ++ bytesV (L.drop k) ++ cur.toList.drop (0 + (bytesV (L.drop k)).length)).toArray →
        ∃ w2, (∀ ty, (Builtin.clear_ #[24] ty #[.slice (some ⟨g, L.length - k, none⟩) k (cap - (L.length - k))]).run Try.prog w1 = .ok (.tuple #[]) w2) ∧ (OwnBR B w2 (.slice (some ⟨g, 0, none⟩) (L.length - k) cap) (L.drop k) ∧ rowOf (.slice (some ⟨g, 0, none⟩) (L.length - k) cap) = rowOf (.slice (some ⟨g, 0, none⟩) L.length cap) ∧ Touch (fun i => rowOf (.slice (some ⟨g, 0, none⟩) L.length cap) = some i) w w2)) := Lib.hid (fun w1 e1 => by
      obtain ⟨w2, hclear, hown, hT⟩ := row_cut (w := w.drewN 1) (w1 := w1) k hk0 hk hB hcm hg hcs hLc htk e1
      have hT' : Touch (fun i => i = g) w w2 := ((Touch.refl (fun i => i = g) w).drewN 1).trans hT
      exact ⟨w2, hclear, hown, by rw [rowOf_pos hc0, rowOf_pos hc0], hT'.mono (fun i _ hi => by rw [rowOf_pos hc0, hi])⟩)
    have Hg := Lib.hid hg
    have Hcs := Lib.hid hcs
    have Hdl := Lib.hid (show (L.drop k).length = L.length - k from List.length_drop)
    have Hin := Lib.hid (show BytesIn w (some ⟨g, k, none⟩) (L.drop k) by have := hin.drop k; rw [Nat.zero_add] at this; exact this)
    have Hin0 := Lib.hid (show L.length = k → BytesIn w (some ⟨g, 0, none⟩) (L.drop k) from fun e => by rw [List.drop_eq_nil_of_le (by omega)]; exact BytesIn.nil _ _)
    have hk2 : (k : Int) ≤ (L.length : Int) := by omega
    have hLc2 : L.length ≤ cap := hLc
    have hcm2 := hcm
    unfold maxLen at hcm2
    have hLk : L.length - k ≤ L.length := by omega
    have hLkc : ¬ cap = L.length - k := by omega
    have hsub : L.length - (L.length - k) = k := by omega
    have Hsub := Lib.hid hsub
    have hkz : ¬ (0 : Int) = (k : Int) := by omega
    clear h htk hin hg hcs hB hcm hsub
    by_cases hkc : k = cap
    · have hLk0 : L.length - k = 0 := by omega
      have HLk0 := Lib.hid hLk0
      have HLk : Hid (L.length = k) := Lib.hid (by omega)
      subst hkc
      clear hLk0
      go_enter Try.func91, Try.ntmps91
      go_wp2_with fail
      go_region_held3 (fun _ => True) (exact trivial)
        ((refine rgn_append_in rfl (.tmp 22) (.tmp 25) rfl g 0 k cur rfl Hg.out Hcs.out (some ⟨g, 0, none⟩) (L.drop k) 0 0 (by rw [Hdl.out, HLk0.out]) rfl ((Hin0.out HLk.out).drewN 1) (by omega) ?_; intro w1 hw1))
      obtain ⟨w2, hcl, hend⟩ := Hcut.out w1 hw1.out
      rw [HLk0.out] at hcl hend
      have Hcl := Lib.hid hcl
      have Hend := Lib.hid hend
      clear hcl hend hw1
      go_wp2_with (refine wpList_clear _ w2 rfl (.tmp 31) rfl (.slice (some ⟨g, 0, none⟩) L.length k) rfl (by rw [HLk.out]; exact Hcl.out) ?_)
      go_ret
      exact ⟨_, rfl, Hend.out⟩
    · have hkc2 : ¬ cap = k := fun e => hkc e.symm
      go_enter Try.func91, Try.ntmps91
      go_wp2_with fail
      go_region_held3 (fun _ => True) (exact trivial)
        ((refine rgn_append_in rfl (.tmp 22) (.tmp 25) rfl g 0 cap cur rfl Hg.out Hcs.out (some ⟨g, k, none⟩) (L.drop k) (L.length - k) (cap - k) Hdl.out rfl (Hin.out.drewN 1) (by omega) ?_; intro w1 hw1))
      obtain ⟨w2, hcl, hend⟩ := Hcut.out w1 hw1.out
      have Hcl := Lib.hid hcl
      have Hend := Lib.hid hend
      clear hcl hend hw1
      go_wp2_with (refine wpList_clear _ w2 rfl (.tmp 31) rfl (.slice (some ⟨g, L.length - k, none⟩) (L.length - (L.length - k)) (cap - (L.length - k))) rfl (by rw [Hsub.out]; exact Hcl.out) ?_)
      go_ret
      exact ⟨_, rfl, Hend.out⟩

end Go.Proofs.Ytpdkoijgemgaiaa
