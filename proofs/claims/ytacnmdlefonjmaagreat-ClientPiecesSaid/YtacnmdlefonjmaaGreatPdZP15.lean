/-
  Ground: ClAi, Delete, BytesClone2, FrA, FrB, FrC.
-/
import Derived.Test.YtacnmdlefonjmaaGreatPdZP14
import Derived.Test.YtacnmdlefonjmaaGreatPdZP1
import Derived.Lib.SliceRun
import Derived.BigQuiet
import Derived.Deep.QuietTactic
import Derived.Deep.RegionLaw
import Derived.Deep.RegionHeld3
import Derived.Test.YtacnmdlefonjmaaGreatPdZP11
import Derived.Deep.RegionWith
import Derived.Deep.DeepCutAuto
/-
  What comes of a client (layer 39): what a message is.
-/
namespace Go.Proofs.YtacnmdlefonjmaaGreat
open Go.RowKit
set_option linter.unusedVariables false
set_option linter.unusedSimpArgs false

set_option maxRecDepth 100000 in
set_option maxHeartbeats 8000000 in
theorem item_any (cb : Nat) (u : Value) (t : Bool) (ty : Int) (h0 : 0 ≤ ty) (h1 : ty < 256) (p0 : Option Addr) (n : Nat) (b : List UInt8) (cap : Nat) (whole : Bool) (er : Int) (w : World) (hc : ∀ i, w.cell? ⟨cb, i, none⟩ = (#[u, .bool t] : Array Value)[i]?) (hcb : cb < w.heap.size)
    (hbody : er = 0 → whole = true → n = b.length ∧ b.length ≤ 100000 ∧ BytesIn w p0 b) :
    Calls Tryz.prog 28 #[.pointer (some ⟨cb, 0, none⟩), .agg #[.int .u8 ty, .slice p0 n cap], .bool whole, .int .i64 er] w (ItR (itemV t whole ty b er) w) := by
  have ha1 := (Below.refl w.heap.size w).alloc (Nat.le_refl _) (.cells #[.int .u8 ty, .slice p0 n cap] 73)
  have ha2 := ha1.alloc ha1.size (.cells itZ 48)
  have hm := ((Blk.new w 73 #[.int .u8 ty, .slice p0 n cap]).alloc (.cells itZ 48)).cell
  have hbg := it_hz (w.alloc (.cells #[.int .u8 ty, .slice p0 n cap] 73))
  have hz2 : ((w.alloc (.cells #[.int .u8 ty, .slice p0 n cap] 73)).alloc (.cells itZ 48)).heap.size = w.heap.size + 1 + 1 := by simp
  rw [World.size_alloc] at hbg
  have hc2 : ∀ i, ((w.alloc (.cells #[.int .u8 ty, .slice p0 n cap] 73)).alloc (.cells itZ 48)).cell? ⟨cb, i, none⟩ = (#[u, .bool t] : Array Value)[i]? := fun i => (ha2.cell (p := ⟨cb, i, none⟩) hcb).trans (hc i)
  generalize hy : itemV t whole ty b er = z
  unfold itemV at hy
  have Hy := Lib.hid hy
  clear hy
  unfold itZ at *
  go_enter Tryz.func28, Tryz.ntmps28
  go_upto_region 1 with (fail)
  have hbd : er = 0 → whole = true → n = b.length ∧ b.length ≤ 100000 ∧ BytesIn ((w.alloc (.cells #[.int .u8 ty, .slice p0 n cap] 73)).alloc (.cells #[.int .i64 0, .int .i64 0, .int .i64 0, .int .i64 0, .slice none 0 0, .int .u8 0, .int .u8 0, .string ⟨#[]⟩, .string ⟨#[]⟩, .string ⟨#[]⟩, .slice none 0 0, .slice none 0 0, .slice none 0 0, .slice none 0 0, .int .i64 0, .string ⟨#[]⟩, .string ⟨#[]⟩] 48)) p0 b := fun e1 e2 => ⟨(hbody e1 e2).1, (hbody e1 e2).2.1, (hbody e1 e2).2.2.below ha2⟩
  generalize ((w.alloc (.cells #[.int .u8 ty, .slice p0 n cap] 73)).alloc (.cells #[.int .i64 0, .int .i64 0, .int .i64 0, .int .i64 0, .slice none 0 0, .int .u8 0, .int .u8 0, .string ⟨#[]⟩, .string ⟨#[]⟩, .string ⟨#[]⟩, .slice none 0 0, .slice none 0 0, .slice none 0 0, .slice none 0 0, .int .i64 0, .string ⟨#[]⟩, .string ⟨#[]⟩] 48)) = w2 at *
  have Hz2 := Lib.hid hz2
  have HBw := Lib.hid ha2
  have HBg := Lib.hid hbg
  have Hbd := Lib.hid hbd
  clear ha1 ha2 hz2 hbg hbody hc hbd
  obtain ⟨g, hg0⟩ : ∃ g, g = w.heap.size + 1 := ⟨_, rfl⟩
  rw [← hg0] at HBg ⊢
  have Hle : Hid (w.heap.size ≤ g) := Lib.hid (by omega)
  have Hlt : Hid (g < w2.heap.size) := Lib.hid (by have := Hz2.out; omega)
  clear hg0 Hz2
  by_cases he : er = 0
  · subst he
    cases whole with
    | false =>
      obtain rfl : itNo = z := ((if_pos rfl).trans (if_neg (by simp))).symm.trans Hy.out
      clear Hy
      clear hm hc2 Hbd Hlt
      go_upto_region 4 with (fail)
      go_wp2_with (refine wpList_store_it _ rfl (.tmp 8) (.tmp 17) rfl g _ _ rfl rfl HBg.out rfl rfl (by simp [Value.oneCell']) ?_; intro w8 hb8 hT8; have HB8 := Lib.hid hb8; have HT8 := Lib.hid hT8; clear hb8 hT8)
      exact bodyPost_ret (v := .agg #[.int .i64 0, .int .i64 0, .int .i64 0, .int .i64 0, .slice none 0 0, .int .u8 0, .int .u8 0, .string ⟨#[]⟩, .string ⟨#[]⟩, .string ⟨#[]⟩, .slice none 0 0, .slice none 0 0, .slice none 0 0, .slice none 0 0, .int .i64 0, .string ⟨#[]⟩, .string ⟨#[]⟩]) (results_cell_row (fn := Tryz.f28) (p := 8) (by kernel_rfl) _ _ g _ _ (0, 0) _ rfl HB8.out Tryz.underlying48 rfl it_info) rfl (it_fin HT8.out HBw.out Hle.out (itNo) (none) (0) (foNil) (SliceS.empty none 0 (by simp [maxLen])) (FoL.zero _ _ 0))
    | true =>
      obtain ⟨rfl, hl, hb⟩ := Hbd.out rfl rfl
      cases t with
      | true =>
        obtain rfl : messageV ty b = z := ((if_pos rfl).trans ((if_pos rfl).trans (if_pos rfl))).symm.trans Hy.out
        clear Hy
        have Hw := Lib.hid (message_any ty h0 h1 p0 b cap w2 hl hb)
        generalize messageV ty b = y at *
        clear hb Hbd
        go_wp2_with fail
        refine (Hw.out).mono ?_
        rintro e w9 ⟨p9, c9, a9, rfl, hs9, hl9, hb9⟩
        have HBg := Lib.hid (HBg.out.below hb9 Hlt.out)
        have HBw := Lib.hid (HBw.out.trans (hb9.mono HBw.out.size))
        have Hs9 := Lib.hid (hs9.weak PrS.still (S' := fun j => w.heap.size ≤ j ∧ j ≠ g) (fun k hk hS => ⟨by have := Hlt.out; have := Hle.out; omega, by have := Hlt.out; omega⟩))
        have Hl9 := Lib.hid (hl9.weak (S' := fun j => w.heap.size ≤ j ∧ j ≠ g) (fun k hk hS => ⟨by have := Hlt.out; have := Hle.out; omega, by have := Hlt.out; omega⟩))
        clear hs9 hl9 hb9
        unfold itArg itCells
        go_wp2_with (refine wpList_store_it _ rfl (.tmp 8) (.tmp 24) rfl g _ _ rfl rfl HBg.out rfl rfl (by simp [Value.oneCell']) ?_; intro w8 hb8 hT8; have HB8 := Lib.hid hb8; have HT8 := Lib.hid hT8; clear hb8 hT8)
        exact bodyPost_ret (v := .agg #[.int .i64 y.kind, .int .i64 y.hel.code, .int .i64 y.hel.process, .int .i64 y.hel.secret, .slice p9 y.hel.params.length c9, .int .u8 y.front.kind, .int .u8 y.front.what, .string y.front.name, .string y.front.portal, .string y.front.text, .slice a9.po y.front.oids.length a9.co, .slice a9.pf y.front.formats.length a9.cf, .slice a9.pr y.front.results.length a9.cr, .slice a9.pp y.front.params.length a9.cp, .int .i64 y.front.max, .string y.code, .string y.text]) (results_cell_row (fn := Tryz.f28) (p := 8) (by kernel_rfl) _ _ g _ _ (0, 0) _ rfl HB8.out Tryz.underlying48 rfl it_info) rfl (it_fin HT8.out HBw.out Hle.out (y) (p9) (c9) (a9) (Hs9.out) (Hl9.out))
      | false =>
        obtain rfl : firstV b = z := ((if_pos rfl).trans ((if_pos rfl).trans (if_neg (by simp)))).symm.trans Hy.out
        clear Hy
        have Hw := Lib.hid (first_any ty p0 b cap w2 hl hb)
        generalize firstV b = y at *
        clear hb Hbd
        go_wp2_with fail
        refine (Hw.out).mono ?_
        rintro e w9 ⟨p9, c9, a9, rfl, hs9, hl9, hb9⟩
        have HBg := Lib.hid (HBg.out.below hb9 Hlt.out)
        have HBw := Lib.hid (HBw.out.trans (hb9.mono HBw.out.size))
        have Hs9 := Lib.hid (hs9.weak PrS.still (S' := fun j => w.heap.size ≤ j ∧ j ≠ g) (fun k hk hS => ⟨by have := Hlt.out; have := Hle.out; omega, by have := Hlt.out; omega⟩))
        have Hl9 := Lib.hid (hl9.weak (S' := fun j => w.heap.size ≤ j ∧ j ≠ g) (fun k hk hS => ⟨by have := Hlt.out; have := Hle.out; omega, by have := Hlt.out; omega⟩))
        clear hs9 hl9 hb9
        unfold itArg itCells
        go_wp2_with (refine wpList_store_it _ rfl (.tmp 8) (.tmp 26) rfl g _ _ rfl rfl HBg.out rfl rfl (by simp [Value.oneCell']) ?_; intro w8 hb8 hT8; have HB8 := Lib.hid hb8; have HT8 := Lib.hid hT8; clear hb8 hT8)
        exact bodyPost_ret (v := .agg #[.int .i64 y.kind, .int .i64 y.hel.code, .int .i64 y.hel.process, .int .i64 y.hel.secret, .slice p9 y.hel.params.length c9, .int .u8 y.front.kind, .int .u8 y.front.what, .string y.front.name, .string y.front.portal, .string y.front.text, .slice a9.po y.front.oids.length a9.co, .slice a9.pf y.front.formats.length a9.cf, .slice a9.pr y.front.results.length a9.cr, .slice a9.pp y.front.params.length a9.cp, .int .i64 y.front.max, .string y.code, .string y.text]) (results_cell_row (fn := Tryz.f28) (p := 8) (by kernel_rfl) _ _ g _ _ (0, 0) _ rfl HB8.out Tryz.underlying48 rfl it_info) rfl (it_fin HT8.out HBw.out Hle.out (y) (p9) (c9) (a9) (Hs9.out) (Hl9.out))
  · obtain rfl : faultV er = z := (if_neg he).symm.trans Hy.out
    clear Hy
    have heb : (er == 0) = false := by simpa using he
    have Hw := Lib.hid (wrong_any er w2)
    generalize faultV er = y at *
    clear Hbd hm hc2
    go_wp2_with fail
    refine (Hw.out).mono ?_
    rintro e w9 ⟨p9, c9, a9, rfl, hs9, hl9, hb9⟩
    have HBg := Lib.hid (HBg.out.below hb9 Hlt.out)
    have HBw := Lib.hid (HBw.out.trans (hb9.mono HBw.out.size))
    have Hs9 := Lib.hid (hs9.weak PrS.still (S' := fun j => w.heap.size ≤ j ∧ j ≠ g) (fun k hk hS => ⟨by have := Hlt.out; have := Hle.out; omega, by have := Hlt.out; omega⟩))
    have Hl9 := Lib.hid (hl9.weak (S' := fun j => w.heap.size ≤ j ∧ j ≠ g) (fun k hk hS => ⟨by have := Hlt.out; have := Hle.out; omega, by have := Hlt.out; omega⟩))
    clear hs9 hl9 hb9
    unfold itArg itCells
    go_wp2_with (refine wpList_store_it _ rfl (.tmp 8) (.tmp 13) rfl g _ _ rfl rfl HBg.out rfl rfl (by simp [Value.oneCell']) ?_; intro w8 hb8 hT8; have HB8 := Lib.hid hb8; have HT8 := Lib.hid hT8; clear hb8 hT8)
    exact bodyPost_ret (v := .agg #[.int .i64 y.kind, .int .i64 y.hel.code, .int .i64 y.hel.process, .int .i64 y.hel.secret, .slice p9 y.hel.params.length c9, .int .u8 y.front.kind, .int .u8 y.front.what, .string y.front.name, .string y.front.portal, .string y.front.text, .slice a9.po y.front.oids.length a9.co, .slice a9.pf y.front.formats.length a9.cf, .slice a9.pr y.front.results.length a9.cr, .slice a9.pp y.front.params.length a9.cp, .int .i64 y.front.max, .string y.code, .string y.text]) (results_cell_row (fn := Tryz.f28) (p := 8) (by kernel_rfl) _ _ g _ _ (0, 0) _ rfl HB8.out Tryz.underlying48 rfl it_info) rfl (it_fin HT8.out HBw.out Hle.out (y) (p9) (c9) (a9) (Hs9.out) (Hl9.out))

end Go.Proofs.YtacnmdlefonjmaaGreat

/-
  The contract of slices.Delete at bytes, from the first byte on, on a row of the call's own.
-/
namespace Go.Proofs.YtacnmdlefonjmaaGreat
open Go.RowKit

/-- A block of bytes, the first of them told. -/
def RowIn (w : World) (g cap : Nat) (l : List UInt8) : Prop :=
  ∃ cur, w.heap[g]? = some (.cells cur 5 (0, 0)) ∧ l.length ≤ cap ∧ cur.size = cap ∧ cur.toList.take l.length = bytesV l ∧ ∀ i, i < cap → ∃ c : UInt8, cur[i]? = some (byteV c)

/-- 'append' in place. -/
theorem run_append_in (w : World) (ty : TypeId) (g n cap : Nat) (cur : Array Value) (hg : w.heap[g]? = some (.cells cur 5 (0, 0))) (hcs : cur.size = cap)
    (x : Value) (m : Nat) (news : List Value) (hs : Src Tryz.prog 1 32 x m news w) (hroom : n + m ≤ cap) :
    (Builtin.append_ #[32, 32] ty #[.slice (some ⟨g, 0, none⟩) n cap, x]).run Tryz.prog w =
      .ok (.slice (some ⟨g, 0, none⟩) (n + m) cap) (w.setRow g (cur.toList.take n ++ news ++ cur.toList.drop (n + news.length)).toArray) := by
  obtain ⟨i, hi, hz0, hz1, hz2⟩ := info_parts Tryz.info5
  have hl := hs.newsLen
  have hfit : n + news.length ≤ cur.size := by rw [hl, hcs]; omega
  have hst := run_storeCells_at Tryz.prog g n 5 news 0 cur w hg (by simpa using hfit) hs.one
  simp only [Nat.add_zero] at hst
  have hc := hs.cells
  rw [← hz1] at hc
  have hzn : n * i.size = n := by rw [hz1]; omega
  have ht := Tryz.underlying32
  rcases hs.kind with ⟨e', hk⟩ | hk <;> simp [Builtin.append_, run_underlying ht, sizeOf, typeInfo, hi, hs.len, hroom, hc, Addr.add_lit, hzn, hst]

theorem run_clear_row (w : World) (ty : TypeId) (g o k c : Nat) (cur : Array Value) (hg : w.heap[g]? = some (.cells cur 5 (0, 0))) (hk : 0 < k) (hfit : o + k ≤ cur.size) :
    (Builtin.clear_ #[32] ty #[.slice (some ⟨g, o, none⟩) k c]).run Tryz.prog w = .ok (.tuple #[]) (w.setRow g (cur.toList.take o ++ List.replicate k (Value.int .u8 0) ++ cur.toList.drop (o + k)).toArray) := by
  obtain ⟨i, hi, hz0, hz1, hz2⟩ := info_parts Tryz.info5
  have hz : (Value.int .u8 0).cells = #[.int .u8 0] := rfl
  have hzc : (Builtin.zeroCells (Value.int .u8 0).cells k).toList = List.replicate k (.int .u8 0) := by
    rw [hz]
    simp [Builtin.zeroCells]
    apply List.ext_getElem
    · simp
    · intro i h1 h2
      simp [Nat.mod_one]
  have hv : ∀ w, (zeroValue 5).run Tryz.prog w = .ok (.int .u8 0) w := by intro w; simp [zeroValue, typeInfo, hi, hz0]
  have hst := run_storeCells_at Tryz.prog g o 5 (List.replicate k (.int .u8 0)) 0 cur w hg (by simpa using hfit) (by intro v hv'; rw [List.eq_of_mem_replicate hv']; rfl)
  simp only [Nat.add_zero, List.length_replicate] at hst
  have ht := Tryz.underlying32
  obtain ⟨m, rfl⟩ : ∃ m, k = m + 1 := ⟨k - 1, by omega⟩
  simp [Builtin.clear_, run_underlying ht, hv, hzc, hst]

/-- The row behind 'append(s[:0], s[k:]...)' and behind 'clear'. -/
theorem row_cut {B g cap : Nat} {w w1 : World} {L : List UInt8} (k : Nat) (hk0 : 0 < k) (hk : k ≤ L.length) (hB : B ≤ g) (hc : cap ≤ maxLen) {cur : Array Value} (hg : w.heap[g]? = some (.cells cur 5 (0, 0))) (hcs : cur.size = cap) (hLc : L.length ≤ cap) (_htk : cur.toList.take L.length = bytesV L)
    (e1 : w1 = w.setRow g (cur.toList.take 0 ++ bytesV (L.drop k) ++ cur.toList.drop (0 + (bytesV (L.drop k)).length)).toArray) :
    ∃ w2, (∀ ty, (Builtin.clear_ #[32] ty #[.slice (some ⟨g, L.length - k, none⟩) k (cap - (L.length - k))]).run Tryz.prog w1 = .ok (.tuple #[]) w2) ∧ OwnBR B w2 (.slice (some ⟨g, 0, none⟩) (L.length - k) cap) (L.drop k) ∧ Touch (fun i => i = g) w w2 := by
  have hl : (bytesV (L.drop k)).length = L.length - k := by rw [bytesV_length, List.length_drop]
  have hg1 := setRow_heap w g cur (cur.toList.take 0 ++ bytesV (L.drop k) ++ cur.toList.drop (0 + (bytesV (L.drop k)).length)).toArray 5 (0, 0) hg
  rw [← e1] at hg1
  have hs1 : (cur.toList.take 0 ++ bytesV (L.drop k) ++ cur.toList.drop (0 + (bytesV (L.drop k)).length)).toArray.size = cap := by
    simp only [List.size_toArray, List.length_append, List.length_take, List.length_drop, Array.length_toList, hl]
    omega
  generalize hcur1 : (cur.toList.take 0 ++ bytesV (L.drop k) ++ cur.toList.drop (0 + (bytesV (L.drop k)).length)).toArray = cur1 at hg1 hs1
  have htk1 : cur1.toList.take (L.length - k) = bytesV (L.drop k) := by
    rw [← hcur1]
    simp only [List.take_zero, List.nil_append]
    rw [← hl, List.take_left]
  refine ⟨_, fun ty => run_clear_row w1 ty g (L.length - k) k _ cur1 hg1 hk0 (by omega), ?_, ?_⟩
  · have hg2 := setRow_heap w1 g cur1 (cur1.toList.take (L.length - k) ++ List.replicate k (Value.int .u8 0) ++ cur1.toList.drop (L.length - k + k)).toArray 5 (0, 0) hg1
    refine ⟨by rw [hl, List.length_drop]; omega, .inr ⟨g, cap, _, by rw [List.length_drop], by omega, hB, hg2, by rw [List.length_drop]; omega, hc, ?_, ?_⟩⟩
    · simp only [List.size_toArray, List.length_append, List.length_take, List.length_drop, Array.length_toList, List.length_replicate]
      omega
    · rw [List.length_drop, Nat.mul_one]
      rw [htk1]
      simp only [List.append_assoc]
      rw [← hl, List.take_left]
  · rw [e1]
    exact ⟨rfl, rfl, rfl, by simp [World.setRow], fun j _ hj => (setRow_other _ g j _ hj).trans (setRow_other w g j _ hj)⟩

/-- The same as a step of a region that draws its order. -/
theorem rgn_append_in {ops : Array Oper} {o : Oper} {a : Act} {w : World} {K : Act → World → Prop} {Q : Exit → Act → World → Prop} {E : Prop} (hgd : o.guard = none) (s y : Operand)
    (ho : o.op = .call { callee := .builtin .append, args := #[s, y], argTypes := #[32, 32] })
    (g n cap : Nat) (cur : Array Value) (hsv : a.eval s = .slice (some ⟨g, 0, none⟩) n cap) (hg : w.heap[g]? = some (.cells cur 5 (0, 0))) (hcs : cur.size = cap)
    (p : Option Addr) (l : List UInt8) (m c : Nat) (hm : l.length = m) (hx : a.eval y = .slice p m c) (hin : BytesIn w p l) (hroom : n + m ≤ cap)
    (h : ∀ w', Hid (w' = w.setRow g (cur.toList.take n ++ bytesV l ++ cur.toList.drop (n + (bytesV l).length)).toArray) → K (a.put o.dst (.slice (some ⟨g, 0, none⟩) (n + m) cap)) w') :
    if Region.wanted o (yielded ops a.tmps) = true then Oper.wp Tryz.prog o a w K Q else E := by
  have hw : Region.wanted o (yielded ops a.tmps) = true := by simp [Region.wanted, hgd]
  rw [if_pos hw]
  subst hm
  have hrun := run_append_in w o.type g n cap cur hg hcs _ l.length _ (hin.src Tryz.underlying32 c) hroom
  unfold Oper.wp
  have hex : (execOp a.eval o).run Tryz.prog w = .ok (.value (.slice (some ⟨g, 0, none⟩) (n + l.length) cap)) (w.setRow g (cur.toList.take n ++ bytesV l ++ cur.toList.drop (n + (bytesV l).length)).toArray) := by
    simp only [execOp, ho, resolve, invoke, builtin, Sem.run_bind, Sem.run_pure, List.map_toArray, List.map_cons, List.map_nil, hsv, hx, hrun, Result.andThen]
  rw [hex]
  exact h _ (Lib.hid rfl)

theorem wpList_clear {ops : Array Oper} {rest : List Oper} {o : Oper} {a : Act} {Q : Exit → Act → World → Prop} (w w2 : World) (hgd : o.guard = none) (s : Operand)
    (ho : o.op = .call { callee := .builtin .clear, args := #[s], argTypes := #[32] }) (v : Value) (hs : a.eval s = v) (hrun : ∀ ty, (Builtin.clear_ #[32] ty #[v]).run Tryz.prog w = .ok (.tuple #[]) w2)
    (h : wpList Tryz.prog ops Q rest (a.put o.dst (.tuple #[])) w2) : wpList Tryz.prog ops Q (o :: rest) a w := by
  refine wpList_plain hgd fun K hK => ?_
  unfold Oper.wp
  have hex : (execOp a.eval o).run Tryz.prog w = .ok (.value (.tuple #[])) w2 := by
    simp only [execOp, ho, resolve, invoke, builtin, Sem.run_bind, Sem.run_pure, List.map_toArray, List.map_cons, List.map_nil, hs, hrun, Result.andThen]
  rw [hex]
  exact hK _ _ h

set_option maxRecDepth 100000 in
set_option maxHeartbeats 1000000 in
theorem delete_any (B : Nat) (v : Value) (L : List UInt8) (k : Nat) (w : World) (h : OwnBR B w v L) (hk0 : 0 < k) (hk : k ≤ L.length) :
    Calls Tryz.prog 62 #[v, .int .i64 0, .int .i64 (k : Int)] w fun e w' =>
      ∃ v', e = .returned v' ∧ OwnBR B w' v' (L.drop k) ∧ rowOf v' = rowOf v ∧ Touch (fun i => rowOf v = some i) w w' := by
  rcases h.2 with ⟨p, rfl, h0⟩ | ⟨g, cap, cur, rfl, hc0, hB, hg, hLc, hcm, hcs, htk⟩
  · omega
  · obtain ⟨p', c', e', _, _, hin, _⟩ := h.slice
    simp only [Value.slice.injEq] at e'
    obtain ⟨rfl, -, rfl⟩ := e'
    rw [Nat.mul_one] at hcs htk
    have Hcut : Hid (∀ w1, w1 = (w.drewN 1).setRow g (cur.toList.take 0 ++ bytesV (L.drop k) ++ cur.toList.drop (0 + (bytesV (L.drop k)).length)).toArray →
        ∃ w2, (∀ ty, (Builtin.clear_ #[32] ty #[.slice (some ⟨g, L.length - k, none⟩) k (cap - (L.length - k))]).run Tryz.prog w1 = .ok (.tuple #[]) w2) ∧ (OwnBR B w2 (.slice (some ⟨g, 0, none⟩) (L.length - k) cap) (L.drop k) ∧ rowOf (.slice (some ⟨g, 0, none⟩) (L.length - k) cap) = rowOf (.slice (some ⟨g, 0, none⟩) L.length cap) ∧ Touch (fun i => rowOf (.slice (some ⟨g, 0, none⟩) L.length cap) = some i) w w2)) := Lib.hid (fun w1 e1 => by
      obtain ⟨w2, hclear, hown, hT⟩ := row_cut (w := w.drewN 1) (w1 := w1) k hk0 hk hB hcm hg hcs hLc htk e1
      have hT' : Touch (fun i => i = g) w w2 := ((Touch.refl (fun i => i = g) w).drewN 1).trans hT
      exact ⟨w2, hclear, hown, by rw [rowOf_pos hc0, rowOf_pos hc0], hT'.mono (fun i _ hi => by rw [rowOf_pos hc0, hi])⟩)
    have Hg := Lib.hid hg
    have Hcs := Lib.hid hcs
    have Hdl := Lib.hid (show (L.drop k).length = L.length - k from List.length_drop)
    have Hin := Lib.hid (show BytesIn w (some ⟨g, k, none⟩) (L.drop k) by have := hin.drop k; rw [Nat.zero_add] at this; exact this)
    have Hin0 := Lib.hid (show L.length = k → BytesIn w (some ⟨g, 0, none⟩) (L.drop k) from fun e => by rw [List.drop_eq_nil_of_le (by omega)]; exact BytesIn.nil _ _)
    have hk2 : (k : Int) ≤ (L.length : Int) := by omega
    have hLc2 : L.length ≤ cap := hLc
    have hcm2 := hcm
    unfold maxLen at hcm2
    have hLk : L.length - k ≤ L.length := by omega
    have hLkc : ¬ cap = L.length - k := by omega
    have hsub : L.length - (L.length - k) = k := by omega
    have Hsub := Lib.hid hsub
    have hkz : ¬ (0 : Int) = (k : Int) := by omega
    clear h htk hin hg hcs hB hcm hsub
    by_cases hkc : k = cap
    · have hLk0 : L.length - k = 0 := by omega
      have HLk0 := Lib.hid hLk0
      have HLk : Hid (L.length = k) := Lib.hid (by omega)
      subst hkc
      clear hLk0
      go_enter Tryz.func62, Tryz.ntmps62
      go_wp2_with fail
      go_region_held3 (fun _ => True) (exact trivial)
        ((refine rgn_append_in rfl (.tmp 22) (.tmp 25) rfl g 0 k cur rfl Hg.out Hcs.out (some ⟨g, 0, none⟩) (L.drop k) 0 0 (by rw [Hdl.out, HLk0.out]) rfl ((Hin0.out HLk.out).drewN 1) (by omega) ?_; intro w1 hw1))
      obtain ⟨w2, hcl, hend⟩ := Hcut.out w1 hw1.out
      rw [HLk0.out] at hcl hend
      have Hcl := Lib.hid hcl
      have Hend := Lib.hid hend
      clear hcl hend hw1
      go_wp2_with (refine wpList_clear _ w2 rfl (.tmp 31) rfl (.slice (some ⟨g, 0, none⟩) L.length k) rfl (by rw [HLk.out]; exact Hcl.out) ?_)
      go_ret
      exact ⟨_, rfl, Hend.out⟩
    · have hkc2 : ¬ cap = k := fun e => hkc e.symm
      go_enter Tryz.func62, Tryz.ntmps62
      go_wp2_with fail
      go_region_held3 (fun _ => True) (exact trivial)
        ((refine rgn_append_in rfl (.tmp 22) (.tmp 25) rfl g 0 cap cur rfl Hg.out Hcs.out (some ⟨g, k, none⟩) (L.drop k) (L.length - k) (cap - k) Hdl.out rfl (Hin.out.drewN 1) (by omega) ?_; intro w1 hw1))
      obtain ⟨w2, hcl, hend⟩ := Hcut.out w1 hw1.out
      have Hcl := Lib.hid hcl
      have Hend := Lib.hid hend
      clear hcl hend hw1
      go_wp2_with (refine wpList_clear _ w2 rfl (.tmp 31) rfl (.slice (some ⟨g, L.length - k, none⟩) (L.length - (L.length - k)) (cap - (L.length - k))) rfl (by rw [Hsub.out]; exact Hcl.out) ?_)
      go_ret
      exact ⟨_, rfl, Hend.out⟩

end Go.Proofs.YtacnmdlefonjmaaGreat

/-
  The contract of slices.Clone at bytes.
-/
namespace Go.Proofs.YtacnmdlefonjmaaGreat
open Go.RowKit

theorem sclone_any (p : Option Addr) (l : List UInt8) (cap : Nat) (w : World) (hl : l.length ≤ 1000000000) (hb : BytesIn w p l) :
    Calls Tryz.prog 51 #[.slice p l.length cap] w fun e w' =>
      ∃ v, e = .returned v ∧ OwnBR w.heap.size w' v l ∧ Below w.heap.size w w' := by
  have q22 : ∀ (w : World) (a : Option Addr) (n c n' c' : Nat), (binOp .eql 32 (.slice a n c) (.slice none n' c')).run Tryz.prog w = .ok (.bool a.isNone) w :=
    fun w a n c n' c' => Lib.run_eql_slice_nil w _ _ a n c n' c' Tryz.underlying32
  have Hb := Lib.hid hb
  cases p with
  | none =>
    have hl0 : l = [] := by
      by_cases h0 : l = []
      · exact h0
      · obtain ⟨b, o, e⟩ := hb.addr (List.length_pos_iff.2 h0)
        cases e
    subst hl0
    clear hb
    go_enter Tryz.func51, Tryz.ntmps51
    go_wp2
    go_ret
    exact ⟨_, rfl, OwnBR.empty _ _ _, Below.refl _ _⟩
  | some a =>
    clear hb
    go_enter Tryz.func51, Tryz.ntmps51
    go_wp2_with (first | (at_builtin; refine step_appendBR _ rfl _ _ rfl w.heap.size (.slice (some ⟨w.heap.size, 0, none⟩) 0 0) [] rfl (OwnBR.empty _ _ _) _ l _ _ rfl rfl (Hb.out.alloc _) (by simp; omega) (by simp) ?_; intro v1 w1 hown1 hg1 _))
    go_ret
    exact ⟨_, rfl, by simpa using hown1, ((Below.refl _ _).alloc (Nat.le_refl _) _).trans (Below.of_row hg1 (by simp) (fun k hk => by rw [rowOf_zero] at hk; cases hk))⟩

end Go.Proofs.YtacnmdlefonjmaaGreat

/-
  The contracts of package frame (layer 4): a framer in memory; New, Feed, Size, Begin, whole.
-/
namespace Go.Proofs.YtacnmdlefonjmaaGreat
open Go.RowKit

/-- A framer in memory: its struct in block sb, its bytes in a row of the call's own. -/
structure FrO (B : Nat) (w : World) (sb : Nat) (typed : Bool) (L : List UInt8) (most room : Nat) (wrong : Int) (v : Value) : Prop where
  blk : Blk w sb 89 #[.bool typed, v, .int .i64 (most : Int), .int .i64 (room : Int), .int .i64 wrong]
  own : OwnBR B w v L
  sB : B ≤ sb
  no : rowOf v ≠ some sb

section
variable {B : Nat} {w w' : World} {sb : Nat} {typed : Bool} {L : List UInt8} {most room : Nat} {wrong : Int} {v : Value}
theorem FrO.touch {p : Nat → Prop} (h : FrO B w sb typed L most room wrong v) (ht : Touch p w w') (h1 : ¬ p sb) (h2 : ∀ k, rowOf v = some k → ¬ p k) : FrO B w' sb typed L most room wrong v :=
  ⟨ht.blk h.blk h1, h.own.touch ht h2, h.sB, h.no⟩
theorem FrO.still (h : FrO B w sb typed L most room wrong v) (hb : Below w.heap.size w w') : FrO B w' sb typed L most room wrong v :=
  h.touch (Touch.of_below (p := fun _ => False) hb) (fun e => e) (fun _ _ e => e)
theorem FrO.drew (h : FrO B w sb typed L most room wrong v) : FrO B w.drew sb typed L most room wrong v := h.touch ((Touch.refl (fun _ => False) w).drew) (fun e => e) (fun _ _ e => e)
theorem FrO.alloc (h : FrO B w sb typed L most room wrong v) (o : Obj) : FrO B (w.alloc o) sb typed L most room wrong v := h.still ((Below.refl _ _).alloc (Nat.le_refl _) o)
theorem FrO.setWrong (h : FrO B w sb typed L most room wrong v) (e : Int) : FrO B (w.setCell ⟨sb, 4, none⟩ (.int .i64 e)) sb typed L most room e v := by
  have hT : Touch (fun i => i = sb) w (w.setCell ⟨sb, 4, none⟩ (.int .i64 e)) := (Touch.refl (fun i => i = sb) w).setCell (x := ⟨sb, 4, none⟩) (fun _ => rfl) _
  refine ⟨by simpa using h.blk.set_ 4 (.int .i64 e), h.own.touch hT (fun k hk e => h.no (by rw [hk, e])), h.sB, h.no⟩
/-- New bytes. -/
theorem FrO.setBytes {L' : List UInt8} {v' : Value} (h : Blk w sb 89 #[.bool typed, v, .int .i64 (most : Int), .int .i64 (room : Int), .int .i64 wrong]) (hB : B ≤ sb) (ho : OwnBR B w v' L') (hn : rowOf v' ≠ some sb) : FrO B (w.setCell ⟨sb, 1, none⟩ v') sb typed L' most room wrong v' := by
  have hT : Touch (fun i => i = sb) w (w.setCell ⟨sb, 1, none⟩ v') := (Touch.refl (fun i => i = sb) w).setCell (x := ⟨sb, 1, none⟩) (fun _ => rfl) _
  exact ⟨by simpa using h.set_ 1 v', ho.touch hT (fun k hk e => hn (by rw [hk, e])), hB, hn⟩
end

theorem below_ofDr {w w' : World} (h : Below w.drew.heap.size w.drew w') : Below w.heap.size w w' := (((Touch.refl (fun _ => False) w).drew).below (Nat.le_refl _) (fun _ e => e.elim)).trans h

theorem frReady_nil (w : World) : Calls Tryz.prog 44 #[.pointer none] w fun e w' => e = .returned (.bool false) ∧ w = w' := by
  go_enter Tryz.func44, Tryz.ntmps44
  go_wp2
  go_ret
  exact ⟨rfl, rfl⟩

theorem frReady_blk (sb : Nat) (a b c d : Value) (room : Nat) (w : World) (h : ∀ i, w.cell? ⟨sb, i, none⟩ = (#[a, b, c, .int .i64 (room : Int), d] : Array Value)[i]?) :
    Calls Tryz.prog 44 #[.pointer (some ⟨sb, 0, none⟩)] w fun e w' => e = .returned (.bool (decide (0 < room))) ∧ w = w' := by
  by_cases h0 : 0 < room
  · have hd : decide (0 < room) = true := by simpa using h0
    have Hd := Lib.hid hd
    clear hd
    go_enter Tryz.func44, Tryz.ntmps44
    go_wp2
    go_ret
    exact ⟨ret_bool (by rw [Hd.out] <;> simp <;> omega), rfl⟩
  · obtain rfl : room = 0 := by omega
    go_enter Tryz.func44, Tryz.ntmps44
    go_wp2
    go_ret
    exact ⟨rfl, rfl⟩

theorem frNew_ok (most room : Nat) (hello : Bool) (w : World) (h1 : 4 ≤ most) (h2 : most ≤ 65536) (h3 : most < room) (h4 : room ≤ 262144) :
    Calls Tryz.prog 21 #[.int .i64 (most : Int), .int .i64 (room : Int), .bool hello] w fun e w' =>
      e = .returned (.tuple #[.pointer (some ⟨w.heap.size, 0, none⟩), .int .i64 0]) ∧ FrO w.heap.size w' w.heap.size (!hello) [] most room 0 (.slice none 0 0) ∧ Below w.heap.size w w' := by
  have Hend : Hid (∀ t, FrO w.heap.size (w.alloc (.cells #[.bool t, .slice none 0 0, .int .i64 (most : Int), .int .i64 (room : Int), .int .i64 0] 89)) w.heap.size t [] most room 0 (.slice none 0 0)) :=
    Lib.hid (fun t => ⟨Blk.new _ _ _, OwnBR.empty _ _ _, Nat.le_refl _, by simp [rowOf]⟩)
  cases hello
  all_goals
    go_enter Tryz.func21, Tryz.ntmps21
    go_wp2
    go_ret2
    exact ⟨rfl, Hend.out _, (Below.refl _ _).alloc (Nat.le_refl _) _⟩

theorem frSize_nil (w : World) : Calls Tryz.prog 37 #[.pointer none] w fun e w' => e = .returned (.int .i64 0) ∧ w = w' := by
  go_enter Tryz.func37, Tryz.ntmps37
  go_wp2_with (go_at_call 44; refine (frReady_nil _).mono ?_; rintro e w1 ⟨rfl, rfl⟩)
  go_ret
  exact ⟨rfl, rfl⟩

theorem frSize_zero (sb : Nat) (a b c d : Value) (w : World) (h : ∀ i, w.cell? ⟨sb, i, none⟩ = (#[a, b, c, .int .i64 0, d] : Array Value)[i]?) :
    Calls Tryz.prog 37 #[.pointer (some ⟨sb, 0, none⟩)] w fun e w' => e = .returned (.int .i64 0) ∧ w = w' := by
  go_enter Tryz.func37, Tryz.ntmps37
  go_wp2_with (go_at_call 44; refine (frReady_blk sb a b c d 0 _ h).mono ?_; rintro e w1 ⟨rfl, rfl⟩; simp only [Nat.lt_irrefl, decide_false])
  go_ret
  exact ⟨rfl, rfl⟩

theorem frSize_any (B sb : Nat) (typed : Bool) (L : List UInt8) (most room : Nat) (wrong : Int) (v : Value) (w : World) (h : FrO B w sb typed L most room wrong v) (hr : 0 < room) :
    Calls Tryz.prog 37 #[.pointer (some ⟨sb, 0, none⟩)] w fun e w' => e = .returned (.int .i64 (L.length : Nat)) ∧ w = w' := by
  obtain ⟨p, c, rfl, _⟩ := h.own.slice
  have hc := h.blk.cell
  have Hd := Lib.hid (show decide (0 < room) = true by simpa using hr)
  clear h
  go_enter Tryz.func37, Tryz.ntmps37
  go_wp2_with (go_at_call 44; refine (frReady_blk sb _ _ _ _ room _ hc).mono ?_; rintro e w1 ⟨rfl, rfl⟩; rw [Hd.out])
  go_ret
  exact ⟨rfl, rfl⟩

theorem frBegin_nil (w : World) : Calls Tryz.prog 36 #[.pointer none] w fun e w' => e = .returned (.tuple #[]) ∧ w = w' := by
  go_enter Tryz.func36, Tryz.ntmps36
  go_wp2_with (go_at_call 44; refine (frReady_nil _).mono ?_; rintro e w1 ⟨rfl, rfl⟩)
  go_end0
  exact ⟨rfl, rfl⟩

theorem frBegin_zero (sb : Nat) (a b c d : Value) (w : World) (h : ∀ i, w.cell? ⟨sb, i, none⟩ = (#[a, b, c, .int .i64 0, d] : Array Value)[i]?) :
    Calls Tryz.prog 36 #[.pointer (some ⟨sb, 0, none⟩)] w fun e w' => e = .returned (.tuple #[]) ∧ w = w' := by
  go_enter Tryz.func36, Tryz.ntmps36
  go_wp2_with (go_at_call 44; refine (frReady_blk sb a b c d 0 _ h).mono ?_; rintro e w1 ⟨rfl, rfl⟩; simp only [Nat.lt_irrefl, decide_false])
  go_end0
  exact ⟨rfl, rfl⟩

theorem frFeed_nil (x : Value) (w : World) : Calls Tryz.prog 25 #[.pointer none, x] w fun e w' => e = .returned (.int .i64 2) ∧ w = w' := by
  go_enter Tryz.func25, Tryz.ntmps25
  go_wp2_with (go_at_call 44; refine (frReady_nil _).mono ?_; rintro e w1 ⟨rfl, rfl⟩)
  go_ret
  exact ⟨rfl, rfl⟩

theorem frFeed_zero (sb : Nat) (a b c d x : Value) (w : World) (h : ∀ i, w.cell? ⟨sb, i, none⟩ = (#[a, b, c, .int .i64 0, d] : Array Value)[i]?) :
    Calls Tryz.prog 25 #[.pointer (some ⟨sb, 0, none⟩), x] w fun e w' => e = .returned (.int .i64 2) ∧ w = w' := by
  go_enter Tryz.func25, Tryz.ntmps25
  go_wp2_with (go_at_call 44; refine (frReady_blk sb a b c d 0 _ h).mono ?_; rintro e w1 ⟨rfl, rfl⟩; simp only [Nat.lt_irrefl, decide_false])
  go_ret
  exact ⟨rfl, rfl⟩

/-- What a step on a framer may turn. -/
abbrev FrT (sb : Nat) (v : Value) (w w' : World) : Prop := Touch (fun i => i = sb ∨ rowOf v = some i) w w'

set_option maxRecDepth 100000 in
set_option maxHeartbeats 1000000 in
theorem frFeed_ok (B sb : Nat) (typed : Bool) (L : List UInt8) (most room : Nat) (wrong : Int) (v : Value) (p : Option Addr) (l : List UInt8) (c : Nat) (w : World) (h : FrO B w sb typed L most room wrong v) (hr : 0 < room) (hrm : room ≤ 262144)
    (hfit : L.length + l.length ≤ room) (hBw : B ≤ w.heap.size) (hl : BytesIn w p l) :
    Calls Tryz.prog 25 #[.pointer (some ⟨sb, 0, none⟩), .slice p l.length c] w fun e w' => ∃ v', e = .returned (.int .i64 0) ∧ FrO B w' sb typed (L ++ l) most room wrong v' ∧ (∀ k, rowOf v' = some k → rowOf v = some k ∨ w.heap.size ≤ k) ∧ FrT sb v w w' := by
  obtain ⟨pv, cv, rfl, _, hcv, _⟩ := h.own.slice
  have H := Lib.hid h
  have hc := h.blk.cell
  have hsl := h.blk.lt
  have Hd := Lib.hid (show decide (0 < room) = true by simpa using hr)
  have Hl := Lib.hid hl
  have hno : ¬ ((room : Int) - (L.length : Int) < (l.length : Int)) := by omega
  have hwr : IntKind.i64.wrap ((room : Int) - (L.length : Int)) = (room : Int) - (L.length : Int) := by rw [IntKind.wrap_i64]; omega
  clear h hl hcv
  go_enter Tryz.func25, Tryz.ntmps25
  go_wp2_with fail
  refine (frReady_blk sb _ _ _ _ room _ hc).mono ?_
  rintro e w1 ⟨rfl, rfl⟩
  rw [Hd.out]
  go_wp2_with fail
  go_quiet (fail)
  have H1 : Hid (FrO B (w.drewN nq) sb typed L most room wrong (.slice pv L.length cv)) := Lib.hid (H.out.touch ((Touch.refl (fun _ => False) w).drewN nq) (fun e => e) (fun _ _ e => e))
  have Hl1 : Hid (BytesIn (w.drewN nq) p l) := Lib.hid (Hl.out.drewN nq)
  have HT1 : Hid (Touch (fun _ => False) w (w.drewN nq)) := Lib.hid ((Touch.refl (fun _ => False) w).drewN nq)
  have hsz1 : (w.drewN nq).heap.size = w.heap.size := rfl
  generalize w.drewN nq = w1 at *
  have hc1 := H1.out.blk.cell
  have Hsz1 := Lib.hid hsz1
  have hBw1 : B ≤ w1.heap.size := by omega
  clear hc hsz1
  go_wp2_with (at_builtin; refine step_appendBR _ rfl (.tmp 27) (.tmp 28) rfl B (.slice pv L.length cv) L rfl H1.out.own p l _ c rfl rfl Hl1.out (by omega) hBw1 ?_; intro v2 w2 ho2 hg2 hn2; obtain ⟨p2, n2, c2, rfl⟩ : ∃ p n c, v2 = .slice p n c := (by obtain ⟨p, c, h, _⟩ := ho2.slice; exact ⟨p, _, c, h⟩); have hT2 := Touch.of_row hg2; have hb2 := hT2.blk H1.out.blk (fun e => H1.out.no e.symm); have hf2 := hb2.frozen 1; have hc2 := hb2.cell; have hno2 : rowOf (.slice p2 n2 c2) ≠ some sb := (fun e => by rcases hn2 sb e with h | h; (· exact H1.out.no h); (· have := H1.out.blk.lt; omega)); have Hn2 := Lib.hid hn2; have Hfin := Lib.hid (FrO.setBytes hb2 H1.out.sB ho2 hno2); have HT2 := Lib.hid hT2; clear ho2 hg2 hn2 hT2 hb2 hno2 hc1)
  go_ret
  refine ⟨_, rfl, Hfin.out, fun k hk => by have := Hn2.out k hk; rw [Hsz1.out] at this; exact this, ?_⟩
  exact ((HT1.out.mono (q := fun i => i = sb ∨ rowOf (.slice pv L.length cv) = some i) (fun _ _ e => e.elim)).trans (HT2.out.mono (fun _ _ e => .inr e.symm))).setCell (x := ⟨sb, 1, none⟩) (fun _ => .inl rfl) _

end Go.Proofs.YtacnmdlefonjmaaGreat

/-
  The contracts of package frame (layer 4): head, size, check, whole.
-/
namespace Go.Proofs.YtacnmdlefonjmaaGreat
open Go.RowKit

def headN (t : Bool) : Nat := if t then 1 else 0

theorem frHead_any (t : Bool) (w : World) : Calls Tryz.prog 52 #[.agg #[.bool t]] w fun e w' => e = .returned (.int .i64 (headN t : Nat)) ∧ Below w.heap.size w w' := by
  cases t
  all_goals
    go_enter Tryz.func52, Tryz.ntmps52
    go_wp2
    go_ret
    exact ⟨rfl, (Below.refl _ _).alloc (Nat.le_refl _) _⟩

/-- The number that stands as the first message's length. -/
def frN (t : Bool) (L : List UInt8) : Int := be ((L.drop (headN t)).take 4)

theorem frN_bd (t : Bool) (L : List UInt8) : 0 ≤ frN t L ∧ frN t L < 4294967296 := by
  have h := be_bd ((L.drop (headN t)).take 4)
  have hl : ((L.drop (headN t)).take 4).length ≤ 4 := by rw [List.length_take]; omega
  unfold frN
  refine ⟨h.1, ?_⟩
  have hp : (256 : Int) ^ ((L.drop (headN t)).take 4).length ≤ 4294967296 := pow_le4 _ 4 hl (by omega)
  omega

theorem frTold {t : Bool} {L : List UInt8} (h : headN t + 4 ≤ L.length) : getV L (headN t : Nat) 4 = (frN t L, 0) := by
  rw [getV_yes rfl (by omega) (by omega)]
  rfl
theorem frUntold {t : Bool} {L : List UInt8} (h : L.length < headN t + 4) : getV L (headN t : Nat) 4 = (0, 3) := getV_short rfl (by omega) (by omega)

set_option maxRecDepth 100000 in
set_option maxHeartbeats 1000000 in
theorem frSizeOf (B sb : Nat) (t : Bool) (L : List UInt8) (most room : Nat) (wrong : Int) (v : Value) (n r : Int) (w : World) (h : FrO B w sb t L most room wrong v) (hg : getV L (headN t : Nat) 4 = (n, r)) :
    Calls Tryz.prog 73 #[.pointer (some ⟨sb, 0, none⟩)] w fun e w' => e = .returned (.tuple #[.int .i64 n, .bool (r == 0)]) ∧ Below w.heap.size w w' := by
  obtain ⟨p, c, rfl, hlc, hcm, hin, _⟩ := h.own.slice
  have hc := h.blk.cell
  have hsl := h.blk.lt
  have Hc := Lib.hid (fun (w' : World) (hb : Below w.heap.size w w') (i : Nat) => (hb.cell (p := ⟨sb, i, none⟩) hsl).trans (hc i))
  have Hin := Lib.hid hin
  have Hg := Lib.hid hg
  have Hcm := Lib.hid hcm
  unfold maxLen at hcm
  clear h hg hin
  go_enter Tryz.func73, Tryz.ntmps73
  go_wp2_with fail
  go_region_held3 (fun w' => ∀ i, w'.cell? ⟨sb, i, none⟩ = (#[.bool t, .slice p L.length c, .int .i64 (most : Int), .int .i64 (room : Int), .int .i64 wrong] : Array Value)[i]?)
    (first | exact hc | exact hc2 | go_keep)
    (first
      | (go_at_call 52; refine (frHead_any t _).mono ?_; rintro e w2 ⟨rfl, hb2⟩; have hb12 := below_ofDr hb2; have Hb2 := Lib.hid hb12; have hc2 := Hc.out w2 hb12; have Hin2 := Lib.hid (Hin.out.below hb12); clear hb2 hb12)
      | (go_at_call 94; refine (get_any p L c (headN t : Nat) 4 _ hlc Hcm.out Hin2.out).mono ?_; rintro e w3 ⟨rfl, rfl⟩; rw [Hg.out]))
  go_wp2
  go_ret2
  exact ⟨rfl, Hb2.out⟩

def frErr (most : Nat) (n : Int) : Int := if n < 4 then 4 else if (most : Int) < n then 5 else 0

theorem frCheck_any (sb : Nat) (a b c d : Value) (most : Nat) (n : Int) (w : World) (h : ∀ i, w.cell? ⟨sb, i, none⟩ = (#[a, b, .int .i64 (most : Int), c, d] : Array Value)[i]?) :
    Calls Tryz.prog 74 #[.pointer (some ⟨sb, 0, none⟩), .int .i64 n] w fun e w' => e = .returned (.int .i64 (frErr most n)) ∧ w = w' := by
  have hc : n < 4 ∨ (4 ≤ n ∧ (most : Int) < n) ∨ (4 ≤ n ∧ n ≤ (most : Int)) := by omega
  rcases hc with h1 | ⟨h1, h2⟩ | ⟨h1, h2⟩
  · have He : Hid (frErr most n = 4) := Lib.hid (by unfold frErr; rw [if_pos h1])
    go_enter Tryz.func74, Tryz.ntmps74
    go_wp2
    go_ret
    exact ⟨ret_int He.out.symm, rfl⟩
  · have He : Hid (frErr most n = 5) := Lib.hid (by unfold frErr; rw [if_neg (by omega), if_pos h2])
    go_enter Tryz.func74, Tryz.ntmps74
    go_wp2
    go_ret
    exact ⟨ret_int He.out.symm, rfl⟩
  · have He : Hid (frErr most n = 0) := Lib.hid (by unfold frErr; rw [if_neg (by omega), if_neg (by omega)])
    go_enter Tryz.func74, Tryz.ntmps74
    go_wp2
    go_ret
    exact ⟨ret_int He.out.symm, rfl⟩

/-- How many bytes the first message has in all, or why not: the number, whether it is there, what is wrong. -/
def frWhole (t : Bool) (L : List UInt8) (most : Nat) (wrong : Int) : Int × Bool × Int :=
  if wrong ≠ 0 then (0, false, wrong)
  else if L.length < headN t + 4 then (0, false, 0)
  else if frErr most (frN t L) ≠ 0 then (0, false, frErr most (frN t L))
  else ((headN t : Int) + frN t L, decide ((headN t : Int) + frN t L ≤ (L.length : Int)), 0)

set_option maxRecDepth 100000 in
set_option maxHeartbeats 2000000 in
theorem frWhole_any (B sb : Nat) (t : Bool) (L : List UInt8) (most room : Nat) (wrong : Int) (v : Value) (w : World) (h : FrO B w sb t L most room wrong v) :
    Calls Tryz.prog 50 #[.pointer (some ⟨sb, 0, none⟩)] w fun e w' => ∃ n b r, frWhole t L most wrong = (n, b, r) ∧ e = .returned (.tuple #[.int .i64 n, .bool b, .int .i64 r]) ∧ FrO B w' sb t L most room r v ∧ Touch (fun i => i = sb) w w' := by
  obtain ⟨p, c, rfl, _⟩ := h.own.slice
  have hc := h.blk.cell
  have H := Lib.hid h
  clear h
  by_cases hw : wrong = 0
  · subst hw
    by_cases htold : headN t + 4 ≤ L.length
    · have hn := frN_bd t L
      have hg := frTold htold
      have hwh : frWhole t L most 0 = if frErr most (frN t L) ≠ 0 then (0, false, frErr most (frN t L)) else ((headN t : Int) + frN t L, decide ((headN t : Int) + frN t L ≤ (L.length : Int)), 0) := by
        unfold frWhole
        rw [if_neg (by simp), if_neg (by omega)]
      have hh : headN t ≤ 1 := by cases t <;> simp [headN]
      generalize frN t L = n at *
      have Hg := Lib.hid hg
      have Hwh := Lib.hid hwh
      clear hg hwh
      go_enter Tryz.func50, Tryz.ntmps50
      go_wp2_with fail
      refine (frSizeOf B sb t L most room 0 _ n 0 w H.out Hg.out).mono ?_
      rintro e w1 ⟨rfl, hb1⟩
      have H1 := Lib.hid (H.out.still hb1)
      have hc1 := H1.out.blk.cell
      have hf4 := H1.out.blk.frozen 4
      have HT1 := Lib.hid (Touch.of_below (p := fun i => i = sb) hb1)
      clear hb1 hc
      go_wp2_with fail
      refine (frCheck_any sb _ _ _ _ most n _ hc1).mono ?_
      rintro e w1' ⟨rfl, rfl⟩
      by_cases he : frErr most n = 0
      · rw [he]
        have Hres : Hid (frWhole t L most 0 = ((headN t : Int) + n, decide ((headN t : Int) + n ≤ (L.length : Int)), 0)) := Lib.hid (by rw [Hwh.out, if_neg (by simp [he])])
        have H2 := Lib.hid (H1.out.setWrong 0)
        have HT2 := Lib.hid (HT1.out.setCell (x := ⟨sb, 4, none⟩) (fun _ => rfl) (.int .i64 0))
        clear he
        go_wp2_with fail
        refine (frHead_any t _).mono ?_
        rintro e w3 ⟨rfl, hb3⟩
        have H3 := Lib.hid (H2.out.still hb3)
        have hc3 := H3.out.blk.cell
        have HT3 := Lib.hid (HT2.out.then (Touch.of_below (p := fun i => i = sb) hb3) (fun _ _ e => e))
        have hsm : IntKind.i64.wrap ((headN t : Int) + n) = (headN t : Int) + n := by rw [IntKind.wrap_i64]; omega
        clear hb3 hc1 hf4
        go_wp2_with fail
        go_quiet (fail)
        go_wp2
        go_ret3
        exact ⟨_, _, _, Hres.out, rfl, H3.out.touch ((Touch.refl (fun _ => False) w3).drewN nq) (fun e => e) (fun _ _ e => e), HT3.out.drewN nq⟩
      · have Hres : Hid (frWhole t L most 0 = (0, false, frErr most n)) := Lib.hid (by rw [Hwh.out, if_pos he])
        generalize frErr most n = er at *
        have H2 := Lib.hid (H1.out.setWrong er)
        have HT2 := Lib.hid (HT1.out.setCell (x := ⟨sb, 4, none⟩) (fun _ => rfl) (.int .i64 er))
        go_wp2_with fail
        go_quiet (fail)
        go_wp2
        go_ret3
        exact ⟨_, _, _, Hres.out, rfl, H2.out.touch ((Touch.refl (fun _ => False) _).drewN nq) (fun e => e) (fun _ _ e => e), HT2.out.drewN nq⟩
    · have hg := frUntold (t := t) (L := L) (by omega)
      have Hg := Lib.hid hg
      have Hres : Hid (frWhole t L most 0 = (0, false, 0)) := Lib.hid (by unfold frWhole; rw [if_neg (by simp), if_pos (by omega)])
      clear hg
      go_enter Tryz.func50, Tryz.ntmps50
      go_wp2_with fail
      refine (frSizeOf B sb t L most room 0 _ 0 3 w H.out Hg.out).mono ?_
      rintro e w1 ⟨rfl, hb1⟩
      have H1 := Lib.hid (H.out.still hb1)
      have HT1 := Lib.hid (Touch.of_below (p := fun i => i = sb) hb1)
      clear hb1
      go_wp2
      go_ret3
      exact ⟨_, _, _, Hres.out, rfl, H1.out, HT1.out⟩
  · have Hres : Hid (frWhole t L most wrong = (0, false, wrong)) := Lib.hid (by unfold frWhole; rw [if_pos hw])
    go_enter Tryz.func50, Tryz.ntmps50
    go_wp2_with fail
    go_quiet (fail)
    go_wp2
    go_ret3
    exact ⟨_, _, _, Hres.out, rfl, H.out.touch ((Touch.refl (fun _ => False) _).drewN nq) (fun e => e) (fun _ _ e => e), (Touch.refl _ _).drewN nq⟩

end Go.Proofs.YtacnmdlefonjmaaGreat

/-
  The contract of frame's Peek (layer 4).
-/
namespace Go.Proofs.YtacnmdlefonjmaaGreat
open Go.RowKit

def msgZ : Value := .agg #[.int .u8 0, .slice none 0 0]

theorem frPeek_nil (w : World) : Calls Tryz.prog 29 #[.pointer none] w fun e w' => e = .returned (.tuple #[.agg #[.int .u8 0, .slice none 0 0], .bool false, .int .i64 2]) ∧ Below w.heap.size w w' := by
  go_enter Tryz.func29, Tryz.ntmps29
  go_wp2_with (go_at_call 44; refine (frReady_nil _).mono ?_; rintro e w1 ⟨rfl, rfl⟩)
  exact bodyPost_ret (v := .tuple #[.agg #[.int .u8 0, .slice none 0 0], .bool false, .int .i64 2]) (by simp [results, Tryz.results29, go_sem]) rfl ⟨rfl, (Below.refl _ _).alloc (Nat.le_refl _) _⟩

theorem frPeek_zero (sb : Nat) (a b c d : Value) (w : World) (h : ∀ i, w.cell? ⟨sb, i, none⟩ = (#[a, b, c, .int .i64 0, d] : Array Value)[i]?) (hs : sb < w.heap.size) :
    Calls Tryz.prog 29 #[.pointer (some ⟨sb, 0, none⟩)] w fun e w' => e = .returned (.tuple #[.agg #[.int .u8 0, .slice none 0 0], .bool false, .int .i64 2]) ∧ Below w.heap.size w w' := by
  have h2 : ∀ i, (w.alloc (.cells #[.int .u8 0, .slice none 0 0] 73)).cell? ⟨sb, i, none⟩ = (#[a, b, c, .int .i64 0, d] : Array Value)[i]? := fun i => (World.cell?_of_block (a := ⟨sb, i, none⟩) (Below.heap_alloc w _ sb hs)).trans (h i)
  have H2 := Lib.hid h2
  clear h h2
  go_enter Tryz.func29, Tryz.ntmps29
  go_wp2_with (go_at_call 44; refine (frReady_blk sb a b c d 0 _ H2.out).mono ?_; rintro e w1 ⟨rfl, rfl⟩; simp only [Nat.lt_irrefl, decide_false])
  exact bodyPost_ret (v := .tuple #[.agg #[.int .u8 0, .slice none 0 0], .bool false, .int .i64 2]) (by simp [results, Tryz.results29, go_sem]) rfl ⟨rfl, (Below.refl _ _).alloc (Nat.le_refl _) _⟩

/-- What stays while Peek runs. -/
structure PkI (w0 w : World) (B sb : Nat) (t : Bool) (L : List UInt8) (most room : Nat) (wrong : Int) (v : Value) : Prop where
  fr : FrO B w sb t L most room wrong v
  res : Blk w w0.heap.size 73 #[.int .u8 0, .slice none 0 0]
  tch : Touch (fun i => i = sb) w0 w
  sbl : sb < w0.heap.size
  row : ∀ k, rowOf v = some k → k < w0.heap.size

section
variable {w0 w w' : World} {B sb : Nat} {t : Bool} {L : List UInt8} {most room : Nat} {wrong : Int} {v : Value}
theorem PkI.step (h : PkI w0 w B sb t L most room wrong v) (hb : Below w.heap.size w w') : PkI w0 w' B sb t L most room wrong v :=
  ⟨h.fr.still hb, h.res.below hb h.res.lt, h.tch.then (Touch.of_below (p := fun i => i = sb) hb) (fun _ _ e => e), h.sbl, h.row⟩
theorem PkI.drew (h : PkI w0 w B sb t L most room wrong v) : PkI w0 w.drew B sb t L most room wrong v := ⟨h.fr.drew, h.res, h.tch.drew, h.sbl, h.row⟩
theorem PkI.alloc (h : PkI w0 w B sb t L most room wrong v) (o : Obj) : PkI w0 (w.alloc o) B sb t L most room wrong v := h.step ((Below.refl _ _).alloc (Nat.le_refl _) o)
theorem PkI.start (h : FrO B w0 sb t L most room wrong v) : PkI w0 (w0.alloc (.cells #[.int .u8 0, .slice none 0 0] 73)) B sb t L most room wrong v :=
  ⟨h.alloc _, Blk.new _ _ _, (Touch.refl _ _).alloc _, h.blk.lt, fun k hk => (h.own.row k hk).2⟩
end

set_option maxRecDepth 100000 in
set_option maxHeartbeats 1000000 in
theorem frPeek_no (B sb : Nat) (t : Bool) (L : List UInt8) (most room : Nat) (wrong : Int) (v : Value) (n r : Int) (w : World) (h : FrO B w sb t L most room wrong v) (hr : 0 < room) (hwh : frWhole t L most wrong = (n, false, r)) :
    Calls Tryz.prog 29 #[.pointer (some ⟨sb, 0, none⟩)] w fun e w' => e = .returned (.tuple #[.agg #[.int .u8 0, .slice none 0 0], .bool false, .int .i64 r]) ∧ FrO B w' sb t L most room r v ∧ Touch (fun i => i = sb) w w' := by
  have H1 := Lib.hid (PkI.start h)
  have Hwh := Lib.hid hwh
  have Hd := Lib.hid (show decide (0 < room) = true by simpa using hr)
  clear h hwh
  go_enter Tryz.func29, Tryz.ntmps29
  go_wp2_with fail
  generalize w.alloc (.cells #[.int .u8 0, .slice none 0 0] 73) = w1 at *
  refine (frReady_blk sb _ _ _ _ room _ H1.out.fr.blk.cell).mono ?_
  rintro e w1' ⟨rfl, rfl⟩
  rw [Hd.out]
  go_wp2_with fail
  refine (frWhole_any B sb t L most room wrong v w1 H1.out.fr).mono ?_
  rintro e w2 ⟨n2, b2, r2, hw2, rfl, hf2, hT2⟩
  have hw3 := Hwh.out
  rw [hw3] at hw2
  simp only [Prod.mk.injEq] at hw2
  obtain ⟨rfl, rfl, rfl⟩ := hw2
  have hsl := H1.out.sbl
  have hres := hT2.blk H1.out.res (by omega)
  have hrc := hres.cell
  have hf0 := hres.frozen 0
  have hf1 := hres.frozen 1
  have hT := (H1.out.tch.trans hT2)
  have hz := hT.size
  have HF := Lib.hid hf2
  have HT := Lib.hid hT
  have hne : ¬ w.heap.size = sb := by omega
  have hTs : ∀ a b, Touch (fun i => i = w.heap.size) w2 ((w2.setCell ⟨w.heap.size, 0, none⟩ a).setCell ⟨w.heap.size, 1, none⟩ b) := fun a b => ((Touch.refl (fun i => i = w.heap.size) w2).setCell (x := ⟨w.heap.size, 0, none⟩) (fun _ => rfl) a).setCell (x := ⟨w.heap.size, 1, none⟩) (fun _ => rfl) b
  have HTs := Lib.hid hTs
  have Hrow := Lib.hid H1.out.row
  clear hw3 hf2 hT2 hT hres hTs
  go_wp2
  refine bodyPost_ret (v := .tuple #[.agg #[.int .u8 0, .slice none 0 0], .bool false, .int .i64 r]) (by simp [results, Tryz.results29, go_sem, hrc]) rfl ⟨rfl, ?_, ?_⟩
  · exact HF.out.touch (HTs.out _ _) (fun e => hne e.symm) (fun k hk e => by have := Hrow.out k hk; omega)
  · exact HT.out.then (HTs.out _ _) (fun i hi e => by omega)

def PkC (w wx : World) (B sb : Nat) (t : Bool) (L : List UInt8) (most room : Nat) (v s : Value) (b : List UInt8) : Prop :=
  ∃ g q d, s = .pointer (some ⟨g, 0, none⟩) ∧ Blk wx g 73 #[.int .u8 0, .slice q b.length d] ∧ BytesS (fun k => w.heap.size < k ∧ k ≠ g) wx [.slice q b.length d] b ∧ PkI w wx B sb t L most room 0 v ∧ w.heap.size < g

theorem pkC_new {w w3 : World} {B sb : Nat} {t : Bool} {L : List UInt8} {most room : Nat} {v : Value} {b : List UInt8} {q : Option Addr} {d : Nat} (h : PkI w w3 B sb t L most room 0 v) (hb : BytesS (fun k => w.heap.size < k) w3 [.slice q b.length d] b) :
    PkC w (w3.alloc (.cells #[.int .u8 0, .slice q b.length d] 73)) B sb t L most room v (.pointer (some ⟨w3.heap.size, 0, none⟩)) b := by
  have h1 := h.res.lt
  refine ⟨_, q, d, rfl, Blk.new _ _ _, BytesS.still _ _ _ _ _ _ hb (fun k hk hs => ⟨⟨hs, by omega⟩, Below.heap_alloc w3 _ k hk⟩), h.alloc _, h1⟩

theorem pkC_set {w w3 : World} {B sb g : Nat} {t : Bool} {L : List UInt8} {most room : Nat} {v : Value} {b : List UInt8} {q : Option Addr} {d : Nat} (h : PkI w w3 B sb t L most room 0 v) (hb : BytesS (fun k => w.heap.size < k ∧ k ≠ g) w3 [.slice q b.length d] b) (hg : w.heap.size < g)
    (hv : Blk w3 g 73 #[.int .u8 0, .slice none 0 0]) : PkC w ((w3.setCell ⟨g, 0, none⟩ (.int .u8 0)).setCell ⟨g, 1, none⟩ (.slice q b.length d)) B sb t L most room v (.pointer (some ⟨g, 0, none⟩)) b := by
  have hT : Touch (fun i => i = g) w3 ((w3.setCell ⟨g, 0, none⟩ (.int .u8 0)).setCell ⟨g, 1, none⟩ (.slice q b.length d)) := ((Touch.refl (fun i => i = g) w3).setCell (x := ⟨g, 0, none⟩) (fun _ => rfl) _).setCell (x := ⟨g, 1, none⟩) (fun _ => rfl) _
  have hsl := h.sbl
  have hv2 := (hv.set_ 0 (.int .u8 0)).set_ 1 (.slice q b.length d)
  refine ⟨g, q, d, rfl, by simpa using hv2, BytesS.still _ _ _ _ _ _ hb (Kept.touch hT (fun k _ hs => ⟨hs, hs.2⟩)), ⟨h.fr.touch hT (fun e => by omega) (fun k hk e => by have := h.row k hk; omega), hT.blk h.res (by omega), h.tch.then hT (fun i hi e => by omega), h.sbl, h.row⟩, hg⟩

end Go.Proofs.YtacnmdlefonjmaaGreat

