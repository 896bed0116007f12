/-
  Byte arrays of the call's own: make and copy.
-/
import Derived.Test.YthdafefhcdlkbaaTouch
import Derived.Test.YthdafefhcdlkbaaBytes
import Derived.Laws.CopyOwn
namespace Go.Proofs.Ythdafefhcdlkbaa
open Go.RowKit

/-- The cells of bytes: a name of its own, so that the walk leaves it standing. -/
def cellsB (l : List UInt8) : Array Value := (bytesV l).toArray

theorem cellsB_get (l : List UInt8) (i : Nat) (h : i < l.length) : (cellsB l)[i]? = some (.int .u8 ((l.getD i 0).toNat : Int)) := by
  simp [cellsB, bytesV, byteV, List.getD, h]

theorem splice_bytesV (l cs : List UInt8) (off : Nat) : splice (bytesV l) off (bytesV cs) = bytesV (splice l off cs) := by
  simp [splice, bytesV]

/-- An array that is known whole reads as its bytes, from any place on. -/
theorem Blk.bytesIn {w : World} {g : Nat} {bs : List UInt8} (h : Blk w g 5 (cellsB bs)) (off : Nat) (l : List UInt8) (hl : ∀ i, i < l.length → off + i < bs.length ∧ bs.getD (off + i) 0 = l.getD i 0) : BytesIn w (some ⟨g, off, none⟩) l := by
  intro i hi
  refine ⟨g, off, rfl, ?_⟩
  obtain ⟨h1, h2⟩ := hl i hi
  rw [h.cell, cellsB_get _ _ h1, h2]

theorem madeB (n : Nat) : madeCells #[.int .u8 0] n = cellsB (List.replicate n 0) := by
  apply Array.ext'
  rw [toList_madeCells_one]
  simp [cellsB, bytesV, byteV]

theorem run_make_bytes (n : Nat) (h : n ≤ 281474976710656) (w : World) :
    (Instr.makeSlice 22 (.int .i64 (n : Int)) (.int .i64 (n : Int))).run Try.prog w = .ok (.slice (some ⟨w.heap.size, 0, none⟩) n n) (w.alloc (.cells (cellsB (List.replicate n 0)) 5)) := by
  obtain ⟨i, hi, hz, hz1, hz2⟩ := info_parts Try.info5
  have hb : (i.bytes : Int) * (n : Int) ≤ 281474976710656 := by
    rw [hz2]; omega
  have hr := run_make (P := Try.prog) w 22 5 i (.int .u8 0) Try.underlying22 hi hz .i64 .i64 n n (by omega) (by omega) hb (by omega)
  simp only [Int.toNat_natCast] at hr
  rw [hr, hz1, Nat.mul_one]
  show Result.ok _ (w.alloc (.cells (madeCells #[.int .u8 0] n) _)) = _
  rw [madeB]

theorem oneCell_bytesV (l : List UInt8) : ∀ v ∈ bytesV l, v.oneCell' = true := by
  intro u hu
  obtain ⟨_, _, rfl⟩ := List.mem_map.1 hu
  rfl

theorem BytesIn.news {w : World} {p : Option Addr} {l : List UInt8} (h : BytesIn w p l) (k : Nat) (hk : 0 < (l.take k).length) : ∃ ad, p = some ad ∧ ∀ j v, (bytesV (l.take k))[j]? = some v → w.cell? (ad.add j) = some v := by
  have hl : 0 < l.length := by rw [List.length_take] at hk; omega
  obtain ⟨b, o, rfl⟩ := h.addr hl
  refine ⟨_, rfl, fun j v hv => ?_⟩
  rw [bytesV, List.getElem?_map] at hv
  obtain ⟨c', hc', rfl⟩ := Option.map_eq_some_iff.1 hv
  rw [List.getElem?_take] at hc'
  split at hc'
  · have hj : j < l.length := (List.getElem?_eq_some_iff.1 hc').1
    rw [Addr.add_lit, h.cellAt j hj]
    simp [byteV, List.getD, hc']
  · cases hc'

/-- 'copy' into an array of the call's own. -/
theorem run_copyB (w : World) (ty : TypeId) (dp sp : Option Addr) (dLen dCap sCap : Nat) (src : List UInt8) (g off : Nat) (cur : List UInt8) (hg : Blk w g 5 (cellsB cur)) (hsrc : BytesIn w sp src)
    (hpos : 0 < dLen → dp = some ⟨g, off, none⟩) (hfit : off + (src.take dLen).length ≤ cur.length) :
    ∃ w', (Builtin.copy_ #[22, 22] ty #[.slice dp dLen dCap, .slice sp src.length sCap]).run Try.prog w = .ok (goInt (src.take dLen).length) w' ∧ Blk w' g 5 (cellsB (splice cur off (src.take dLen))) ∧ Touch (fun k => k = g) w w' := by
  have hlen : (bytesV (src.take dLen)).length = (src.take dLen).length := bytesV_length _
  by_cases h0 : (src.take dLen).length = 0
  · have hnil : src.take dLen = [] := List.eq_nil_of_length_eq_zero h0
    have hrun := run_copy_none (P := Try.prog) w 22 22 ty 5 dp sp dLen dCap src.length sCap Try.underlying22 (by kernel_rfl) (by rw [List.length_take] at h0; exact (Nat.min_comm _ _).trans h0)
    exact ⟨w, by rw [h0]; exact hrun, by rw [hnil]; simpa [splice] using hg, Touch.refl _ _⟩
  · obtain ⟨ad, rfl, hnews⟩ := hsrc.news dLen (by omega)
    have hdl : 0 < dLen := by rw [List.length_take] at h0; omega
    have hdp := hpos hdl
    subst hdp
    have hrun := run_copy_row (P := Try.prog) w 22 22 ty 5 g off dLen dCap ad src.length sCap (cellsB cur) 5 (bytesV (src.take dLen)) Try.underlying22 (by kernel_rfl) hg
      (by rw [hlen, List.length_take]; exact Nat.min_comm _ _) hnews (by rw [hlen]; simpa [cellsB, bytesV_length] using hfit) (oneCell_bytesV _)
    rw [hlen] at hrun
    refine ⟨_, hrun, ?_, ⟨rfl, rfl, rfl, by simp [World.setRow], fun k _ hk => setRow_other w g k _ hk⟩⟩
    have := setRow_heap w g (cellsB cur) ((bytesV cur).take off ++ (bytesV (src.take dLen) ++ (bytesV cur).drop (off + (bytesV (src.take dLen)).length))).toArray 5 (0, 0) hg
    show Blk _ g _ (cellsB (splice cur off (src.take dLen)))
    unfold Blk cellsB
    rw [← splice_bytesV]
    unfold splice
    simpa [cellsB, hlen] using this

/-- The same as a step of a region that draws its order. -/
theorem step_copyB {ops : Array Oper} {o : Oper} {a : Act} {w : World} {K : Act → World → Prop} {Q : Exit → Act → World → Prop} {E : Prop} (hgd : o.guard = none) (d s : Operand)
    (ho : o.op = .call { callee := .builtin .copy, args := #[d, s], argTypes := #[22, 22] })
    (dp sp : Option Addr) (dLen dCap sLen sCap : Nat) (src cs : List UInt8) (k : Nat) (hsl : src.length = sLen) (hcs : src.take dLen = cs) (hk : cs.length = k) (hd : a.eval d = .slice dp dLen dCap) (hs : a.eval s = .slice sp sLen sCap)
    (g off : Nat) (cur : List UInt8) (hg : Blk w g 5 (cellsB cur)) (hsrc : BytesIn w sp src)
    (hpos : 0 < dLen → dp = some ⟨g, off, none⟩) (hfit : off + k ≤ cur.length)
    (h : ∀ w', Hid (Blk w' g 5 (cellsB (splice cur off cs))) → Touch (fun k => k = g) w w' → K (a.put o.dst (goInt k)) w') :
    if Region.wanted o (yielded ops a.tmps) = true then Oper.wp Try.prog o a w K Q else E := by
  have hw : Region.wanted o (yielded ops a.tmps) = true := by simp [Region.wanted, hgd]
  rw [if_pos hw]
  subst hsl hcs hk
  obtain ⟨w', hrun, h1, h2⟩ := run_copyB w o.type dp sp dLen dCap sCap src g off cur hg hsrc hpos hfit
  unfold Oper.wp
  have hex : (execOp a.eval o).run Try.prog w = .ok (.value (goInt (src.take dLen).length)) w' := by
    simp only [execOp, ho, resolve, invoke, builtin, Sem.run_bind, Sem.run_pure, List.map_toArray, List.map_cons, List.map_nil, hd, hs, hrun, Result.andThen]
  rw [hex]
  exact h w' h1 h2

/-- The same as a step of the walk. -/
theorem wpList_copyB {ops : Array Oper} {rest : List Oper} {o : Oper} {a : Act} {w : World} {Q : Exit → Act → World → Prop} (hgd : o.guard = none) (d s : Operand)
    (ho : o.op = .call { callee := .builtin .copy, args := #[d, s], argTypes := #[22, 22] })
    (dp sp : Option Addr) (dLen dCap sLen sCap : Nat) (src cs : List UInt8) (k : Nat) (hsl : src.length = sLen) (hcs : src.take dLen = cs) (hk : cs.length = k) (hd : a.eval d = .slice dp dLen dCap) (hs : a.eval s = .slice sp sLen sCap)
    (g off : Nat) (cur : List UInt8) (hg : Blk w g 5 (cellsB cur)) (hsrc : BytesIn w sp src)
    (hpos : 0 < dLen → dp = some ⟨g, off, none⟩) (hfit : off + k ≤ cur.length)
    (h : ∀ w', Hid (Blk w' g 5 (cellsB (splice cur off cs))) → Touch (fun k => k = g) w w' → wpList Try.prog ops Q rest (a.put o.dst (goInt k)) w') :
    wpList Try.prog ops Q (o :: rest) a w := by
  refine wpList_plain hgd fun K hK => ?_
  subst hsl hcs hk
  obtain ⟨w', hrun, h1, h2⟩ := run_copyB w o.type dp sp dLen dCap sCap src g off cur hg hsrc hpos hfit
  unfold Oper.wp
  have hex : (execOp a.eval o).run Try.prog w = .ok (.value (goInt (src.take dLen).length)) w' := by
    simp only [execOp, ho, resolve, invoke, builtin, Sem.run_bind, Sem.run_pure, List.map_toArray, List.map_cons, List.map_nil, hd, hs, hrun, Result.andThen]
  rw [hex]
  exact hK _ _ (h w' h1 h2)

end Go.Proofs.Ythdafefhcdlkbaa
