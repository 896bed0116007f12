/-
  Ground: Base, Append, Touch, Row, Read.
-/
import Derived.Test.YtacnmdlefonjmaaGreatRows
import Derived.WalkKit
import Derived.WalkSpells
import Derived.WalkLawsBesides
import Derived.Lib.Hide
import Derived.Deep.AppendSrc
import Derived.Deep.Draws
import Derived.ProofKit
import Derived.Deep.Slices
import Derived.Deep.Fields
import Derived.ChangeSame
/-
  What all texts of the seat lean on: how bytes in memory are told, and small laws of lists and numbers.
-/
namespace Go.Proofs.YtacnmdlefonjmaaGreat
open Go.RowKit

theorem ret_bool {a b : Bool} (h : a = b) : Ending.returned (.bool a) = .returned (.bool b) := by rw [h]
theorem ret_int {k : IntKind} {a b : Int} (h : a = b) : Ending.returned (.int k a) = .returned (.int k b) := by rw [h]

/-- A byte as a value. -/
def byteV (c : UInt8) : Value := .int .u8 (c.toNat : Int)

/-- From the address p on there are these bytes (of no byte nothing is said). -/
def BytesIn (w : World) (p : Option Addr) (l : List UInt8) : Prop :=
  ∀ i, i < l.length → ∃ b o, p = some ⟨b, o, none⟩ ∧ w.cell? ⟨b, o + i, none⟩ = some (.int .u8 ((l.getD i 0).toNat : Int))

theorem BytesIn.nil (w : World) (p : Option Addr) : BytesIn w p [] := fun i h => by simp at h

theorem BytesIn.cellAt {w : World} {b o : Nat} {l : List UInt8} (h : BytesIn w (some ⟨b, o, none⟩) l) (i : Nat) (hi : i < l.length) :
    w.cell? ⟨b, o + i, none⟩ = some (.int .u8 ((l.getD i 0).toNat : Int)) := by
  obtain ⟨b', o', e, hc⟩ := h i hi
  cases e
  exact hc

theorem BytesIn.addr {w : World} {p : Option Addr} {l : List UInt8} (h : BytesIn w p l) (hl : 0 < l.length) : ∃ b o, p = some ⟨b, o, none⟩ := by
  obtain ⟨b, o, e, _⟩ := h 0 hl
  exact ⟨b, o, e⟩

theorem u8_bd (c : UInt8) : (0 : Int) ≤ (c.toNat : Int) ∧ (c.toNat : Int) < 256 := ⟨by omega, by have := c.toNat_lt; omega⟩

/-- A block that is known whole. -/
def Blk (w : World) (g : Nat) (t : TypeId) (cs : Array Value) : Prop := w.heap[g]? = some (.cells cs t (0, 0))

section
variable {w w' : World} {g : Nat} {t : TypeId} {cs : Array Value}
theorem Blk.lt (h : Blk w g t cs) : g < w.heap.size := by
  rcases Nat.lt_or_ge g w.heap.size with hlt | hge
  · exact hlt
  · unfold Blk at h; rw [Array.getElem?_eq_none hge] at h; cases h
theorem Blk.cell (h : Blk w g t cs) (i : Nat) : w.cell? ⟨g, i, none⟩ = cs[i]? := cell_of_row w g i cs t (0, 0) h
theorem Blk.frozen (h : Blk w g t cs) (i : Nat) : w.frozen? ⟨g, i, none⟩ = false := by
  unfold Blk at h
  simp [World.frozen?, h]
theorem Blk.new (w : World) (t : TypeId) (cs : Array Value) : Blk (w.alloc (.cells cs t)) w.heap.size t cs := _root_.Go.heap_alloc_new w _
theorem Blk.alloc (h : Blk w g t cs) (o : Obj) : Blk (w.alloc o) g t cs := (Below.heap_alloc w o g h.lt).trans h
theorem Blk.set_ (h : Blk w g t cs) (i : Nat) (u : Value) : Blk (w.setCell ⟨g, i, none⟩ u) g t (cs.setIfInBounds i u) := by
  unfold Blk at h ⊢
  simp [World.setCell, Array.getElem?_modify, h]
theorem Blk.far (h : Blk w g t cs) {p : Addr} (hp : g ≠ p.block) (u : Value) : Blk (w.setCell p u) g t cs := (Below.heap_setCell w p u g hp).trans h
theorem Blk.below {B : Nat} (h : Blk w g t cs) (hb : Below B w w') (hg : g < B) : Blk w' g t cs := (hb.block g hg).trans h
theorem Blk.grown {row : Option Nat} (h : Blk w g t cs) (hb : w.grownBy w' row) (hg : some g ≠ row) : Blk w' g t cs := (hb.block g h.lt hg).trans h
end

/-- The number of bytes, the highest first. -/
def be (l : List UInt8) : Int := l.foldl (fun n x => n * 256 + (x.toNat : Int)) 0

theorem be_snoc (l : List UInt8) (c : UInt8) : be (l ++ [c]) = be l * 256 + (c.toNat : Int) := by
  simp [be, List.foldl_append]

theorem take_snoc (l : List UInt8) (k : Nat) (h : k < l.length) : l.take (k + 1) = l.take k ++ [l.getD k 0] := by
  rw [List.take_succ_eq_append_getElem h]; simp [List.getD, h]

theorem be_go (l : List UInt8) : ∀ (a : Int) (k : Nat), 0 ≤ a → a < 256 ^ k → 0 ≤ l.foldl (fun n x => n * 256 + (x.toNat : Int)) a ∧ l.foldl (fun n x => n * 256 + (x.toNat : Int)) a < 256 ^ (k + l.length) := by
  induction l with
  | nil => intro a k h1 h2; exact ⟨h1, h2⟩
  | cons c l ih =>
    intro a k h1 h2
    have hc := u8_bd c
    have := ih (a * 256 + (c.toNat : Int)) (k + 1) (by omega) (by rw [Int.pow_succ]; omega)
    rw [show k + 1 + l.length = k + (c :: l).length from by simp; omega] at this
    exact this

theorem be_bd (l : List UInt8) : 0 ≤ be l ∧ be l < 256 ^ l.length := by
  have := be_go l 0 0 (by omega) (by omega)
  rw [Nat.zero_add] at this
  exact this

theorem be_take_succ (l : List UInt8) (k : Nat) (h : k < l.length) : be (l.take (k + 1)) = be (l.take k) * 256 + ((l.getD k 0).toNat : Int) := by
  rw [take_snoc l k h, be_snoc]

theorem or_byte_nat (n c : Nat) (hc : c < 256) : n * 256 ||| c = n * 256 + c := by
  have : n * 256 = n <<< 8 := by rw [Nat.shiftLeft_eq]
  rw [this, ← Nat.shiftLeft_add_eq_or_of_lt (show c < 2 ^ 8 from hc)]

/-- 'n << 8 | c' of a byte c is a sum. -/
theorem or_byte (n c : Int) (h0 : 0 ≤ n) (h1 : n < 4294967296) (h2 : 0 ≤ c) (h3 : c < 256) : bits .or .i64 (n * 256) c = n * 256 + c := by
  obtain ⟨m, rfl⟩ := Int.eq_ofNat_of_zero_le h0
  obtain ⟨d, rfl⟩ := Int.eq_ofNat_of_zero_le h2
  have hor := or_byte_nat m d (by omega)
  have e1 : ((m : Int) * 256) = ((m * 256 : Nat) : Int) := by omega
  rw [e1]
  have hl : m * 256 + d < 9223372036854775808 := by omega
  show IntKind.i64.wrap ((BitVec.ofInt 64 ((m * 256 : Nat) : Int) ||| BitVec.ofInt 64 ((d : Nat) : Int)).toNat : Int) = _
  have f1 : (BitVec.ofInt 64 ((m * 256 : Nat) : Int)).toNat = m * 256 := by simp [BitVec.toNat_ofInt]; omega
  have f2 : (BitVec.ofInt 64 ((d : Nat) : Int)).toNat = d := by simp; omega
  rw [BitVec.toNat_or, f1, f2, hor, IntKind.wrap_i64]
  omega

/-- The bytes of a list as a string. -/
def strOf (l : List UInt8) : ByteArray := ⟨l.toArray⟩

theorem strOf_nums (l : List UInt8) : strOfNums (l.map fun c => (c.toNat : Int)) = strOf l := by
  unfold strOfNums strOf
  congr 2
  simp [List.map_map, Function.comp_def]

theorem BytesIn.convert {w : World} {p : Option Addr} {l : List UInt8} (h : BytesIn w p l) (c : Nat) {P : Program} (src e dst : TypeId)
    (hs : P.underlying src = some (.slice e)) (he : P.underlying e = some (.int .u8)) (hd : P.underlying dst = some .string) :
    (convert src dst (.slice p l.length c)).run P w = .ok (.string (strOf l)) w := by
  by_cases h0 : l = []
  · subst h0
    rw [show ([] : List UInt8).length = 0 from rfl, run_convert_bytes_string w src dst e _ 0 c hs he hd]
    cases p <;> simp [Conv.bytesToString, loadCells]
    all_goals rfl
  · obtain ⟨b, o, rfl⟩ := h.addr (List.length_pos_iff.2 h0)
    have := run_convert_bytes_arg (P := P) w src e hs he b o l.length c (l.map fun c => (c.toNat : Int)) (by simp) (fun i hi => by
      rw [h.cellAt i hi]; simp [List.getD, hi]) dst hd
    rw [this, strOf_nums]

theorem strOf_toList (l : List UInt8) : (strOf l).toList = l := by
  rw [ByteArray.toList_eq]; rfl

end Go.Proofs.YtacnmdlefonjmaaGreat

/-
  'append' onto a row of the call's own, from whatever source (a slice that came in, nil, a string): one law.
-/
namespace Go.Proofs.YtacnmdlefonjmaaGreat
open Go.RowKit

theorem run_append_src_own {P : Program} (w : World) (base : Nat) (t tx ty e : TypeId) (i : TypeInfo) (z : Value) (size bytes : Nat) (ht : P.underlying t = some (.slice e)) (hi : P.info? e = some i) (hz : i.zero = some z)
    (hsize : i.size = size) (hby : i.bytes = bytes) (hzs : z.cells.size = size) (hsz : 0 < size)
    (v : Value) (n : Nat) (xs : List Value) (hown : w.ownsRow base e size v n xs)
    (x : Value) (m : Nat) (news : List Value) (hs : Src P size tx x m news w)
    (h63 : n + m ≤ maxLen) (hbytes : (n + m) * bytes ≤ 140737488355328) (hbase : base ≤ w.heap.size) :
    ∃ v' w', (Builtin.append_ #[t, tx] ty #[v, x]).run P w = .ok v' w' ∧ w'.ownsRow base e size v' (n + m) (xs ++ news) ∧ w.grownBy w' v.ownBlock ∧
      (v' = .slice none 0 0 ↔ v = .slice none 0 0 ∧ m = 0) ∧ (∀ k, v'.ownBlock = some k → v.ownBlock = some k ∨ w.heap.size ≤ k) := by
  subst hsize
  subst hby
  have hl := hs.newsLen
  have hsmall : n + m ≤ 9223372036854775807 := by simp only [maxLen] at h63; omega
  have hlen : (xs ++ news).length = (n + m) * i.size := by rw [List.length_append, hown.1, hl, Nat.add_mul]
  have grown : ∀ (old : Nat), old < n + m → ∀ (row : Option Nat),
      (w.drew.alloc (.cells ((xs ++ news).toArray ++ Builtin.zeroCells z.cells (grownCap w (n + m) old e - (n + m))) e)).ownsRow base e i.size
        (.slice (some ⟨w.heap.size, 0, none⟩) (n + m) (grownCap w (n + m) old e)) (n + m) (xs ++ news) ∧
      w.grownBy (w.drew.alloc (.cells ((xs ++ news).toArray ++ Builtin.zeroCells z.cells (grownCap w (n + m) old e - (n + m))) e)) row := by
    intro old ho row
    have hge := grownCap_ge w (n + m) old e
    have hcm : grownCap w (n + m) old e ≤ maxLen := grownCap_le_maxLen w (n + m) old e h63
    refine ⟨⟨hlen, .inr ⟨w.heap.size, _, _, rfl, hbase, heap_alloc_new w.drew _, hge, hcm, ?_, ?_⟩⟩, ⟨rfl, rfl, rfl, by simp, fun k hk _ => Below.heap_alloc w.drew _ k hk⟩⟩
    · rw [Array.size_append, List.size_toArray, size_zeroCells, hzs, hlen, ← Nat.add_mul]
      congr 1
      omega
    · rw [Array.toList_append, ← hlen]
      exact List.take_left
  rcases hown.2 with ⟨rfl, rfl⟩ | ⟨g, cap, cur, rfl, hbg, hg, hnc, hcm, hcs, htake⟩
  · have hx : xs = [] := List.eq_nil_of_length_eq_zero (by simpa using hown.1)
    subst hx
    by_cases hm : m = 0
    · subst hm
      have hn : news = [] := List.eq_nil_of_length_eq_zero (by simpa using hl)
      subst hn
      refine ⟨.slice none 0 0, w, ?_, World.ownsRow_nil w base e i.size, ⟨rfl, rfl, rfl, Nat.le_refl _, fun _ _ _ => rfl⟩, by simp, by simp [Value.ownBlock]⟩
      have hc := hs.cells
      rcases hs.kind with ⟨e', hk⟩ | hk <;> simp [Builtin.append_, run_underlying ht, run_underlying hk, sizeOf, typeInfo, hi, hs.len, hc]
    · have hr := run_append_grow_src (P := P) w t tx ty e i z ht hi hz none 0 0 [] (run_firstCells_none w.drew i.size 0 0 0) x m news hs (by omega) (by omega)
        (by rw [Nat.zero_add, nextslicecap_zero (by omega)]; have hb := hbytes; simp only [Nat.zero_add] at hb; omega)
      have hgr := grown 0 (by omega) (Value.ownBlock (.slice none 0 0))
      exact ⟨_, _, hr, hgr.1, hgr.2, by simp [hm], by simp [Value.ownBlock]⟩
  · by_cases hroom : n + m ≤ cap
    · have hfit : n * i.size + news.length ≤ cur.size := by rw [hl, hcs, ← Nat.add_mul]; exact Nat.mul_le_mul_right _ hroom
      have hst := run_storeCells_at P g (n * i.size) e news 0 cur w hg (by simpa using hfit) hs.one
      simp only [Nat.add_zero] at hst
      have hc := hs.cells
      have hr : (Builtin.append_ #[t, tx] ty #[.slice (some ⟨g, 0, none⟩) n cap, x]).run P w =
          .ok (.slice (some ⟨g, 0, none⟩) (n + m) cap) (w.setRow g (cur.toList.take (n * i.size) ++ news ++ cur.toList.drop (n * i.size + news.length)).toArray) := by
        rcases hs.kind with ⟨e', hk⟩ | hk <;> simp [Builtin.append_, run_underlying ht, run_underlying hk, sizeOf, typeInfo, hi, hs.len, hroom, hc, Addr.add_lit, hst]
      refine ⟨_, _, hr, ⟨hlen, .inr ⟨g, cap, _, rfl, hbg, setRow_heap w g cur _ e _ hg, hroom, hcm, ?_, ?_⟩⟩, ⟨rfl, rfl, rfl, by simp, fun k _ hk => setRow_other w g k _ (fun e => hk (by simp [Value.ownBlock, e]))⟩, by simp, fun k hk => .inl hk⟩
      · simp only [List.size_toArray, List.length_append, List.length_take, List.length_drop, Array.length_toList]
        omega
      · rw [htake, ← hlen]
        exact List.take_left
    · have holds : ∀ j u, xs[j]? = some u → w.cell? ((⟨g, 0, none⟩ : Addr).add j) = some u := hown.cells (g := g) rfl
      have hr := run_append_grow_src (P := P) w t tx ty e i z ht hi hz (some ⟨g, 0, none⟩) n cap xs (run_firstCells_some w.drew i.size n ⟨g, 0, none⟩ n cap xs hown.1 (by simpa using holds)) x m news hs (by omega) (by omega)
        (growslice_fits (by omega) hbytes)
      have hgr := grown cap (by omega) (Value.ownBlock (.slice (some ⟨g, 0, none⟩) n cap))
      exact ⟨_, _, hr, hgr.1, hgr.2, by simp, by simp [Value.ownBlock]⟩

/-- The same as a step of the walk. -/
theorem wpList_append_src {P : Program} (w : World) {ops : Array Oper} {rest : List Oper} {o : Oper} {a : Act} {Q : Exit → Act → World → Prop} (hgd : o.guard = none) (s y : Operand) (t tx : TypeId)
    (ho : o.op = .call { callee := .builtin .append, args := #[s, y], argTypes := #[t, tx] })
    (base : Nat) (e : TypeId) (i : TypeInfo) (z : Value) (size bytes : Nat) (ht : P.underlying t = some (.slice e)) (hi : P.info? e = some i) (hz : i.zero = some z)
    (hsize : i.size = size) (hby : i.bytes = bytes) (hzs : z.cells.size = size) (hsz : 0 < size)
    (v : Value) (n : Nat) (xs : List Value) (hsv : a.eval s = v) (hown : w.ownsRow base e size v n xs)
    (x : Value) (m : Nat) (news : List Value) (hx : a.eval y = x) (hs : Src P size tx x m news w)
    (h63 : n + m ≤ maxLen) (hbytes : (n + m) * bytes ≤ 140737488355328) (hbase : base ≤ w.heap.size)
    (h : ∀ v' w', w'.ownsRow base e size v' (n + m) (xs ++ news) → w.grownBy w' v.ownBlock → (v' = .slice none 0 0 ↔ v = .slice none 0 0 ∧ m = 0) → (∀ k, v'.ownBlock = some k → v.ownBlock = some k ∨ w.heap.size ≤ k) → wpList P ops Q rest (a.put o.dst v') w') :
    wpList P ops Q (o :: rest) a w := by
  refine wpList_plain hgd fun K hK => ?_
  obtain ⟨v', w', hrun, r1, r2, r3, r4⟩ := run_append_src_own (P := P) w base t tx o.type e i z size bytes ht hi hz hsize hby hzs hsz v n xs hown x m news hs h63 hbytes hbase
  unfold Oper.wp
  simp [execOp, ho, resolve, invoke, builtin, hsv, hx, hrun, Result.andThen]
  exact hK _ _ (h v' w' r1 r2 r3 r4)

/-- A list of bytes as values. -/
def bytesV (l : List UInt8) : List Value := l.map byteV

theorem bytesV_length (l : List UInt8) : (bytesV l).length = l.length := by simp [bytesV]
theorem bytesV_append (l m : List UInt8) : bytesV l ++ bytesV m = bytesV (l ++ m) := by simp [bytesV]

/-- What bytes that came in yield to an append. -/
theorem BytesIn.src {P : Program} {w : World} {p : Option Addr} {l : List UInt8} (h : BytesIn w p l) {tx e' : TypeId} (hk : P.underlying tx = some (.slice e')) (c : Nat) :
    Src P 1 tx (.slice p l.length c) l.length (bytesV l) w := by
  by_cases h0 : l = []
  · subst h0
    have hrun : ∀ w' : World, (Builtin.firstCells 1 0 (.slice p 0 c)).run P w' = .ok #[] w' := by
      intro w'
      cases p <;> simp [Builtin.firstCells, loadCells, loadCellsFrom]
    exact ⟨.inl ⟨e', hk⟩, fun _ => rfl, hrun w, hrun w.drew, by simp [bytesV], fun u hu => by simp [bytesV] at hu⟩
  · obtain ⟨b, o, rfl⟩ := h.addr (List.length_pos_iff.2 h0)
    refine Src.ofSlice w hk _ _ _ _ (by simp [bytesV]) ?_ ?_
    · intro j u hu
      rw [bytesV, List.getElem?_map] at hu
      obtain ⟨c', hc', rfl⟩ := Option.map_eq_some_iff.1 hu
      have hj : j < l.length := (List.getElem?_eq_some_iff.1 hc').1
      rw [Addr.add_lit, h.cellAt j hj]
      simp [byteV, List.getD, hc']
    · intro u hu
      obtain ⟨_, _, rfl⟩ := List.mem_map.1 hu
      rfl

/-- A row of the call's own reads as its bytes. -/
theorem ownsRow_bytesIn {w : World} {base e n : Nat} {v : Value} {l : List UInt8} (h : w.ownsRow base e 1 v n (bytesV l)) :
    ∃ p c, v = .slice p l.length c ∧ l.length ≤ c ∧ c ≤ maxLen ∧ BytesIn w p l := by
  have hn : n = l.length := by have := h.1; rw [bytesV_length] at this; omega
  subst hn
  rcases h.2 with ⟨rfl, h0⟩ | ⟨g, cap, cur, rfl, hbg, hg, hnc, hcm, hcs, htake⟩
  · have : l = [] := List.eq_nil_of_length_eq_zero h0
    subst this
    exact ⟨none, 0, rfl, Nat.le_refl _, by simp [maxLen], BytesIn.nil _ _⟩
  · refine ⟨some ⟨g, 0, none⟩, cap, rfl, hnc, hcm, ?_⟩
    intro i hi
    refine ⟨g, 0, rfl, ?_⟩
    have := h.cells (g := g) rfl i (byteV (l.getD i 0)) (by simp [bytesV, List.getD, hi])
    rw [Addr.add_lit] at this
    exact this

end Go.Proofs.YtacnmdlefonjmaaGreat

/-
  Frames: which blocks of the old memory may have turned.
-/
namespace Go.Proofs.YtacnmdlefonjmaaGreat
open Go.RowKit

/-- But for the blocks of p, and what is new, memory is as it was. -/
structure Touch (p : Nat → Prop) (w w' : World) : Prop where
  os : w'.os = w.os
  tape : w'.tape = w.tape
  output : w'.output = w.output
  size : w.heap.size ≤ w'.heap.size
  block : ∀ k, k < w.heap.size → ¬ p k → w'.heap[k]? = w.heap[k]?

theorem Touch.refl (p : Nat → Prop) (w : World) : Touch p w w := ⟨rfl, rfl, rfl, Nat.le_refl _, fun _ _ _ => rfl⟩
theorem Touch.trans {p : Nat → Prop} {a b c : World} (h : Touch p a b) (k : Touch p b c) : Touch p a c :=
  ⟨k.os.trans h.os, k.tape.trans h.tape, k.output.trans h.output, Nat.le_trans h.size k.size, fun i hi hp => (k.block i (Nat.lt_of_lt_of_le hi h.size) hp).trans (h.block i hi hp)⟩
theorem Touch.mono {p q : Nat → Prop} {a b : World} (h : Touch p a b) (hpq : ∀ k, k < a.heap.size → p k → q k) : Touch q a b :=
  ⟨h.os, h.tape, h.output, h.size, fun i hi hq => h.block i hi (fun hp => hq (hpq i hi hp))⟩
/-- A second step, whatever it does to what the first one made. -/
theorem Touch.then {p q : Nat → Prop} {a b c : World} (h : Touch p a b) (k : Touch q b c) (hq : ∀ i, i < a.heap.size → q i → p i) : Touch p a c :=
  ⟨k.os.trans h.os, k.tape.trans h.tape, k.output.trans h.output, Nat.le_trans h.size k.size, fun i hi hp => (k.block i (Nat.lt_of_lt_of_le hi h.size) (fun hqi => hp (hq i hi hqi))).trans (h.block i hi hp)⟩
theorem Touch.drew {p : Nat → Prop} {a w : World} (h : Touch p a w) : Touch p a w.drew := ⟨h.os, h.tape, h.output, h.size, h.block⟩
theorem Touch.drewN {p : Nat → Prop} {a w : World} (h : Touch p a w) (n : Nat) : Touch p a (w.drewN n) := ⟨h.os, h.tape, h.output, h.size, h.block⟩
theorem Touch.alloc {p : Nat → Prop} {a w : World} (h : Touch p a w) (o : Obj) : Touch p a (w.alloc o) :=
  ⟨h.os, h.tape, h.output, Nat.le_trans h.size (by simp), fun i hi hp => (Below.heap_alloc w o i (Nat.lt_of_lt_of_le hi h.size)).trans (h.block i hi hp)⟩
theorem Touch.setCell {p : Nat → Prop} {a w : World} (h : Touch p a w) {x : Addr} (hx : x.block < a.heap.size → p x.block) (u : Value) : Touch p a (w.setCell x u) :=
  ⟨h.os, h.tape, h.output, by simpa [World.setCell] using h.size, fun i hi hp => (Below.heap_setCell w x u i (fun e => by subst e; exact hp (hx hi))).trans (h.block i hi hp)⟩
theorem Touch.of_below {p : Nat → Prop} {a w : World} (h : Below a.heap.size a w) : Touch p a w := ⟨h.os, h.tape, h.output, h.size, fun i hi _ => h.block i hi⟩
theorem Touch.below {p : Nat → Prop} {a w : World} (h : Touch p a w) {B : Nat} (hB : B ≤ a.heap.size) (hp : ∀ k, p k → B ≤ k) : Below B a w :=
  ⟨h.os, h.tape, h.output, h.size, fun i hi => h.block i (by omega) (fun hpi => by have := hp i hpi; omega)⟩
theorem Touch.blk {p : Nat → Prop} {a w : World} (h : Touch p a w) {g : Nat} {t : TypeId} {cs : Array Value} (hb : Blk a g t cs) (hp : ¬ p g) : Blk w g t cs := (h.block g hb.lt hp).trans hb
theorem Touch.cell {p : Nat → Prop} {a w : World} (h : Touch p a w) {x : Addr} (hx : x.block < a.heap.size) (hp : ¬ p x.block) : w.cell? x = a.cell? x := World.cell?_of_block (h.block x.block hx hp)
theorem Touch.bytesIn {p : Nat → Prop} {a w : World} (h : Touch p a w) {q : Option Addr} {l : List UInt8} (hb : BytesIn a q l) (hp : l ≠ [] → ∀ x, q = some x → ¬ p x.block) : BytesIn w q l := by
  intro i hi
  obtain ⟨b, o, e, hc⟩ := hb i hi
  refine ⟨b, o, e, ?_⟩
  have hlt := World.block_lt_of_cell? a _ hc
  rw [h.cell (x := ⟨b, o + i, none⟩) hlt (hp (by rintro rfl; simp at hi) ⟨b, o, none⟩ e)]
  exact hc
theorem Blk.drew {w : World} {g : Nat} {t : TypeId} {cs : Array Value} (h : Blk w g t cs) : Blk w.drew g t cs := h
theorem Blk.drewN {w : World} {g : Nat} {t : TypeId} {cs : Array Value} (h : Blk w g t cs) (n : Nat) : Blk (w.drewN n) g t cs := h
theorem BytesIn.drewN {w : World} {q : Option Addr} {l : List UInt8} (h : BytesIn w q l) (n : Nat) : BytesIn (w.drewN n) q l := h

theorem BytesIn.drop {w : World} {b o : Nat} {l : List UInt8} (h : BytesIn w (some ⟨b, o, none⟩) l) (k : Nat) : BytesIn w (some ⟨b, o + k, none⟩) (l.drop k) := by
  intro i hi
  rw [List.length_drop] at hi
  refine ⟨b, o + k, rfl, ?_⟩
  have := h.cellAt (k + i) (by omega)
  rw [← Nat.add_assoc] at this
  rw [this]
  simp only [List.getD, List.getElem?_drop]
theorem BytesIn.take {w : World} {p : Option Addr} {l : List UInt8} (h : BytesIn w p l) (k : Nat) : BytesIn w p (l.take k) := by
  intro i hi
  rw [List.length_take] at hi
  obtain ⟨b, o, e, hc⟩ := h i (by omega)
  refine ⟨b, o, e, ?_⟩
  rw [hc]
  simp only [List.getD, List.getElem?_take, if_pos (show i < k by omega)]

end Go.Proofs.YtacnmdlefonjmaaGreat

/-
  Rows of the call's own, of any element type, and appends onto them: nil, an empty cut of any slice, or a block of the call's own.
-/
namespace Go.Proofs.YtacnmdlefonjmaaGreat
open Go.RowKit

/-- The block of a slice that has room. -/
def rowOf : Value → Option Nat
  | .slice (some a) _ c => if c = 0 then none else some a.block
  | _ => none

theorem rowOf_zero (p : Option Addr) (n : Nat) : rowOf (.slice p n 0) = none := by cases p <;> simp [rowOf]
theorem rowOf_pos {g o n c : Nat} (h : 0 < c) : rowOf (.slice (some ⟨g, o, none⟩) n c) = some g := by
  have : c ≠ 0 := by omega
  simp [rowOf, this]

/-- A row of the call's own: its n elements' cells. -/
def OwnR (B : Nat) (e : TypeId) (size : Nat) (w : World) (v : Value) (n : Nat) (xs : List Value) : Prop :=
  xs.length = n * size ∧
  ((∃ p, v = .slice p 0 0 ∧ n = 0) ∨
   ∃ g cap cur, v = .slice (some ⟨g, 0, none⟩) n cap ∧ 0 < cap ∧ B ≤ g ∧ w.heap[g]? = some (.cells cur e (0, 0)) ∧ n ≤ cap ∧ cap ≤ maxLen ∧ cur.size = cap * size ∧ cur.toList.take (n * size) = xs)

theorem OwnR.empty (B : Nat) (e : TypeId) (size : Nat) (w : World) (p : Option Addr) : OwnR B e size w (.slice p 0 0) 0 [] := ⟨by simp, .inl ⟨p, rfl, rfl⟩⟩

theorem OwnR.new (B : Nat) (e : TypeId) (size : Nat) (w : World) (n : Nat) (cs : Array Value) (h0 : 0 < n) (hm : n ≤ maxLen) (hc : cs.size = n * size) (hB : B ≤ w.heap.size) : OwnR B e size (w.alloc (.cells cs e)) (.slice (some ⟨w.heap.size, 0, none⟩) n n) n cs.toList :=
  ⟨by simpa using hc, .inr ⟨_, n, cs, rfl, h0, hB, heap_alloc_new w _, Nat.le_refl _, hm, hc, by rw [← hc, ← Array.length_toList]; exact List.take_length⟩⟩

section
variable {B : Nat} {e : TypeId} {size : Nat} {w w' : World} {v : Value} {n : Nat} {xs : List Value}

theorem OwnR.slice (h : OwnR B e size w v n xs) : ∃ p c, v = .slice p n c ∧ n ≤ c ∧ c ≤ maxLen ∧ (∀ j u, xs[j]? = some u → ∃ g, p = some ⟨g, 0, none⟩ ∧ rowOf v = some g ∧ B ≤ g ∧ w.cell? ⟨g, j, none⟩ = some u) := by
  rcases h.2 with ⟨p, rfl, rfl⟩ | ⟨g, cap, cur, rfl, h0, h1, h2, h3, h4, h5, h6⟩
  · refine ⟨p, 0, rfl, Nat.le_refl _, by simp [maxLen], fun j u hu => ?_⟩
    have : xs = [] := List.eq_nil_of_length_eq_zero (by simpa using h.1)
    subst this
    simp at hu
  · refine ⟨_, cap, rfl, h3, h4, fun j u hu => ⟨g, rfl, rowOf_pos h0, h1, ?_⟩⟩
    rw [cell_of_row w g j cur e (0, 0) h2]
    rw [← h6, List.getElem?_take] at hu
    split at hu
    · rwa [Array.getElem?_toList] at hu
    · cases hu

theorem OwnR.row (h : OwnR B e size w v n xs) : ∀ k, rowOf v = some k → B ≤ k ∧ k < w.heap.size := by
  intro k hk
  rcases h.2 with ⟨p, rfl, rfl⟩ | ⟨g, cap, cur, rfl, h0, h1, h2, h3, h4, h5, h6⟩
  · rw [rowOf_zero] at hk; cases hk
  · have hgk : g = k := by simpa [rowOf_pos h0] using hk
    rw [← hgk]
    refine ⟨h1, ?_⟩
    rcases Nat.lt_or_ge g w.heap.size with h | h
    · exact h
    · rw [Array.getElem?_eq_none h] at h2; cases h2

theorem OwnR.base {B' : Nat} (h : OwnR B e size w v n xs) (hb : B' ≤ B) : OwnR B' e size w v n xs := by
  refine ⟨h.1, ?_⟩
  rcases h.2 with hn | ⟨g, cap, cur, rfl, h0, h1, h2⟩
  · exact .inl hn
  · exact .inr ⟨g, cap, cur, rfl, h0, Nat.le_trans hb h1, h2⟩

theorem OwnR.keep (h : OwnR B e size w v n xs) (hk : ∀ k, rowOf v = some k → w'.heap[k]? = w.heap[k]?) : OwnR B e size w' v n xs := by
  refine ⟨h.1, ?_⟩
  rcases h.2 with hn | ⟨g, cap, cur, rfl, h0, h1, h2, h3⟩
  · exact .inl hn
  · exact .inr ⟨g, cap, cur, rfl, h0, h1, (hk g (rowOf_pos h0)).trans h2, h3⟩

theorem OwnR.touch {p : Nat → Prop} (h : OwnR B e size w v n xs) (ht : Touch p w w') (hp : ∀ k, rowOf v = some k → ¬ p k) : OwnR B e size w' v n xs :=
  h.keep (fun k hk => ht.block k (h.row k hk).2 (hp k hk))

theorem run_append_R {P : Program} (t tx ty : TypeId) (i : TypeInfo) (z : Value) (bytes : Nat) (ht : P.underlying t = some (.slice e)) (hi : P.info? e = some i) (hz : i.zero = some z)
    (hsize : i.size = size) (hby : i.bytes = bytes) (hzs : z.cells.size = size) (hown : OwnR B e size w v n xs)
    (x : Value) (m : Nat) (news : List Value) (hs : Src P size tx x m news w)
    (h63 : n + m ≤ maxLen) (hbytes : (n + m) * bytes ≤ 140737488355328) (hbase : B ≤ w.heap.size) :
    ∃ v' w', (Builtin.append_ #[t, tx] ty #[v, x]).run P w = .ok v' w' ∧ OwnR B e size w' v' (n + m) (xs ++ news) ∧ w.grownBy w' (rowOf v) ∧ (∀ k, rowOf v' = some k → rowOf v = some k ∨ w.heap.size ≤ k) := by
  subst hsize
  subst hby
  have hl := hs.newsLen
  have hsmall : n + m ≤ 9223372036854775807 := by simp only [maxLen] at h63; omega
  have hlen : (xs ++ news).length = (n + m) * i.size := by rw [List.length_append, hown.1, hl, Nat.add_mul]
  have grown : ∀ (old : Nat), old < n + m → ∀ (row : Option Nat),
      OwnR B e i.size (w.drew.alloc (.cells ((xs ++ news).toArray ++ Builtin.zeroCells z.cells (grownCap w (n + m) old e - (n + m))) e))
        (.slice (some ⟨w.heap.size, 0, none⟩) (n + m) (grownCap w (n + m) old e)) (n + m) (xs ++ news) ∧
      w.grownBy (w.drew.alloc (.cells ((xs ++ news).toArray ++ Builtin.zeroCells z.cells (grownCap w (n + m) old e - (n + m))) e)) row := by
    intro old ho row
    have hge := grownCap_ge w (n + m) old e
    have hcm : grownCap w (n + m) old e ≤ maxLen := grownCap_le_maxLen w (n + m) old e h63
    refine ⟨⟨hlen, .inr ⟨w.heap.size, _, _, rfl, by omega, hbase, heap_alloc_new w.drew _, hge, hcm, ?_, ?_⟩⟩, ⟨rfl, rfl, rfl, by simp, fun k hk _ => Below.heap_alloc w.drew _ k hk⟩⟩
    · rw [Array.size_append, List.size_toArray, size_zeroCells, hzs, hlen, ← Nat.add_mul]
      congr 1
      omega
    · rw [Array.toList_append, ← hlen]
      exact List.take_left
  rcases hown.2 with ⟨p, rfl, rfl⟩ | ⟨g, cap, cur, rfl, h0, hbg, hg, hnc, hcm, hcs, htake⟩
  · have hx : xs = [] := List.eq_nil_of_length_eq_zero (by simpa using hown.1)
    subst hx
    by_cases hm : m = 0
    · subst hm
      have hn : news = [] := List.eq_nil_of_length_eq_zero (by simpa using hl)
      subst hn
      refine ⟨.slice p 0 0, w, ?_, OwnR.empty _ _ _ _ _, ⟨rfl, rfl, rfl, Nat.le_refl _, fun _ _ _ => rfl⟩, fun k hk => by rw [rowOf_zero] at hk; cases hk⟩
      have hc := hs.cells
      rcases hs.kind with ⟨e', hk⟩ | hk <;> cases p <;> simp [Builtin.append_, run_underlying ht, run_underlying hk, sizeOf, typeInfo, hi, hs.len, hc, storeCells]
    · have hf : (Builtin.firstCells i.size 0 (.slice p 0 0)).run P w.drew = .ok ([] : List Value).toArray w.drew := by
        cases p <;> simp [Builtin.firstCells, loadCells, loadCellsFrom]
      have hr := run_append_grow_src (P := P) w t tx ty e i z ht hi hz p 0 0 [] hf x m news hs (by omega) (by omega)
        (by rw [Nat.zero_add, nextslicecap_zero (by omega)]; have hb := hbytes; simp only [Nat.zero_add] at hb; omega)
      have hgr := grown 0 (by omega) (rowOf (.slice p 0 0))
      refine ⟨_, _, hr, hgr.1, hgr.2, fun k hk => ?_⟩
      have hge := grownCap_ge w (0 + m) 0 e
      rw [rowOf_pos (by omega)] at hk
      cases hk
      exact .inr (Nat.le_refl _)
  · by_cases hroom : n + m ≤ cap
    · have hfit : n * i.size + news.length ≤ cur.size := by rw [hl, hcs, ← Nat.add_mul]; exact Nat.mul_le_mul_right _ hroom
      have hst := run_storeCells_at P g (n * i.size) e news 0 cur w hg (by simpa using hfit) hs.one
      simp only [Nat.add_zero] at hst
      have hc := hs.cells
      have hr : (Builtin.append_ #[t, tx] ty #[.slice (some ⟨g, 0, none⟩) n cap, x]).run P w =
          .ok (.slice (some ⟨g, 0, none⟩) (n + m) cap) (w.setRow g (cur.toList.take (n * i.size) ++ news ++ cur.toList.drop (n * i.size + news.length)).toArray) := by
        rcases hs.kind with ⟨e', hk⟩ | hk <;> simp [Builtin.append_, run_underlying ht, run_underlying hk, sizeOf, typeInfo, hi, hs.len, hroom, hc, Addr.add_lit, hst]
      refine ⟨_, _, hr, ⟨hlen, .inr ⟨g, cap, _, rfl, h0, hbg, setRow_heap w g cur _ e _ hg, hroom, hcm, ?_, ?_⟩⟩, ⟨rfl, rfl, rfl, by simp, fun k _ hk => setRow_other w g k _ (fun e => hk (by rw [rowOf_pos h0, e]))⟩, fun k hk => .inl ?_⟩
      · simp only [List.size_toArray, List.length_append, List.length_take, List.length_drop, Array.length_toList]
        omega
      · rw [htake, ← hlen]
        exact List.take_left
      · rw [rowOf_pos h0] at hk ⊢
        exact hk
    · have holds : ∀ j u, xs[j]? = some u → w.drew.cell? ((⟨g, 0, none⟩ : Addr).add j) = some u := by
        intro j u hu
        obtain ⟨p', c', e', _, _, hc⟩ := hown.slice
        cases e'
        obtain ⟨g', e', _, _, hc⟩ := hc j u hu
        cases e'
        rw [Addr.add_lit, Nat.zero_add]
        exact hc
      have hr := run_append_grow_src (P := P) w t tx ty e i z ht hi hz (some ⟨g, 0, none⟩) n cap xs (run_firstCells_some w.drew i.size n ⟨g, 0, none⟩ n cap xs hown.1 holds) x m news hs (by omega) (by omega)
        (growslice_fits (by omega) hbytes)
      have hgr := grown cap (by omega) (rowOf (.slice (some ⟨g, 0, none⟩) n cap))
      refine ⟨_, _, hr, hgr.1, hgr.2, fun k hk => .inr ?_⟩
      have hge := grownCap_ge w (n + m) cap e
      rw [rowOf_pos (by omega)] at hk
      cases hk
      exact Nat.le_refl _

end

/-- The same as a step of the walk. -/
theorem wpList_append_R {P : Program} (w : World) {ops : Array Oper} {rest : List Oper} {o : Oper} {a : Act} {Q : Exit → Act → World → Prop} (hgd : o.guard = none) (s y : Operand) (t tx : TypeId)
    (ho : o.op = .call { callee := .builtin .append, args := #[s, y], argTypes := #[t, tx] })
    (B : Nat) (e : TypeId) (i : TypeInfo) (z : Value) (size bytes : Nat) (ht : P.underlying t = some (.slice e)) (hi : P.info? e = some i) (hz : i.zero = some z)
    (hsize : i.size = size) (hby : i.bytes = bytes) (hzs : z.cells.size = size)
    (v : Value) (n : Nat) (xs : List Value) (hsv : a.eval s = v) (hown : OwnR B e size w v n xs)
    (x : Value) (m : Nat) (news : List Value) (hx : a.eval y = x) (hs : Src P size tx x m news w)
    (h63 : n + m ≤ maxLen) (hbytes : (n + m) * bytes ≤ 140737488355328) (hbase : B ≤ w.heap.size)
    (h : ∀ v' w', OwnR B e size w' v' (n + m) (xs ++ news) → w.grownBy w' (rowOf v) → (∀ k, rowOf v' = some k → rowOf v = some k ∨ w.heap.size ≤ k) → wpList P ops Q rest (a.put o.dst v') w') :
    wpList P ops Q (o :: rest) a w := by
  refine wpList_plain hgd fun K hK => ?_
  obtain ⟨v', w', hrun, r1, r2, r3⟩ := run_append_R (P := P) t tx o.type i z bytes ht hi hz hsize hby hzs hown x m news hs h63 hbytes hbase
  unfold Oper.wp
  simp [execOp, ho, resolve, invoke, builtin, hsv, hx, hrun, Result.andThen]
  exact hK _ _ (h v' w' r1 r2 r3)

theorem Touch.of_row {w w' : World} {row : Option Nat} (h : w.grownBy w' row) : Touch (fun i => some i = row) w w' :=
  ⟨h.os, h.tape, h.output, h.size, fun k hk hne => h.block k hk hne⟩

end Go.Proofs.YtacnmdlefonjmaaGreat

/-
  How arguments are read: a reading takes a type's cells to a plain Lean value; it stays whatever happens from block B on.
-/
namespace Go.Proofs.YtacnmdlefonjmaaGreat
open Go.RowKit Go.ChangeShapes Go.WideShapes Go.Deep

/-- Every argument of this type is read as some value. -/
def Opens {α : Type} (P : Program) (t : TypeId) (R : Nat → World → List Value → α → Prop) : Prop :=
  ∀ (H : Type) (enc : TypeId × Value → H) (w : World) (base : Nat) (spare : Nat → Bool) (held : Bool) (fuel : Nat) (cs : List Value) (x : DataW H × List MemPlace),
    DataW.trod enc P w base spare held fuel t cs = some x → ∃ y, R w.heap.size w cs y

/-- A reading stays where nothing below B turns. -/
def Stays {α : Type} (R : Nat → World → List Value → α → Prop) : Prop :=
  ∀ (B : Nat) (w w' : World) (cs : List Value) (x : α), R B w cs x → Below B w w' → R B w' cs x

def IntR (k : IntKind) (_B : Nat) (_w : World) (cs : List Value) (n : Int) : Prop := cs = [.int k n] ∧ (Lit.int k n).wf = true
def BoolR (_B : Nat) (_w : World) (cs : List Value) (b : Bool) : Prop := cs = [.bool b]
def StrR (_B : Nat) (_w : World) (cs : List Value) (s : ByteArray) : Prop := cs = [.string s] ∧ s.size ≤ maxLen
/-- A slice whose elements have n cells each. -/
def SliceR {α : Type} (n : Nat) (R : Nat → World → List Value → α → Prop) (B : Nat) (w : World) (cs : List Value) (xs : List α) : Prop :=
  ∃ p c, cs = [.slice p xs.length c] ∧ xs.length ≤ c ∧ c ≤ maxLen ∧
    ∀ i x, xs[i]? = some x → ∃ b o es, p = some ⟨b, o, none⟩ ∧ b < B ∧ es.length = n ∧ (∀ j u, es[j]? = some u → w.cell? ⟨b, o + i * n + j, none⟩ = some u) ∧ R B w es x

theorem IntR.stays (k : IntKind) : Stays (IntR k) := fun _ _ _ _ _ h _ => h
theorem BoolR.stays : Stays BoolR := fun _ _ _ _ _ h _ => h
theorem StrR.stays : Stays StrR := fun _ _ _ _ _ h _ => h
theorem SliceR.stays {α : Type} {n : Nat} {R : Nat → World → List Value → α → Prop} (hR : Stays R) : Stays (SliceR n R) := by
  rintro B w w' cs xs ⟨p, c, h1, h2, h3, h4⟩ hb
  refine ⟨p, c, h1, h2, h3, fun i x hx => ?_⟩
  obtain ⟨b, o, es, e, hlt, hl, hc, hr⟩ := h4 i x hx
  exact ⟨b, o, es, e, hlt, hl, fun j u hu => (hb.cell (p := ⟨b, o + i * n + j, none⟩) hlt).trans (hc j u hu), hR B w w' es x hr hb⟩

theorem opens_int {P : Program} {t : TypeId} {k : IntKind} (ht : P.underlying t = some (.int k)) : Opens P t (IntR k) := by
  intro H enc w base spare held fuel cs x h
  obtain ⟨n, e, _, hw⟩ := DataW.trod_int ht h
  exact ⟨n, e, hw⟩
theorem opens_bool {P : Program} {t : TypeId} (ht : P.underlying t = some .bool) : Opens P t BoolR := by
  intro H enc w base spare held fuel cs x h
  obtain ⟨b, e, _⟩ := DataW.trod_bool ht h
  exact ⟨b, e⟩
theorem opens_str {P : Program} {t : TypeId} (ht : P.underlying t = some .string) : Opens P t StrR := by
  intro H enc w base spare held fuel cs x h
  obtain ⟨s, e, _, hs⟩ := DataW.trod_string ht h
  exact ⟨s, e, hs⟩

theorem list_of_all {α : Type} {p : Nat → α → Prop} : ∀ (n : Nat), (∀ i, i < n → ∃ x, p i x) → ∃ xs : List α, xs.length = n ∧ ∀ i x, xs[i]? = some x → p i x
  | 0, _ => ⟨[], rfl, fun i x h => by simp at h⟩
  | n + 1, h => by
    obtain ⟨xs, hl, hp⟩ := list_of_all n (fun i hi => h i (by omega))
    obtain ⟨x, hx⟩ := h n (by omega)
    refine ⟨xs ++ [x], by simp [hl], fun i y hy => ?_⟩
    by_cases hi : i < n
    · exact hp i y (by rw [List.getElem?_append_left (by omega)] at hy; exact hy)
    · have hin : i = n := by
        have := (List.getElem?_eq_some_iff.1 hy).1
        simp at this; omega
      subst hin
      rw [List.getElem?_append_right (by omega), hl] at hy
      simp at hy
      subst hy
      exact hx

theorem opens_slice {α : Type} {P : Program} {t e : TypeId} {n : Nat} {R : Nat → World → List Value → α → Prop} (ht : P.underlying t = some (.slice e)) (hn : P.cellsOf e = n) (h0 : 0 < n) (hR : Opens P e R) : Opens P t (SliceR n R) := by
  intro H enc w base spare held fuel cs x h
  subst hn
  rcases open_slice ht h with ⟨rfl, _⟩ | ⟨a, len, cap, m, n, D, Pl, rfl, hb, hl, hm, hmm, _, hi⟩
  · exact ⟨[], none, 0, rfl, Nat.le_refl _, by simp [maxLen], fun i x hx => by simp at hx⟩
  · have hlm : len ≤ m := by rw [hmm]; split <;> omega
    obtain ⟨xs, hxl, hxs⟩ := list_of_all (p := fun i x => ∃ b o es, some a = some ⟨b, o, none⟩ ∧ b < w.heap.size ∧ es.length = P.cellsOf e ∧ (∀ j u, es[j]? = some u → w.cell? ⟨b, o + i * P.cellsOf e + j, none⟩ = some u) ∧ R w.heap.size w es x) len (by
      intro i hi'
      obtain ⟨cs', hc, htr⟩ := hi i (by omega)
      obtain ⟨hbl, hlen, hcell⟩ := World.cells?_some hc
      obtain ⟨y, hy⟩ := hR H enc w base spare held n cs' _ htr
      have hc0 := hcell 0 h0
      have hc0' : w.cell? ((a.add (i * P.cellsOf e)).add 0) = some (cs'[0]'(by omega)) := by rw [hc0]; exact List.getElem?_eq_getElem (by omega)
      obtain ⟨b, o, s⟩ := a
      have hs : s = none := by
        obtain ⟨cs0, hc00, _⟩ := hi 0 (by omega)
        obtain ⟨_, hlen0, hcell0⟩ := World.cells?_some hc00
        have h00 := hcell0 0 h0
        have h00' : w.cell? (((⟨b, o, s⟩ : Addr).add (0 * P.cellsOf e)).add 0) = some (cs0[0]'(by omega)) := by rw [h00]; exact List.getElem?_eq_getElem (by omega)
        simpa [Addr.add] using World.cell?_spot h00'
      subst hs
      have hlt : b < w.heap.size := by
        have := World.block_lt_of_cell? w _ hc0'
        simpa [Addr.add_lit] using this
      refine ⟨y, b, o, cs', rfl, hlt, hlen, fun j u hu => ?_, hy⟩
      have hj : j < P.cellsOf e := by rw [← hlen]; exact (List.getElem?_eq_some_iff.1 hu).1
      have := hcell j hj
      rw [Addr.add_lit, Addr.add_lit] at this
      rw [this, hu])
    subst hxl
    exact ⟨xs, some a, cap, rfl, hl, hm, hxs⟩

/-- A struct of one-cell fields, field by field. -/
theorem fields_of {P : Program} {t : TypeId} {fs : Array Field} (ht : P.underlying t = some (.struct fs)) (hone : oneCellFields P fs = true) (hC : P.cellsOf t = fs.size)
    {H : Type} {enc : TypeId × Value → H} {w : World} {base : Nat} {spare : Nat → Bool} {held : Bool} {fuel : Nat} {cs : List Value} {x : DataW H × List MemPlace} (h : DataW.trod enc P w base spare held fuel t cs = some x) :
    cs.length = fs.size ∧ ∀ (j : Nat) (f : Field), fs[j]? = some f → ∃ v n y, cs[j]? = some v ∧ DataW.trod enc P w base spare held n f.type [v] = some y := by
  obtain ⟨ys, n, _, _, hlen, hyl, hf⟩ := DataW.trod_struct ht h
  refine ⟨hlen.trans hC, fun j f hj => ?_⟩
  have hjl : j < fs.size := (Array.getElem?_eq_some_iff.1 hj).1
  obtain ⟨ho, hk⟩ := hone_of hone j f hj
  have h1 := hf j f hj
  rw [ho, hk] at h1
  have hv : cs[j]? = some (cs[j]'(by omega)) := List.getElem?_eq_getElem (by omega)
  have hone' : (cs.drop j).take 1 = [cs[j]'(by omega)] := by
    rw [List.drop_eq_getElem_cons (by omega)]
    rfl
  rw [hone'] at h1
  exact ⟨_, n, _, hv, h1.trans (List.getElem?_eq_getElem (by omega))⟩

/-- A field's own reading. -/
theorem field_of {α : Type} {P : Program} {t : TypeId} {fs : Array Field} (ht : P.underlying t = some (.struct fs)) (hone : oneCellFields P fs = true) (hC : P.cellsOf t = fs.size)
    {H : Type} {enc : TypeId × Value → H} {w : World} {base : Nat} {spare : Nat → Bool} {held : Bool} {fuel : Nat} {cs : List Value} {x : DataW H × List MemPlace} (h : DataW.trod enc P w base spare held fuel t cs = some x)
    {R : Nat → World → List Value → α → Prop} (j : Nat) (f : Field) (hf : fs[j]? = some f) (v : Value) (hv : cs[j]? = some v) (hR : Opens P f.type R) : ∃ y, R w.heap.size w [v] y := by
  obtain ⟨v', n, y, hv', hy⟩ := (fields_of ht hone hC h).2 j f hf
  rw [hv] at hv'
  cases hv'
  exact hR H enc w base spare held n [v] y hy

theorem flat_get {α β : Type} (f : α → List β) (n : Nat) (hf : ∀ x, (f x).length = n) : ∀ (xs : List α) (i j : Nat) (x : α) (u : β), xs[i]? = some x → (f x)[j]? = some u → ((xs.map f).flatten)[i * n + j]? = some u
  | [], i, j, x, u, hx, hu => by simp at hx
  | y :: xs, 0, j, x, u, hx, hu => by
    simp at hx
    subst hx
    have hj : j < (f y).length := (List.getElem?_eq_some_iff.1 hu).1
    rw [Nat.zero_mul, Nat.zero_add, List.map_cons, List.flatten_cons, List.getElem?_append_left hj]
    exact hu
  | y :: xs, i + 1, j, x, u, hx, hu => by
    have hx' : xs[i]? = some x := by simpa using hx
    have h1 := hf y
    rw [List.map_cons, List.flatten_cons, List.getElem?_append_right (by rw [h1, Nat.succ_mul]; omega), h1, show (i + 1) * n + j - n = i * n + j from by rw [Nat.succ_mul]; omega]
    exact flat_get f n hf xs i j x u hx' hu

theorem flat_length {α β : Type} (f : α → List β) (n : Nat) (hf : ∀ x, (f x).length = n) : ∀ (xs : List α), ((xs.map f).flatten).length = xs.length * n
  | [] => by simp
  | y :: xs => by
    rw [List.map_cons, List.flatten_cons, List.length_append, hf, flat_length f n hf xs, List.length_cons, Nat.succ_mul]; omega

/-- A new block reads as a slice. -/
theorem SliceR.new {α : Type} {n : Nat} {R : Nat → World → List Value → α → Prop} (w : World) (e : TypeId) (cs : Array Value) (f : α → List Value) (xs : List α) (hf : ∀ x, (f x).length = n) (hcs : cs.toList = (xs.map f).flatten) (hm : xs.length ≤ maxLen)
    (hR : ∀ x, x ∈ xs → R (w.heap.size + 1) (w.alloc (.cells cs e)) (f x) x) : SliceR n R (w.heap.size + 1) (w.alloc (.cells cs e)) [.slice (some ⟨w.heap.size, 0, none⟩) xs.length xs.length] xs := by
  refine ⟨_, _, rfl, Nat.le_refl _, hm, fun i x hx => ⟨w.heap.size, 0, f x, rfl, by omega, hf x, fun j u hu => ?_, hR x (List.mem_of_getElem? hx)⟩⟩
  have := flat_get f n hf xs i j x u hx hu
  rw [← hcs, Array.getElem?_toList] at this
  rw [Nat.zero_add, World.cell?_alloc_new, this]

/-- A struct type of one-cell fields. -/
structure StructOf (P : Program) (t : TypeId) (fs : Array Field) : Prop where
  ht : P.underlying t = some (.struct fs)
  hone : oneCellFields P fs = true
  hC : P.cellsOf t = fs.size

theorem StructOf.len {P : Program} {t : TypeId} {fs : Array Field} (S : StructOf P t fs)
    {H : Type} {enc : TypeId × Value → H} {w : World} {base : Nat} {spare : Nat → Bool} {held : Bool} {fuel : Nat} {cs : List Value} {x : DataW H × List MemPlace} (h : DataW.trod enc P w base spare held fuel t cs = some x) : cs.length = fs.size :=
  (fields_of S.ht S.hone S.hC h).1

theorem StructOf.field {P : Program} {t : TypeId} {fs : Array Field} (S : StructOf P t fs)
    {H : Type} {enc : TypeId × Value → H} {w : World} {base : Nat} {spare : Nat → Bool} {held : Bool} {fuel : Nat} {cs : List Value} {x : DataW H × List MemPlace} (h : DataW.trod enc P w base spare held fuel t cs = some x)
    {α : Type} {R : Nat → World → List Value → α → Prop} (j : Nat) (f : Field) (hf : fs[j]? = some f) (v : Value) (hv : cs[j]? = some v) (hR : Opens P f.type R) : ∃ y, R w.heap.size w [v] y :=
  field_of S.ht S.hone S.hC h j f hf v hv hR

/-- Bytes. -/
def BytesR (B : Nat) (w : World) (cs : List Value) (l : List UInt8) : Prop :=
  ∃ p c, cs = [.slice p l.length c] ∧ l.length ≤ c ∧ c ≤ maxLen ∧ BytesIn w p l ∧ (l ≠ [] → ∀ a, p = some a → a.block < B)

theorem BytesR.stays : Stays BytesR := by
  rintro B w w' cs l ⟨p, c, h1, h2, h3, h4, h5⟩ hb
  refine ⟨p, c, h1, h2, h3, fun i hi => ?_, h5⟩
  obtain ⟨b, o, e, hc⟩ := h4 i hi
  refine ⟨b, o, e, (hb.cell (p := ⟨b, o + i, none⟩) (h5 (by rintro rfl; simp at hi) ⟨b, o, none⟩ e)).trans hc⟩

theorem byte_of_wf {x : Int} (h : (Lit.int .u8 x).wf = true) : 0 ≤ x ∧ x < 256 := by
  have h1 : IntKind.u8.min = 0 := rfl
  have h2 : IntKind.u8.max = 255 := rfl
  simp only [Lit.wf, Bool.and_eq_true, decide_eq_true_eq] at h
  omega

theorem byte_ofNat {x : Int} (h : 0 ≤ x ∧ x < 256) : ((UInt8.ofNat x.toNat).toNat : Int) = x := by
  simp
  omega

theorem bytesR_of_slice {B : Nat} {w : World} {cs : List Value} {xs : List Int} (h : SliceR 1 (IntR .u8) B w cs xs) : ∃ l, BytesR B w cs l := by
  obtain ⟨p, c, rfl, h2, h3, h4⟩ := h
  refine ⟨xs.map (fun n => UInt8.ofNat n.toNat), p, c, by simp, by simpa using h2, h3, fun i hi => ?_, fun hne a ha => ?_⟩
  · have hi' : i < xs.length := by simpa using hi
    obtain ⟨b, o, es, e, hlt, hl, hc, rfl, hw⟩ := h4 i xs[i] (List.getElem?_eq_getElem hi')
    refine ⟨b, o, e, ?_⟩
    have := hc 0 _ rfl
    rw [Nat.mul_one, Nat.add_zero] at this
    rw [this]
    have hb := byte_ofNat (byte_of_wf hw)
    simp only [List.getD, List.getElem?_map, List.getElem?_eq_getElem hi', Option.map_some, Option.getD_some]
    rw [hb]
  · have h0 : 0 < xs.length := by
      cases xs with
      | nil => exact absurd rfl hne
      | cons a l => simp
    obtain ⟨b, o, es, e, hlt, _⟩ := h4 0 xs[0] (List.getElem?_eq_getElem h0)
    rw [e] at ha
    cases ha
    exact hlt

theorem opens_bytes {P : Program} {t e : TypeId} (ht : P.underlying t = some (.slice e)) (he : P.underlying e = some (.int .u8)) (hn : P.cellsOf e = 1) : Opens P t BytesR := by
  intro H enc w base spare held fuel cs x h
  obtain ⟨xs, hx⟩ := opens_slice ht hn (by omega) (opens_int he) H enc w base spare held fuel cs x h
  exact bytesR_of_slice hx

end Go.Proofs.YtacnmdlefonjmaaGreat

