/-
  What all texts of the seat lean on: how bytes in memory are told, and small laws of lists and numbers.
-/
import Derived.Test.YtldjfmddjbdciaaRows
import Derived.WalkKit
import Derived.WalkSpells
import Derived.WalkLawsBesides
import Derived.Lib.Hide
namespace Go.Proofs.Ytldjfmddjbdciaa
open Go.RowKit

theorem ret_bool {a b : Bool} (h : a = b) : Ending.returned (.bool a) = .returned (.bool b) := by rw [h]
theorem ret_int {k : IntKind} {a b : Int} (h : a = b) : Ending.returned (.int k a) = .returned (.int k b) := by rw [h]

/-- A byte as a value. -/
def byteV (c : UInt8) : Value := .int .u8 (c.toNat : Int)

/-- From the address p on there are these bytes (of no byte nothing is said). -/
def BytesIn (w : World) (p : Option Addr) (l : List UInt8) : Prop :=
  ∀ i, i < l.length → ∃ b o, p = some ⟨b, o, none⟩ ∧ w.cell? ⟨b, o + i, none⟩ = some (.int .u8 ((l.getD i 0).toNat : Int))

theorem BytesIn.nil (w : World) (p : Option Addr) : BytesIn w p [] := fun i h => by simp at h

theorem BytesIn.cellAt {w : World} {b o : Nat} {l : List UInt8} (h : BytesIn w (some ⟨b, o, none⟩) l) (i : Nat) (hi : i < l.length) :
    w.cell? ⟨b, o + i, none⟩ = some (.int .u8 ((l.getD i 0).toNat : Int)) := by
  obtain ⟨b', o', e, hc⟩ := h i hi
  cases e
  exact hc

theorem BytesIn.addr {w : World} {p : Option Addr} {l : List UInt8} (h : BytesIn w p l) (hl : 0 < l.length) : ∃ b o, p = some ⟨b, o, none⟩ := by
  obtain ⟨b, o, e, _⟩ := h 0 hl
  exact ⟨b, o, e⟩

theorem u8_bd (c : UInt8) : (0 : Int) ≤ (c.toNat : Int) ∧ (c.toNat : Int) < 256 := ⟨by omega, by have := c.toNat_lt; omega⟩

/-- A block that is known whole. -/
def Blk (w : World) (g : Nat) (t : TypeId) (cs : Array Value) : Prop := w.heap[g]? = some (.cells cs t (0, 0))

section
variable {w w' : World} {g : Nat} {t : TypeId} {cs : Array Value}
theorem Blk.lt (h : Blk w g t cs) : g < w.heap.size := by
  rcases Nat.lt_or_ge g w.heap.size with hlt | hge
  · exact hlt
  · unfold Blk at h; rw [Array.getElem?_eq_none hge] at h; cases h
theorem Blk.cell (h : Blk w g t cs) (i : Nat) : w.cell? ⟨g, i, none⟩ = cs[i]? := cell_of_row w g i cs t (0, 0) h
theorem Blk.frozen (h : Blk w g t cs) (i : Nat) : w.frozen? ⟨g, i, none⟩ = false := by
  unfold Blk at h
  simp [World.frozen?, h]
theorem Blk.new (w : World) (t : TypeId) (cs : Array Value) : Blk (w.alloc (.cells cs t)) w.heap.size t cs := _root_.Go.heap_alloc_new w _
theorem Blk.alloc (h : Blk w g t cs) (o : Obj) : Blk (w.alloc o) g t cs := (Below.heap_alloc w o g h.lt).trans h
theorem Blk.set_ (h : Blk w g t cs) (i : Nat) (u : Value) : Blk (w.setCell ⟨g, i, none⟩ u) g t (cs.setIfInBounds i u) := by
  unfold Blk at h ⊢
  simp [World.setCell, Array.getElem?_modify, h]
theorem Blk.far (h : Blk w g t cs) {p : Addr} (hp : g ≠ p.block) (u : Value) : Blk (w.setCell p u) g t cs := (Below.heap_setCell w p u g hp).trans h
theorem Blk.below {B : Nat} (h : Blk w g t cs) (hb : Below B w w') (hg : g < B) : Blk w' g t cs := (hb.block g hg).trans h
theorem Blk.grown {row : Option Nat} (h : Blk w g t cs) (hb : w.grownBy w' row) (hg : some g ≠ row) : Blk w' g t cs := (hb.block g h.lt hg).trans h
end

/-- The number of bytes, the highest first. -/
def be (l : List UInt8) : Int := l.foldl (fun n x => n * 256 + (x.toNat : Int)) 0

theorem be_snoc (l : List UInt8) (c : UInt8) : be (l ++ [c]) = be l * 256 + (c.toNat : Int) := by
  simp [be, List.foldl_append]

theorem take_snoc (l : List UInt8) (k : Nat) (h : k < l.length) : l.take (k + 1) = l.take k ++ [l.getD k 0] := by
  rw [List.take_succ_eq_append_getElem h]; simp [List.getD, h]

theorem be_go (l : List UInt8) : ∀ (a : Int) (k : Nat), 0 ≤ a → a < 256 ^ k → 0 ≤ l.foldl (fun n x => n * 256 + (x.toNat : Int)) a ∧ l.foldl (fun n x => n * 256 + (x.toNat : Int)) a < 256 ^ (k + l.length) := by
  induction l with
  | nil => intro a k h1 h2; exact ⟨h1, h2⟩
  | cons c l ih =>
    intro a k h1 h2
    have hc := u8_bd c
    have := ih (a * 256 + (c.toNat : Int)) (k + 1) (by omega) (by rw [Int.pow_succ]; omega)
    rw [show k + 1 + l.length = k + (c :: l).length from by simp; omega] at this
    exact this

theorem be_bd (l : List UInt8) : 0 ≤ be l ∧ be l < 256 ^ l.length := by
  have := be_go l 0 0 (by omega) (by omega)
  rw [Nat.zero_add] at this
  exact this

theorem be_take_succ (l : List UInt8) (k : Nat) (h : k < l.length) : be (l.take (k + 1)) = be (l.take k) * 256 + ((l.getD k 0).toNat : Int) := by
  rw [take_snoc l k h, be_snoc]

theorem or_byte_nat (n c : Nat) (hc : c < 256) : n * 256 ||| c = n * 256 + c := by
  have : n * 256 = n <<< 8 := by rw [Nat.shiftLeft_eq]
  rw [this, ← Nat.shiftLeft_add_eq_or_of_lt (show c < 2 ^ 8 from hc)]

/-- 'n << 8 | c' of a byte c is a sum. -/
theorem or_byte (n c : Int) (h0 : 0 ≤ n) (h1 : n < 4294967296) (h2 : 0 ≤ c) (h3 : c < 256) : bits .or .i64 (n * 256) c = n * 256 + c := by
  obtain ⟨m, rfl⟩ := Int.eq_ofNat_of_zero_le h0
  obtain ⟨d, rfl⟩ := Int.eq_ofNat_of_zero_le h2
  have hor := or_byte_nat m d (by omega)
  have e1 : ((m : Int) * 256) = ((m * 256 : Nat) : Int) := by omega
  rw [e1]
  have hl : m * 256 + d < 9223372036854775808 := by omega
  show IntKind.i64.wrap ((BitVec.ofInt 64 ((m * 256 : Nat) : Int) ||| BitVec.ofInt 64 ((d : Nat) : Int)).toNat : Int) = _
  have f1 : (BitVec.ofInt 64 ((m * 256 : Nat) : Int)).toNat = m * 256 := by simp [BitVec.toNat_ofInt]; omega
  have f2 : (BitVec.ofInt 64 ((d : Nat) : Int)).toNat = d := by simp; omega
  rw [BitVec.toNat_or, f1, f2, hor, IntKind.wrap_i64]
  omega

/-- The bytes of a list as a string. -/
def strOf (l : List UInt8) : ByteArray := ⟨l.toArray⟩

theorem strOf_nums (l : List UInt8) : strOfNums (l.map fun c => (c.toNat : Int)) = strOf l := by
  unfold strOfNums strOf
  congr 2
  simp [List.map_map, Function.comp_def]

theorem BytesIn.convert {w : World} {p : Option Addr} {l : List UInt8} (h : BytesIn w p l) (c : Nat) {P : Program} (src e dst : TypeId)
    (hs : P.underlying src = some (.slice e)) (he : P.underlying e = some (.int .u8)) (hd : P.underlying dst = some .string) :
    (convert src dst (.slice p l.length c)).run P w = .ok (.string (strOf l)) w := by
  by_cases h0 : l = []
  · subst h0
    rw [show ([] : List UInt8).length = 0 from rfl, run_convert_bytes_string w src dst e _ 0 c hs he hd]
    cases p <;> simp [Conv.bytesToString, loadCells]
    all_goals rfl
  · obtain ⟨b, o, rfl⟩ := h.addr (List.length_pos_iff.2 h0)
    have := run_convert_bytes_arg (P := P) w src e hs he b o l.length c (l.map fun c => (c.toNat : Int)) (by simp) (fun i hi => by
      rw [h.cellAt i hi]; simp [List.getD, hi]) dst hd
    rw [this, strOf_nums]

theorem strOf_toList (l : List UInt8) : (strOf l).toList = l := by
  rw [ByteArray.toList_eq]; rfl

end Go.Proofs.Ytldjfmddjbdciaa
