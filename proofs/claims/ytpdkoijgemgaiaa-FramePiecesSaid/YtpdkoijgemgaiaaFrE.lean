/-
  The contract of frame's Next (layer 4).
-/
import Derived.Test.YtpdkoijgemgaiaaFrD
namespace Go.Proofs.Ytpdkoijgemgaiaa
open Go.RowKit

/-- The first message: its type, what is in it, what is behind it. -/
def nextL (t : Bool) (most : Nat) (L : List UInt8) (wrong : Int) : Option (Nat × List UInt8 × List UInt8) :=
  if (frWhole t L most wrong).2.1 then some (tyOf t L, (L.drop (headN t + 4)).take ((frWhole t L most wrong).1.toNat - (headN t + 4)), L.drop (frWhole t L most wrong).1.toNat) else none
/-- What is wrong then. -/
def wrongL (t : Bool) (most : Nat) (L : List UInt8) (wrong : Int) : Int := (frWhole t L most wrong).2.2

theorem frWhole_yes {t : Bool} {L : List UInt8} {most : Nat} {wrong n r : Int} (h : frWhole t L most wrong = (n, true, r)) : wrong = 0 ∧ r = 0 ∧ ∃ m, n = ((headN t + 4 + m : Nat) : Int) ∧ headN t + 4 + m ≤ L.length := by
  unfold frWhole at h
  split at h
  · simp at h
  · rename_i hw
    split at h
    · simp at h
    · split at h
      · simp at h
      · rename_i he
        simp only [Prod.mk.injEq, decide_eq_true_eq] at h
        obtain ⟨h1, h2, h3⟩ := h
        have h4 : 4 ≤ frN t L := by
          by_cases h5 : frN t L < 4
          · exfalso
            apply he
            unfold frErr
            rw [if_pos h5]
            decide
          · omega
        refine ⟨by omega, h3.symm, (frN t L - 4).toNat, by omega, by omega⟩

def PeekR (t : Bool) (L : List UInt8) (most : Nat) (wrong : Int) (e : Ending) (w' : World) (S : Nat → Prop) : Prop :=
  (nextL t most L wrong = none ∧ e = .returned (.tuple #[.agg #[.int .u8 0, .slice none 0 0], .bool false, .int .i64 (wrongL t most L wrong)])) ∨
  (∃ ty b r q d, nextL t most L wrong = some (ty, b, r) ∧ wrong = 0 ∧ wrongL t most L wrong = 0 ∧ headN t + 4 + b.length ≤ L.length ∧ r = L.drop (headN t + 4 + b.length) ∧ e = .returned (.tuple #[.agg #[.int .u8 (ty : Nat), .slice q b.length d], .bool true, .int .i64 0]) ∧ BytesS S w' [.slice q b.length d] b)

theorem frPeek_any (B sb : Nat) (t : Bool) (L : List UInt8) (most room : Nat) (wrong : Int) (v : Value) (w : World) (h : FrO B w sb t L most room wrong v) (hr : 0 < room) (hL : L.length ≤ 262144) :
    Calls Try.prog 43 #[.pointer (some ⟨sb, 0, none⟩)] w fun e w' => PeekR t L most wrong e w' (fun k => w.heap.size ≤ k) ∧ FrO B w' sb t L most room (wrongL t most L wrong) v ∧ Touch (fun i => i = sb) w w' := by
  obtain ⟨n, b, r, hwh⟩ : ∃ n b r, frWhole t L most wrong = (n, b, r) := ⟨_, _, _, rfl⟩
  cases b
  · refine (frPeek_no B sb t L most room wrong v n r w h hr hwh).mono ?_
    rintro e w' ⟨rfl, hf, ht⟩
    have hn : nextL t most L wrong = none := by unfold nextL; rw [hwh]; rfl
    have hw : wrongL t most L wrong = r := by unfold wrongL; rw [hwh]
    rw [hw]
    exact ⟨.inl ⟨hn, by rw [hw]⟩, hf, ht⟩
  · obtain ⟨rfl, rfl, m, rfl, hm⟩ := frWhole_yes hwh
    have hw : wrongL t most L 0 = 0 := by unfold wrongL; rw [hwh]
    have hh : headN t ≤ 1 := by cases t <;> simp [headN]
    have hbl : ((L.drop (headN t + 4)).take m).length = m := by rw [List.length_take, List.length_drop]; omega
    have hn : nextL t most L 0 = some (tyOf t L, (L.drop (headN t + 4)).take m, L.drop (headN t + 4 + m)) := by
      unfold nextL
      rw [hwh]
      simp only [if_true, Int.toNat_natCast]
      rw [show headN t + 4 + m - (headN t + 4) = m from by omega]
    refine (frPeek_yes B sb t L most room v (headN t) m _ w h hr rfl hh hwh hm hL rfl).mono ?_
    rintro e w' ⟨q, d, rfl, hb, hf, ht⟩
    rw [hw]
    exact ⟨.inr ⟨_, _, _, q, d, hn, rfl, hw, by rw [hbl]; exact hm, by rw [hbl], rfl, hb⟩, hf, ht⟩

theorem frNext_nil (w : World) : Calls Try.prog 42 #[.pointer none] w fun e w' => e = .returned (.tuple #[.agg #[.int .u8 0, .slice none 0 0], .bool false, .int .i64 2]) ∧ Below w.heap.size w w' := by
  have Ha := Lib.hid ((Below.refl w.heap.size w).alloc (Nat.le_refl _) (.cells #[.int .u8 0, .slice none 0 0] 67))
  have Hr := Lib.hid (Blk.new w 67 #[.int .u8 0, .slice none 0 0])
  go_enter Try.func42, Try.ntmps42
  go_wp2_with fail
  generalize w.alloc (.cells #[.int .u8 0, .slice none 0 0] 67) = w1 at *
  refine (frPeek_nil w1).mono ?_
  rintro e w2 ⟨rfl, hb2⟩
  have hr2 := Hr.out.below hb2 Hr.out.lt
  have hl2 := hr2.lt
  have hrc := hr2.cell
  have hf0 := hr2.frozen 0
  have hf1 := hr2.frozen 1
  have Hb2 := Lib.hid (Ha.out.trans (hb2.mono Ha.out.size))
  have hz := Hb2.out.size
  clear hb2 hr2
  go_wp2
  exact bodyPost_ret (v := .tuple #[.agg #[.int .u8 0, .slice none 0 0], .bool false, .int .i64 2]) (by simp [results, Try.results42, go_sem, hrc, hl2]) rfl ⟨rfl, ((Hb2.out.setCell (by exact Nat.le_refl _) _).setCell (by exact Nat.le_refl _) _).alloc (by simpa [World.setCell] using hz) _⟩

/-- What the taking of a message leaves. -/
def NxC (w wx : World) (B sb : Nat) (t : Bool) (R : List UInt8) (most room : Nat) (v : Value) (g ty : Nat) (b : List UInt8) (q : Option Addr) (d : Nat) : Prop :=
  ∃ v', FrO B wx sb t R most room 0 v' ∧ (∀ k, rowOf v' = some k → rowOf v = some k) ∧ Blk wx g 67 #[.int .u8 (ty : Nat), .slice q b.length d] ∧ Blk wx w.heap.size 67 #[.int .u8 0, .slice none 0 0] ∧
    BytesS (fun k => w.heap.size < k) wx [.slice q b.length d] b ∧ Touch (fun i => i = sb ∨ rowOf v = some i) w wx

/-- What stays ahead of it. -/
structure NxI (w0 w : World) (B sb : Nat) (t : Bool) (L : List UInt8) (most room : Nat) (v : Value) (g ty : Nat) (b : List UInt8) (q : Option Addr) (d : Nat) : Prop where
  fr : FrO B w sb t L most room 0 v
  msg : Blk w g 67 #[.int .u8 (ty : Nat), .slice q b.length d]
  res : Blk w w0.heap.size 67 #[.int .u8 0, .slice none 0 0]
  body : BytesS (fun k => w0.heap.size < k) w [.slice q b.length d] b
  tch : Touch (fun i => i = sb) w0 w
  sbl : sb < w0.heap.size
  row : ∀ k, rowOf v = some k → k < w0.heap.size
  gl : w0.heap.size < g

theorem NxI.step {w0 w w' : World} {B sb : Nat} {t : Bool} {L : List UInt8} {most room : Nat} {v : Value} {g ty : Nat} {b : List UInt8} {q : Option Addr} {d : Nat} (h : NxI w0 w B sb t L most room v g ty b q d) (hb : Below w.heap.size w w') : NxI w0 w' B sb t L most room v g ty b q d :=
  ⟨h.fr.still hb, h.msg.below hb h.msg.lt, h.res.below hb h.res.lt, BytesS.still _ _ _ _ _ _ h.body (Kept.all hb), h.tch.then (Touch.of_below (p := fun i => i = sb) hb) (fun _ _ e => e), h.sbl, h.row, h.gl⟩

theorem nxC_end {w w4 w5 : World} {B sb : Nat} {t : Bool} {L R : List UInt8} {most room : Nat} {v v' : Value} {g ty : Nat} {b : List UInt8} {q : Option Addr} {d : Nat} (h : NxI w w4 B sb t L most room v g ty b q d) (ho : OwnBR B w5 v' R) (hr : rowOf v' = rowOf v) (hT : Touch (fun i => rowOf v = some i) w4 w5) :
    NxC w (w5.setCell ⟨sb, 1, none⟩ v') B sb t R most room v g ty b q d := by
  have hsl := h.sbl
  have hgl := h.gl
  have hT2 : Touch (fun i => i = sb) w5 (w5.setCell ⟨sb, 1, none⟩ v') := (Touch.refl (fun i => i = sb) w5).setCell (x := ⟨sb, 1, none⟩) (fun _ => rfl) _
  have hTT : Touch (fun i => i = sb ∨ rowOf v = some i) w4 (w5.setCell ⟨sb, 1, none⟩ v') := (hT.mono (fun _ _ e => .inr e)).trans (hT2.mono (fun _ _ e => .inl e))
  refine ⟨v', FrO.setBytes (hT.blk h.fr.blk h.fr.no) h.fr.sB ho (by rw [hr]; exact h.fr.no), fun k hk => by rw [← hr]; exact hk, hTT.blk h.msg ?_, hTT.blk h.res ?_, BytesS.still _ _ _ _ _ _ h.body (Kept.touch hTT (fun k _ hs => ⟨hs, ?_⟩)), (h.tch.mono (fun _ _ e => .inl e)).then hTT (fun i _ e => e)⟩
  · rintro (e | e)
    · omega
    · have := h.row _ e; omega
  · rintro (e | e)
    · omega
    · have := h.row _ e; omega
  · rintro (e | e)
    · omega
    · have := h.row _ e; omega

end Go.Proofs.Ytpdkoijgemgaiaa
