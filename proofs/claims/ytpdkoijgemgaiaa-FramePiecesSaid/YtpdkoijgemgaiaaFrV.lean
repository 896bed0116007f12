/-
  The last line of FramePieces, in plain words (layer 4).
-/
import Derived.Test.YtpdkoijgemgaiaaFrQ
namespace Go.Proofs.Ytpdkoijgemgaiaa
open Go.RowKit

structure FpEnd (w7 : World) (g1 g2 : Nat) (p0 p7 po : Option Addr) (nl c0 n7 c7 n1 co r : Nat) : Prop where
  eq : Calls Try.prog 58 #[.slice p7 n7 c7, .slice po n1 co] w7 fun e w' => e = .returned (.bool true) ∧ w7 = w'
  pre : Calls Try.prog 69 #[.slice p0 nl c0, .slice p7 n7 c7] w7 fun e w' => e = .returned (.bool true) ∧ w7 = w'
  s1 : Calls Try.prog 45 #[.pointer (some ⟨g1, 0, none⟩)] w7 fun e w' => e = .returned (.int .i64 (r : Nat)) ∧ w7 = w'
  s2 : Calls Try.prog 45 #[.pointer (some ⟨g2, 0, none⟩)] w7 fun e w' => e = .returned (.int .i64 (r : Nat)) ∧ w7 = w'

theorem fp_end {w4 w7 : World} {l gt out1 : List UInt8} {B B4 g1 g2 n7 c7 co c0 : Nat} {v5 v1b : Value} {p7 po : Option Addr}
    (hL : FpL w4 w7 l g2 v5 (.slice p7 n7 c7) l.length gt) (hn : n7 = gt.length)
    (hF : FrO B w4 g1 true (takeF 600 l 0).1 2000 4000 (takeF 600 l 0).2 v1b) (hg : g1 ≠ g2) (hr : ∀ k, rowOf v1b = some k → k ≠ g2)
    (ho : OwnBR B4 w4 (.slice po out1.length co) out1) (hB4 : g2 < B4) (hall : out1 ++ (takeF 600 l 0).1 = l)
    (p0 : Option Addr) (hin : BytesIn w7 p0 l) (hc : l.length ≤ c0) :
    FpEnd w7 g1 g2 p0 p7 po l.length c0 n7 c7 out1.length co (takeF 600 l 0).1.length := by
  subst hn
  have hgl := hL.gl
  rw [List.take_length] at hgl
  have hgt : gt = out1 := List.append_cancel_right (hgl.trans hall.symm)
  obtain ⟨p, c, e1, _, _, hI, _⟩ := hL.own.slice
  cases e1
  obtain ⟨p', c', e2, _, _, hI1, hI2⟩ := ho.slice
  cases e2
  have hI1' : BytesIn w7 po out1 := hL.old.bytesIn hI1 (fun h0 a ha => by
    have := (hI2 h0 a ha).2
    omega)
  have hF7 := hF.touch hL.old hg hr
  have hF2 := hL.fr2
  rw [List.take_length] at hF2
  refine ⟨?_, ?_, ?_, ?_⟩
  · have := equal_any p7 po gt out1 c7 co w7 hI hI1'
    rw [hgt, beq_self_eq_true] at this
    rw [hgt]
    exact this
  · cases p0 with
    | none => exact hasPrefix_none p7 gt (takeF 600 l 0).1 l.length c0 c7 w7 (by rw [hgl]) hc (by rw [hgl]; exact hin) hI
    | some a => exact hasPrefix_at a.block a.off a.spot p7 gt (takeF 600 l 0).1 l.length c0 c7 w7 (by rw [hgl]) hc (by rw [hgl]; exact hin) hI
  · exact frSize_any B g1 true _ 2000 4000 _ v1b w7 hF7 (by omega)
  · exact frSize_any g2 g2 true _ 2000 4000 _ v5 w7 hF2 (by omega)

end Go.Proofs.Ytpdkoijgemgaiaa
