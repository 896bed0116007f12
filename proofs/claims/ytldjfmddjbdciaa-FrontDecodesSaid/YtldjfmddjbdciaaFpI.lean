/-
  Messages of clients (layer 6): the statements' arguments.
-/
import Derived.Test.YtldjfmddjbdciaaFpH
namespace Go.Proofs.Ytldjfmddjbdciaa
open Go.RowKit
set_option linter.unusedVariables false
set_option linter.unusedSimpArgs false

/-- A type with its bytes, as it is handed over. -/
def MgS : Rd (Int × List UInt8) := fun S w cs x => (0 ≤ x.1 ∧ x.1 < 256) ∧ ∃ p c, cs = [.int .u8 x.1, .slice p x.2.length c] ∧ BytesS S w [.slice p x.2.length c] x.2
theorem opensS_mg : OpensS Try.prog 47 MgS := by
  intro H enc w base spare held fuel cs x h
  have S : StructOf Try.prog 47 _ := ⟨Try.underlying47, by kernel_rfl, by kernel_rfl⟩
  have hl := S.len h
  match cs, hl with
  | [c0, c1], _ =>
    obtain ⟨y0, e0, hw⟩ := S.field h 0 _ rfl c0 rfl (opens_int Try.underlying5)
    obtain ⟨y1, hy1⟩ := S.field h 1 _ rfl c1 rfl (opensS_bytes Try.underlying38 Try.underlying5 (by kernel_rfl))
    obtain ⟨p, c, rfl⟩ := BytesS.shape hy1
    simp only [List.cons.injEq, and_true] at e0
    subst e0
    exact ⟨(y0, y1), byte_of_wf hw, p, c, rfl, hy1⟩

theorem frontEncodes_read (s t : Array Value) (x y : FoV) (w : World) (h : FoS (fun k => k < w.heap.size) w s.toList x) (k : FoS (fun k => k < w.heap.size) w t.toList y) :
    Calls Try.prog 7 #[.agg s, .agg t] w fun e w' => e = .returned (.bool true) ∧ Below w.heap.size w w' := by
  obtain ⟨hb, a, hs, hl⟩ := h
  obtain ⟨kb, b, ks, kl⟩ := k
  obtain rfl : s = foCells x a := Array.toList_inj.1 hs
  obtain rfl : t = foCells y b := Array.toList_inj.1 ks
  exact frontEncodes_walk x y a b w hl kl hb kb
theorem frontDecodes_read (s : Array Value) (x : Int × List UInt8) (w : World) (h : MgS (fun k => k < w.heap.size) w s.toList x) :
    Calls Try.prog 8 #[.agg s] w fun e w' => e = .returned (.bool true) ∧ Below w.heap.size w w' := by
  obtain ⟨hb, p, c, hs, hl⟩ := h
  obtain rfl : s = #[.int .u8 x.1, .slice p x.2.length c] := Array.toList_inj.1 hs
  exact frontDecodes_walk x.1 hb.1 hb.2 p x.2 c w hl.parts.2.2.2
theorem frontBack_read (s t : Array Value) (x : FoV) (y : Int × List UInt8) (w : World) (h : FoS (fun k => k < w.heap.size) w s.toList x) (k : MgS (fun k => k < w.heap.size) w t.toList y) :
    Calls Try.prog 9 #[.agg s, .agg t] w fun e w' => e = .returned (.bool true) ∧ Below w.heap.size w w' := by
  obtain ⟨hb, a, hs, hl⟩ := h
  obtain ⟨kb, p, c, ks, kl⟩ := k
  obtain rfl : s = foCells x a := Array.toList_inj.1 hs
  obtain rfl : t = #[.int .u8 y.1, .slice p y.2.length c] := Array.toList_inj.1 ks
  exact frontBack_walk x a y.1 kb.1 kb.2 p y.2 c w hl hb kl.parts.2.2.2

end Go.Proofs.Ytldjfmddjbdciaa
