/-
  When two lists are the same; ops and cache ops compared (layer 21).
-/
import Derived.Test.YtjfhpafaopeogaaEnA
import Derived.Laws.StructEq
namespace Go.Proofs.Ytjfhpafaopeogaa
open Go.RowKit
set_option linter.unusedVariables false
set_option linter.unusedSimpArgs false

/-- Two lists are the same. -/
def listEq {α : Type} (f : α → α → Bool) : List α → List α → Bool
  | [], [] => true
  | a :: l, b :: m => f a b && listEq f l m
  | [], _ :: _ => false
  | _ :: _, [] => false

section
variable {α : Type} {f : α → α → Bool}
theorem listEq_len : ∀ {l m : List α}, l.length ≠ m.length → listEq f l m = false
  | [], [], h => absurd rfl h
  | a :: l, b :: m, h => by
    have : l.length ≠ m.length := by simpa using h
    simp [listEq, listEq_len this]
  | [], _ :: _, _ => rfl
  | _ :: _, [], _ => rfl
theorem listEq_self (hf : ∀ a, f a a = true) : ∀ l : List α, listEq f l l = true
  | [] => rfl
  | a :: l => by simp [listEq, hf a, listEq_self hf l]
theorem listEq_end {l m : List α} (h : l.length = m.length) : listEq f (l.drop l.length) (m.drop l.length) = true := by
  rw [List.drop_length, h, List.drop_length]
  rfl
theorem listEq_step {l m : List α} {k : Nat} (hl : k < l.length) (hm : k < m.length) : listEq f (l.drop k) (m.drop k) = (f l[k] m[k] && listEq f (l.drop (k + 1)) (m.drop (k + 1))) := by
  rw [List.drop_eq_getElem_cons hl, List.drop_eq_getElem_cons hm]
  rfl
end

/-- A number, whatever its size. -/
def IntU : Rd Int := fun _ _ cs n => cs = [.int .i64 n]
theorem IntU.still : Still IntU := fun _ _ _ _ _ _ h _ => h
theorem IntU.flat : ∀ (S S' : Nat → Prop) (w w' : World) (cs : List Value) (x : Int), IntU S w cs x → IntU S' w' cs x := fun _ _ _ _ _ _ h => h
theorem IntU.one (S : Nat → Prop) (w : World) (cs : List Value) (x : Int) (h : IntU S w cs x) : ∀ u ∈ cs, u.oneCell' = true := by
  unfold IntU at h
  subst h
  intro u hu
  simp only [List.mem_cons, List.not_mem_nil, or_false] at hu
  subst hu
  rfl

def opEq (a b : OpV) : Bool := (a.set == b.set) && ((a.name.toList == b.name.toList) && (a.id == b.id))
def caEq (a b : CaV) : Bool := (a.kind == b.kind) && (a.id == b.id)
def intEq (a b : Int) : Bool := a == b
theorem opEq_self (a : OpV) : opEq a a = true := by simp [opEq]
theorem caEq_self (a : CaV) : caEq a a = true := by simp [caEq]
theorem intEq_self (a : Int) : intEq a a = true := by simp [intEq]

theorem neq_op (x y : OpV) (w : World) : (binOp .neq 55 (.agg #[.bool x.set, .string x.name, .int .i64 x.id]) (.agg #[.bool y.set, .string y.name, .int .i64 y.id])).run Try.prog w = .ok (.bool (!opEq x y)) w := by
  have hS : Try.prog.underlying 55 = some (.struct (Try.prog.fieldsOf 55)) := by kernel_rfl
  have hp : Try.prog.stoodInHeld 55 = false := by kernel_rfl
  have u1 := Try.underlying4
  have u2 := Try.underlying9
  have u3 := Try.underlying3
  have a1 := Try.isAgg4
  have a2 := Try.isAgg9
  have a3 := Try.isAgg3
  have z1 := Try.sizeOf4
  have z2 := Try.sizeOf9
  have z3 := Try.sizeOf3
  rw [run_neq_struct, show (10000 : Nat) = 9999 + 1 from rfl, run_equalIn_agg w 9999 55 _ _ hS hp]
  simp only [Program.fieldsOf, Try.underlying55]
  unfold opEq
  obtain ⟨x1, x2, x3⟩ := x
  obtain ⟨y1, y2, y3⟩ := y
  go_simp
  by_cases h1 : x1 = y1 <;> by_cases h2 : x2.toList = y2.toList <;> by_cases h3 : x3 = y3 <;> simp [h1, h2, h3]
theorem neq_ca (x y : CaV) (w : World) : (binOp .neq 132 (.agg #[.int .i64 x.kind, .int .i64 x.id]) (.agg #[.int .i64 y.kind, .int .i64 y.id])).run Try.prog w = .ok (.bool (!caEq x y)) w := by
  have hS : Try.prog.underlying 132 = some (.struct (Try.prog.fieldsOf 132)) := by kernel_rfl
  have hp : Try.prog.stoodInHeld 132 = false := by kernel_rfl
  have u3 := Try.underlying3
  have a3 := Try.isAgg3
  have z3 := Try.sizeOf3
  rw [run_neq_struct, show (10000 : Nat) = 9999 + 1 from rfl, run_equalIn_agg w 9999 132 _ _ hS hp]
  simp only [Program.fieldsOf, Try.underlying132]
  unfold caEq
  obtain ⟨x1, x2⟩ := x
  obtain ⟨y1, y2⟩ := y
  go_simp
  by_cases h1 : x1 = y1 <;> by_cases h2 : x2 = y2 <;> simp [h1, h2]

end Go.Proofs.Ytjfhpafaopeogaa
