/-
  Ground (layer 38): sync.Once: the slow road; Do of a Once that is done, of one that is not.
-/
import Derived.Test.YthhebfknikfleaaGreatLzA
namespace Go.Proofs.YthhebfknikfleaaGreat
open Go.RowKit
set_option linter.unusedVariables false
set_option linter.unusedSimpArgs false

set_option maxRecDepth 100000 in
set_option maxHeartbeats 1600000 in
theorem lzSlow (g : Nat) (R : World → Prop) (w : World) (c1 : w.cell? ⟨g, 1, none⟩ = some (.int .u32 0)) (c2 : w.cell? ⟨g, 2, none⟩ = some (.int .i32 0)) (f2 : w.frozen? ⟨g, 2, none⟩ = false)
    (HM : Calls Tryz.prog 30 #[.pointer (some ⟨g, 0, none⟩)] (w.setCell ⟨g, 2, none⟩ (.int .i32 1)) fun e w' => e = .returned (.tuple #[]) ∧ R w' ∧ w'.cell? ⟨g, 1, none⟩ = some (.int .u32 0) ∧ w'.cell? ⟨g, 2, none⟩ = some (.int .i32 1) ∧ w'.frozen? ⟨g, 1, none⟩ = false ∧ w'.frozen? ⟨g, 2, none⟩ = false) :
    Calls Tryz.prog 89 #[.pointer (some ⟨g, 1, none⟩), .func (.func 30) #[.pointer (some ⟨g, 0, none⟩)] #[]] w fun e w' => e = .returned (.tuple #[]) ∧
      ∃ w2, R w2 ∧ w' = ((w2.drew.setCell ⟨g, 1, none⟩ (.int .u32 1)).setCell ⟨g, 2, none⟩ (.int .i32 0)) := by
  have Hm := Lib.hid HM
  have HL := Lib.hid (lzLock ⟨g, 2, none⟩ w c2 f2)
  have HD := Lib.hid (lzDone ⟨g, 1, none⟩ 0 (w.setCell ⟨g, 2, none⟩ (.int .i32 1)) ((World.cell?_setCell_other _ ⟨g, 2, none⟩ ⟨g, 1, none⟩ _ (by simp)).trans c1))
  have hnot : ∀ (x : Bool) (w : World), (Op.unary .not (.bool x)).run Tryz.prog w = .ok (.bool (!x)) w := fun _ _ => rfl
  clear HM
  go_enter_defers Tryz.func89, Tryz.ntmps89
  go_wp2_with (first
    | (go_at_call 127; refine HL.out.mono ?_; rintro e w' ⟨rfl, rfl⟩)
    | (go_at_call 88; refine HD.out.mono ?_; rintro e w' ⟨rfl, rfl⟩)
    | (go_at_call 30; refine Hm.out.mono ?_; rintro e w2 ⟨rfl, hR, k1, k2, z1, z2⟩))
  refine leaves_cons (f := 129) (args := #[.pointer (some ⟨g, 1, none⟩), .bool true]) (by simp) (by simp [go_sem]) ?_
  refine (lzStore ⟨g, 1, none⟩ (.int .u32 0) .returning _ k1 z1).mono ?_
  rintro e u' w'' ⟨rfl, rfl, rfl⟩
  refine leaves_cons (f := 128) (args := #[.pointer (some ⟨g, 2, none⟩)]) (by simp [settle]) (by simp [go_sem]) ?_
  refine (lzUnlock ⟨g, 2, none⟩ _ _ ?_ (by simp [z2])).mono ?_
  · refine (World.cell?_setCell_other _ ⟨g, 1, none⟩ ⟨g, 2, none⟩ _ (by simp)).trans ?_
    rw [World.cell?_drew]
    exact k2
  rintro e u' w'' ⟨rfl, rfl, rfl⟩
  simp [Leaves, settle, results, Tryz.results89]
  exact ⟨w2, hR, rfl⟩

set_option maxRecDepth 100000 in
theorem lzDo_done (g : Nat) (f : Value) (w : World) (c1 : w.cell? ⟨g, 1, none⟩ = some (.int .u32 1)) :
    Calls Tryz.prog 29 #[.pointer (some ⟨g, 1, none⟩), f] w fun e w' => e = .returned (.tuple #[]) ∧ w' = w := by
  have HD := Lib.hid (lzDone ⟨g, 1, none⟩ 1 w c1)
  go_enter Tryz.func29, Tryz.ntmps29
  go_wp2_with (first | (go_at_call 88; refine HD.out.mono ?_; rintro e w' ⟨rfl, rfl⟩))
  go_end0
  exact ⟨rfl, rfl⟩

set_option maxRecDepth 100000 in
theorem lzDo_first (g : Nat) (R : World → Prop) (w : World) (c1 : w.cell? ⟨g, 1, none⟩ = some (.int .u32 0)) (c2 : w.cell? ⟨g, 2, none⟩ = some (.int .i32 0)) (f2 : w.frozen? ⟨g, 2, none⟩ = false)
    (HM : Calls Tryz.prog 30 #[.pointer (some ⟨g, 0, none⟩)] (w.setCell ⟨g, 2, none⟩ (.int .i32 1)) fun e w' => e = .returned (.tuple #[]) ∧ R w' ∧ w'.cell? ⟨g, 1, none⟩ = some (.int .u32 0) ∧ w'.cell? ⟨g, 2, none⟩ = some (.int .i32 1) ∧ w'.frozen? ⟨g, 1, none⟩ = false ∧ w'.frozen? ⟨g, 2, none⟩ = false) :
    Calls Tryz.prog 29 #[.pointer (some ⟨g, 1, none⟩), .func (.func 30) #[.pointer (some ⟨g, 0, none⟩)] #[]] w fun e w' => e = .returned (.tuple #[]) ∧
      ∃ w2, R w2 ∧ w' = ((w2.drew.setCell ⟨g, 1, none⟩ (.int .u32 1)).setCell ⟨g, 2, none⟩ (.int .i32 0)) := by
  have HD := Lib.hid (lzDone ⟨g, 1, none⟩ 0 w c1)
  have HS := Lib.hid (lzSlow g R w c1 c2 f2 HM)
  clear HM
  go_enter Tryz.func29, Tryz.ntmps29
  go_wp2_with (first
    | (go_at_call 88; refine HD.out.mono ?_; rintro e w' ⟨rfl, rfl⟩)
    | (go_at_call 89; refine HS.out.mono ?_; rintro e w3 ⟨rfl, hw⟩))
  go_end0
  exact ⟨rfl, hw⟩

end Go.Proofs.YthhebfknikfleaaGreat
