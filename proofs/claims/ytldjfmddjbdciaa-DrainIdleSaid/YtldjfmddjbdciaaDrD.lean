/-
  A server without its client (layer 34): the walks of DrainTells and DrainIdle.
-/
import Derived.Test.YtldjfmddjbdciaaDrC
namespace Go.Proofs.Ytldjfmddjbdciaa
open Go.RowKit
set_option linter.unusedVariables false
set_option linter.unusedSimpArgs false

structure SkV where
  on : Bool
  wt : Bool
  dt : Bool
def SkS : Rd SkV := fun _ _ cs x => cs = [.bool x.on, .bool x.wt, .bool x.dt]
theorem opensS_sk : OpensS Try.prog 33 SkS := by
  intro H enc w base spare held fuel cs x h
  have S : StructOf Try.prog 33 _ := ⟨Try.underlying33, by kernel_rfl, by kernel_rfl⟩
  have hl := S.len h
  match cs, hl with
  | [c0, c1, c2], _ =>
    obtain ⟨y0, e0⟩ := S.field h 0 _ rfl c0 rfl (opens_bool Try.underlying4)
    obtain ⟨y1, e1⟩ := S.field h 1 _ rfl c1 rfl (opens_bool Try.underlying4)
    obtain ⟨y2, e2⟩ := S.field h 2 _ rfl c2 rfl (opens_bool Try.underlying4)
    unfold BoolR at e0 e1 e2
    simp only [List.cons.injEq, and_true] at e0 e1 e2
    subst e0 e1 e2
    exact ⟨⟨y0, y1, y2⟩, rfl⟩

structure DrI (w0 w : World) (x : SkV) : Prop where
  b : Blk w w0.heap.size 33 #[.bool x.on, .bool x.wt, .bool x.dt]
  bel : Below w0.heap.size w0 w
theorem DrI.step {w0 w w' : World} {x : SkV} (h : DrI w0 w x) (hb : Below w.heap.size w w') : DrI w0 w' x := ⟨h.b.below hb h.b.lt, h.bel.trans (hb.mono h.bel.size)⟩

set_option maxRecDepth 100000 in
set_option maxHeartbeats 4000000 in
theorem drainTells_walk (st left : Int) (x : SkV) (plan : Int) (w : World) :
    Calls Try.prog 5 #[.int .u8 st, .int .i64 left, .agg #[.bool x.on, .bool x.wt, .bool x.dt], .int .i64 plan] w fun e w' => e = .returned (.bool true) ∧ Below w.heap.size w w' := by
  obtain ⟨on, wt, dt⟩ := x
  dsimp only
  have H0 : Hid (DrI w (w.alloc (.cells #[.bool on, .bool wt, .bool dt] 33)) ⟨on, wt, dt⟩) := Lib.hid ⟨Blk.new _ _ _, (Below.refl _ _).alloc (Nat.le_refl _) _⟩
  have Hp := Lib.hid (fun w0 => plan_any st left on wt dt w0)
  have Hr := Lib.hid (fun w0 => rplan_any st left on wt dt w0)
  have Hd := Lib.hid (fun w0 => dbytes_any plan w0)
  have He := Lib.hid (fun w0 => rdbytes_any plan w0)
  have Haw := Lib.hid (fun w0 => drAwake w0)
  unfold BytR at Hd He
  generalize planV st left on wt dt = pv at *
  generalize bytesD plan = D at *
  go_enter Try.func5, Try.ntmps5
  go_upto_region 1 with (fail)
  generalize w.alloc (.cells #[.bool on, .bool wt, .bool dt] 33) = w1 at *
  have hS0 : ∀ i, w1.cell? ⟨w.heap.size, i, none⟩ = (#[.bool on, .bool wt, .bool dt] : Array Value)[i]? := H0.out.b.cell
  have H1 := Lib.hid (H0.out.step (bel_drawN w1 1))
  go_region_held3 (fun w' => ∀ i, w'.cell? ⟨w.heap.size, i, none⟩ = (#[.bool on, .bool wt, .bool dt] : Array Value)[i]?)
    (first | exact hS0 | exact H2.out.b.cell | exact H3.out.b.cell | exact H4.out.b.cell | exact H5.out.b.cell | exact H6.out.b.cell | go_keep)
    (first
      | (go_at_call 18; refine (Hp.out _).mono ?_; rintro e w2 ⟨rfl, hb⟩; have H2 := Lib.hid (H1.out.step hb); clear hb)
      | (go_at_call 19; refine (Hr.out _).mono ?_; rintro e w3 ⟨rfl, hb⟩; have H3 := Lib.hid (H2.out.step hb); clear hb)
      | (go_at_call 21; refine (Hd.out _).mono ?_; rintro e w4 ⟨v4, rfl, ho, hb⟩; have H4 := Lib.hid (H3.out.step hb); obtain ⟨p4, c4, hv4, -, -, q4, -⟩ := OwnBR.slice ho; subst hv4; have Hq4 := Lib.hid q4; clear hb ho q4)
      | (go_at_call 22; refine (He.out _).mono ?_; rintro e w5 ⟨v5, rfl, ho, hb⟩; have H5 := Lib.hid (H4.out.step hb); have Hq4' := Lib.hid (Hq4.out.below hb); obtain ⟨p5, c5, hv5, -, -, q5, -⟩ := OwnBR.slice ho; subst hv5; have Hq5 := Lib.hid q5; clear hb ho q5)
      | (go_at_call 20; refine (equal_any p4 p5 D D c4 c5 _ Hq4'.out Hq5.out).mono ?_; rintro e w9 ⟨rfl, rfl⟩; rw [beq_self_eq_true])
      | (go_at_call 23; refine (Haw.out _).mono ?_; rintro e w6 ⟨rfl, hb⟩; have H6 := Lib.hid (H5.out.step hb); clear hb))
  go_wp2
  go_ret
  exact ⟨rfl, H6.out.bel⟩

set_option maxRecDepth 100000 in
set_option maxHeartbeats 4000000 in
theorem drainIdle_walk (st left : Int) (x : SkV) (w : World) :
    Calls Try.prog 6 #[.int .u8 st, .int .i64 left, .agg #[.bool x.on, .bool x.wt, .bool x.dt]] w fun e w' => e = .returned (.bool true) ∧ Below w.heap.size w w' := by
  obtain ⟨on, wt, dt⟩ := x
  dsimp only
  have H0 : Hid (DrI w (w.alloc (.cells #[.bool on, .bool wt, .bool dt] 33)) ⟨on, wt, dt⟩) := Lib.hid ⟨Blk.new _ _ _, (Below.refl _ _).alloc (Nat.le_refl _) _⟩
  have Hp := Lib.hid (fun w0 => plan_any st left on wt dt w0)
  have Haw := Lib.hid (fun w0 => drAwake w0)
  have Hv : Hid (planV st left on wt dt = if wt = true then 1 else if (on || dt) = true then 2 else if 0 < left then 1 else if st = 73 then 0 else 3) := Lib.hid rfl
  generalize planV st left on wt dt = pv at *
  obtain ⟨iv, hiv⟩ : ∃ iv : Bool, iv = ((st == 73) && (decide (left ≤ 0) && ((!on) && ((!wt) && (!dt))))) := ⟨_, rfl⟩
  have Hiv := Lib.hid hiv
  have Hpi : Hid ((pv == 0) = iv) := Lib.hid (by
    rw [hiv, Hv.out]
    cases wt <;> cases on <;> cases dt <;> simp
    by_cases h1 : 0 < left
    · have h2 : ¬ left ≤ 0 := by omega
      simp [h1, h2]
    · have h2 : left ≤ 0 := by omega
      simp only [h1, h2, if_false, decide_true, Bool.and_true]
      by_cases h3 : st = 73
      · simp [h3]
      · simp [h3])
  clear hiv
  go_enter Try.func6, Try.ntmps6
  go_upto_region 1 with (fail)
  generalize w.alloc (.cells #[.bool on, .bool wt, .bool dt] 33) = w1 at *
  have hS0 : ∀ i, w1.cell? ⟨w.heap.size, i, none⟩ = (#[.bool on, .bool wt, .bool dt] : Array Value)[i]? := H0.out.b.cell
  go_wp2_with fail
  refine (Hp.out _).mono ?_
  rintro e w2 ⟨rfl, hb⟩
  have H2 := Lib.hid (H0.out.step hb)
  have hS2 : ∀ i, w2.cell? ⟨w.heap.size, i, none⟩ = (#[.bool on, .bool wt, .bool dt] : Array Value)[i]? := H2.out.b.cell
  have hpi := Hpi.out
  clear hb hS0 Hv
  by_cases h1 : st = 73
  · subst h1
    by_cases h2 : left ≤ 0
    · cases on <;> cases wt <;> cases dt
      all_goals
        rw [decide_eq_true h2] at Hiv
        simp only [Bool.not_true, Bool.not_false, Bool.and_true, Bool.and_false, beq_self_eq_true] at Hiv
        rw [Hiv.out] at hpi
        clear Hiv Hpi
        go_wp2_with (go_at_call 23; refine (Haw.out _).mono ?_; rintro e w3 ⟨rfl, hb⟩; have H3 := Lib.hid (H2.out.step hb); clear hb)
        go_ret
        exact ⟨rfl, H3.out.bel⟩
    · rw [decide_eq_false h2] at Hiv
      simp only [Bool.false_and, Bool.and_false] at Hiv
      rw [Hiv.out] at hpi
      clear Hiv Hpi
      go_wp2_with (go_at_call 23; refine (Haw.out _).mono ?_; rintro e w3 ⟨rfl, hb⟩; have H3 := Lib.hid (H2.out.step hb); clear hb)
      go_ret
      exact ⟨rfl, H3.out.bel⟩
  · have h1b : (st == 73) = false := by simpa using h1
    rw [h1b] at Hiv
    simp only [Bool.false_and] at Hiv
    rw [Hiv.out] at hpi
    clear Hiv Hpi h1
    go_wp2_with (go_at_call 23; refine (Haw.out _).mono ?_; rintro e w3 ⟨rfl, hb⟩; have H3 := Lib.hid (H2.out.step hb); clear hb)
    go_ret
    exact ⟨rfl, H3.out.bel⟩

theorem drainTells_read (st left : Int) (s : Array Value) (x : SkV) (plan : Int) (w : World) (h : SkS (fun k => k < w.heap.size) w s.toList x) :
    Calls Try.prog 5 #[.int .u8 st, .int .i64 left, .agg s, .int .i64 plan] w fun e w' => e = .returned (.bool true) ∧ Below w.heap.size w w' := by
  unfold SkS at h
  have e : s = #[.bool x.on, .bool x.wt, .bool x.dt] := Array.toList_inj.1 h
  subst e
  exact drainTells_walk st left x plan w
theorem drainIdle_read (st left : Int) (s : Array Value) (x : SkV) (w : World) (h : SkS (fun k => k < w.heap.size) w s.toList x) :
    Calls Try.prog 6 #[.int .u8 st, .int .i64 left, .agg s] w fun e w' => e = .returned (.bool true) ∧ Below w.heap.size w w' := by
  unfold SkS at h
  have e : s = #[.bool x.on, .bool x.wt, .bool x.dt] := Array.toList_inj.1 h
  subst e
  exact drainIdle_walk st left x w

end Go.Proofs.Ytldjfmddjbdciaa
