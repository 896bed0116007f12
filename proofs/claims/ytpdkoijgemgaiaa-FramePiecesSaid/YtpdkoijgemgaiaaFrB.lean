/-
  The contracts of package frame (layer 4): head, size, check, whole.
-/
import Derived.Test.YtpdkoijgemgaiaaFrA
namespace Go.Proofs.Ytpdkoijgemgaiaa
open Go.RowKit

def headN (t : Bool) : Nat := if t then 1 else 0

theorem frHead_any (t : Bool) (w : World) : Calls Try.prog 92 #[.agg #[.bool t]] w fun e w' => e = .returned (.int .i64 (headN t : Nat)) ∧ Below w.heap.size w w' := by
  cases t
  all_goals
    go_enter Try.func92, Try.ntmps92
    go_wp2
    go_ret
    exact ⟨rfl, (Below.refl _ _).alloc (Nat.le_refl _) _⟩

/-- The number that stands as the first message's length. -/
def frN (t : Bool) (L : List UInt8) : Int := be ((L.drop (headN t)).take 4)

theorem frN_bd (t : Bool) (L : List UInt8) : 0 ≤ frN t L ∧ frN t L < 4294967296 := by
  have h := be_bd ((L.drop (headN t)).take 4)
  have hl : ((L.drop (headN t)).take 4).length ≤ 4 := by rw [List.length_take]; omega
  unfold frN
  refine ⟨h.1, ?_⟩
  have hp : (256 : Int) ^ ((L.drop (headN t)).take 4).length ≤ 4294967296 := pow_le4 _ 4 hl (by omega)
  omega

theorem frTold {t : Bool} {L : List UInt8} (h : headN t + 4 ≤ L.length) : getV L (headN t : Nat) 4 = (frN t L, 0) := by
  rw [getV_yes rfl (by omega) (by omega)]
  rfl
theorem frUntold {t : Bool} {L : List UInt8} (h : L.length < headN t + 4) : getV L (headN t : Nat) 4 = (0, 3) := getV_short rfl (by omega) (by omega)

set_option maxRecDepth 100000 in
set_option maxHeartbeats 1000000 in
theorem frSizeOf (B sb : Nat) (t : Bool) (L : List UInt8) (most room : Nat) (wrong : Int) (v : Value) (n r : Int) (w : World) (h : FrO B w sb t L most room wrong v) (hg : getV L (headN t : Nat) 4 = (n, r)) :
    Calls Try.prog 107 #[.pointer (some ⟨sb, 0, none⟩)] w fun e w' => e = .returned (.tuple #[.int .i64 n, .bool (r == 0)]) ∧ Below w.heap.size w w' := by
  obtain ⟨p, c, rfl, hlc, hcm, hin, _⟩ := h.own.slice
  have hc := h.blk.cell
  have hsl := h.blk.lt
  have Hc := Lib.hid (fun (w' : World) (hb : Below w.heap.size w w') (i : Nat) => (hb.cell (p := ⟨sb, i, none⟩) hsl).trans (hc i))
  have Hin := Lib.hid hin
  have Hg := Lib.hid hg
  have Hcm := Lib.hid hcm
  unfold maxLen at hcm
  clear h hg hin
  go_enter Try.func107, Try.ntmps107
  go_wp2_with fail
  go_region_held3 (fun w' => ∀ i, w'.cell? ⟨sb, i, none⟩ = (#[.bool t, .slice p L.length c, .int .i64 (most : Int), .int .i64 (room : Int), .int .i64 wrong] : Array Value)[i]?)
    (first | exact hc | exact hc2 | go_keep)
    (first
      | (go_at_call 92; refine (frHead_any t _).mono ?_; rintro e w2 ⟨rfl, hb2⟩; have hb12 := below_ofDr hb2; have Hb2 := Lib.hid hb12; have hc2 := Hc.out w2 hb12; have Hin2 := Lib.hid (Hin.out.below hb12); clear hb2 hb12)
      | (go_at_call 79; refine (get_any p L c (headN t : Nat) 4 _ hlc Hcm.out Hin2.out).mono ?_; rintro e w3 ⟨rfl, rfl⟩; rw [Hg.out]))
  go_wp2
  go_ret2
  exact ⟨rfl, Hb2.out⟩

def frErr (most : Nat) (n : Int) : Int := if n < 4 then 4 else if (most : Int) < n then 5 else 0

theorem frCheck_any (sb : Nat) (a b c d : Value) (most : Nat) (n : Int) (w : World) (h : ∀ i, w.cell? ⟨sb, i, none⟩ = (#[a, b, .int .i64 (most : Int), c, d] : Array Value)[i]?) :
    Calls Try.prog 108 #[.pointer (some ⟨sb, 0, none⟩), .int .i64 n] w fun e w' => e = .returned (.int .i64 (frErr most n)) ∧ w = w' := by
  have hc : n < 4 ∨ (4 ≤ n ∧ (most : Int) < n) ∨ (4 ≤ n ∧ n ≤ (most : Int)) := by omega
  rcases hc with h1 | ⟨h1, h2⟩ | ⟨h1, h2⟩
  · have He : Hid (frErr most n = 4) := Lib.hid (by unfold frErr; rw [if_pos h1])
    go_enter Try.func108, Try.ntmps108
    go_wp2
    go_ret
    exact ⟨ret_int He.out.symm, rfl⟩
  · have He : Hid (frErr most n = 5) := Lib.hid (by unfold frErr; rw [if_neg (by omega), if_pos h2])
    go_enter Try.func108, Try.ntmps108
    go_wp2
    go_ret
    exact ⟨ret_int He.out.symm, rfl⟩
  · have He : Hid (frErr most n = 0) := Lib.hid (by unfold frErr; rw [if_neg (by omega), if_neg (by omega)])
    go_enter Try.func108, Try.ntmps108
    go_wp2
    go_ret
    exact ⟨ret_int He.out.symm, rfl⟩

/-- How many bytes the first message has in all, or why not: the number, whether it is there, what is wrong. -/
def frWhole (t : Bool) (L : List UInt8) (most : Nat) (wrong : Int) : Int × Bool × Int :=
  if wrong ≠ 0 then (0, false, wrong)
  else if L.length < headN t + 4 then (0, false, 0)
  else if frErr most (frN t L) ≠ 0 then (0, false, frErr most (frN t L))
  else ((headN t : Int) + frN t L, decide ((headN t : Int) + frN t L ≤ (L.length : Int)), 0)

set_option maxRecDepth 100000 in
set_option maxHeartbeats 2000000 in
theorem frWhole_any (B sb : Nat) (t : Bool) (L : List UInt8) (most room : Nat) (wrong : Int) (v : Value) (w : World) (h : FrO B w sb t L most room wrong v) :
    Calls Try.prog 93 #[.pointer (some ⟨sb, 0, none⟩)] w fun e w' => ∃ n b r, frWhole t L most wrong = (n, b, r) ∧ e = .returned (.tuple #[.int .i64 n, .bool b, .int .i64 r]) ∧ FrO B w' sb t L most room r v ∧ Touch (fun i => i = sb) w w' := by
  obtain ⟨p, c, rfl, _⟩ := h.own.slice
  have hc := h.blk.cell
  have H := Lib.hid h
  clear h
  by_cases hw : wrong = 0
  · subst hw
    by_cases htold : headN t + 4 ≤ L.length
    · have hn := frN_bd t L
      have hg := frTold htold
      have hwh : frWhole t L most 0 = if frErr most (frN t L) ≠ 0 then (0, false, frErr most (frN t L)) else ((headN t : Int) + frN t L, decide ((headN t : Int) + frN t L ≤ (L.length : Int)), 0) := by
        unfold frWhole
        rw [if_neg (by simp), if_neg (by omega)]
      have hh : headN t ≤ 1 := by cases t <;> simp [headN]
      generalize frN t L = n at *
      have Hg := Lib.hid hg
      have Hwh := Lib.hid hwh
      clear hg hwh
      go_enter Try.func93, Try.ntmps93
      go_wp2_with fail
      refine (frSizeOf B sb t L most room 0 _ n 0 w H.out Hg.out).mono ?_
      rintro e w1 ⟨rfl, hb1⟩
      have H1 := Lib.hid (H.out.still hb1)
      have hc1 := H1.out.blk.cell
      have hf4 := H1.out.blk.frozen 4
      have HT1 := Lib.hid (Touch.of_below (p := fun i => i = sb) hb1)
      clear hb1 hc
      go_wp2_with fail
      refine (frCheck_any sb _ _ _ _ most n _ hc1).mono ?_
      rintro e w1' ⟨rfl, rfl⟩
      by_cases he : frErr most n = 0
      · rw [he]
        have Hres : Hid (frWhole t L most 0 = ((headN t : Int) + n, decide ((headN t : Int) + n ≤ (L.length : Int)), 0)) := Lib.hid (by rw [Hwh.out, if_neg (by simp [he])])
        have H2 := Lib.hid (H1.out.setWrong 0)
        have HT2 := Lib.hid (HT1.out.setCell (x := ⟨sb, 4, none⟩) (fun _ => rfl) (.int .i64 0))
        clear he
        go_wp2_with fail
        refine (frHead_any t _).mono ?_
        rintro e w3 ⟨rfl, hb3⟩
        have H3 := Lib.hid (H2.out.still hb3)
        have hc3 := H3.out.blk.cell
        have HT3 := Lib.hid (HT2.out.then (Touch.of_below (p := fun i => i = sb) hb3) (fun _ _ e => e))
        have hsm : IntKind.i64.wrap ((headN t : Int) + n) = (headN t : Int) + n := by rw [IntKind.wrap_i64]; omega
        clear hb3 hc1 hf4
        go_wp2_with fail
        go_quiet (fail)
        go_wp2
        go_ret3
        exact ⟨_, _, _, Hres.out, rfl, H3.out.touch ((Touch.refl (fun _ => False) w3).drewN nq) (fun e => e) (fun _ _ e => e), HT3.out.drewN nq⟩
      · have Hres : Hid (frWhole t L most 0 = (0, false, frErr most n)) := Lib.hid (by rw [Hwh.out, if_pos he])
        generalize frErr most n = er at *
        have H2 := Lib.hid (H1.out.setWrong er)
        have HT2 := Lib.hid (HT1.out.setCell (x := ⟨sb, 4, none⟩) (fun _ => rfl) (.int .i64 er))
        go_wp2_with fail
        go_quiet (fail)
        go_wp2
        go_ret3
        exact ⟨_, _, _, Hres.out, rfl, H2.out.touch ((Touch.refl (fun _ => False) _).drewN nq) (fun e => e) (fun _ _ e => e), HT2.out.drewN nq⟩
    · have hg := frUntold (t := t) (L := L) (by omega)
      have Hg := Lib.hid hg
      have Hres : Hid (frWhole t L most 0 = (0, false, 0)) := Lib.hid (by unfold frWhole; rw [if_neg (by simp), if_pos (by omega)])
      clear hg
      go_enter Try.func93, Try.ntmps93
      go_wp2_with fail
      refine (frSizeOf B sb t L most room 0 _ 0 3 w H.out Hg.out).mono ?_
      rintro e w1 ⟨rfl, hb1⟩
      have H1 := Lib.hid (H.out.still hb1)
      have HT1 := Lib.hid (Touch.of_below (p := fun i => i = sb) hb1)
      clear hb1
      go_wp2
      go_ret3
      exact ⟨_, _, _, Hres.out, rfl, H1.out, HT1.out⟩
  · have Hres : Hid (frWhole t L most wrong = (0, false, wrong)) := Lib.hid (by unfold frWhole; rw [if_pos hw])
    go_enter Try.func93, Try.ntmps93
    go_wp2_with fail
    go_quiet (fail)
    go_wp2
    go_ret3
    exact ⟨_, _, _, Hres.out, rfl, H.out.touch ((Touch.refl (fun _ => False) _).drewN nq) (fun e => e) (fun _ _ e => e), (Touch.refl _ _).drewN nq⟩

end Go.Proofs.Ytpdkoijgemgaiaa
