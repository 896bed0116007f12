/-
  The contracts of package frame (layer 4): a framer in memory; New, Feed, Size, Begin, whole.
-/
import Derived.Test.YtpdkoijgemgaiaaDelete
import Derived.Test.YtpdkoijgemgaiaaBytesClone2
import Derived.Test.YtpdkoijgemgaiaaNumE
import Derived.Deep.RegionWith
import Derived.Deep.DeepCutAuto
namespace Go.Proofs.Ytpdkoijgemgaiaa
open Go.RowKit

/-- A framer in memory: its struct in block sb, its bytes in a row of the call's own. -/
structure FrO (B : Nat) (w : World) (sb : Nat) (typed : Bool) (L : List UInt8) (most room : Nat) (wrong : Int) (v : Value) : Prop where
  blk : Blk w sb 65 #[.bool typed, v, .int .i64 (most : Int), .int .i64 (room : Int), .int .i64 wrong]
  own : OwnBR B w v L
  sB : B ≤ sb
  no : rowOf v ≠ some sb

section
variable {B : Nat} {w w' : World} {sb : Nat} {typed : Bool} {L : List UInt8} {most room : Nat} {wrong : Int} {v : Value}
theorem FrO.touch {p : Nat → Prop} (h : FrO B w sb typed L most room wrong v) (ht : Touch p w w') (h1 : ¬ p sb) (h2 : ∀ k, rowOf v = some k → ¬ p k) : FrO B w' sb typed L most room wrong v :=
  ⟨ht.blk h.blk h1, h.own.touch ht h2, h.sB, h.no⟩
theorem FrO.still (h : FrO B w sb typed L most room wrong v) (hb : Below w.heap.size w w') : FrO B w' sb typed L most room wrong v :=
  h.touch (Touch.of_below (p := fun _ => False) hb) (fun e => e) (fun _ _ e => e)
theorem FrO.drew (h : FrO B w sb typed L most room wrong v) : FrO B w.drew sb typed L most room wrong v := h.touch ((Touch.refl (fun _ => False) w).drew) (fun e => e) (fun _ _ e => e)
theorem FrO.alloc (h : FrO B w sb typed L most room wrong v) (o : Obj) : FrO B (w.alloc o) sb typed L most room wrong v := h.still ((Below.refl _ _).alloc (Nat.le_refl _) o)
theorem FrO.setWrong (h : FrO B w sb typed L most room wrong v) (e : Int) : FrO B (w.setCell ⟨sb, 4, none⟩ (.int .i64 e)) sb typed L most room e v := by
  have hT : Touch (fun i => i = sb) w (w.setCell ⟨sb, 4, none⟩ (.int .i64 e)) := (Touch.refl (fun i => i = sb) w).setCell (x := ⟨sb, 4, none⟩) (fun _ => rfl) _
  refine ⟨by simpa using h.blk.set_ 4 (.int .i64 e), h.own.touch hT (fun k hk e => h.no (by rw [hk, e])), h.sB, h.no⟩
/-- New bytes. -/
theorem FrO.setBytes {L' : List UInt8} {v' : Value} (h : Blk w sb 65 #[.bool typed, v, .int .i64 (most : Int), .int .i64 (room : Int), .int .i64 wrong]) (hB : B ≤ sb) (ho : OwnBR B w v' L') (hn : rowOf v' ≠ some sb) : FrO B (w.setCell ⟨sb, 1, none⟩ v') sb typed L' most room wrong v' := by
  have hT : Touch (fun i => i = sb) w (w.setCell ⟨sb, 1, none⟩ v') := (Touch.refl (fun i => i = sb) w).setCell (x := ⟨sb, 1, none⟩) (fun _ => rfl) _
  exact ⟨by simpa using h.set_ 1 v', ho.touch hT (fun k hk e => hn (by rw [hk, e])), hB, hn⟩
end

theorem below_ofDr {w w' : World} (h : Below w.drew.heap.size w.drew w') : Below w.heap.size w w' := (((Touch.refl (fun _ => False) w).drew).below (Nat.le_refl _) (fun _ e => e.elim)).trans h

theorem frReady_nil (w : World) : Calls Try.prog 90 #[.pointer none] w fun e w' => e = .returned (.bool false) ∧ w = w' := by
  go_enter Try.func90, Try.ntmps90
  go_wp2
  go_ret
  exact ⟨rfl, rfl⟩

theorem frReady_blk (sb : Nat) (a b c d : Value) (room : Nat) (w : World) (h : ∀ i, w.cell? ⟨sb, i, none⟩ = (#[a, b, c, .int .i64 (room : Int), d] : Array Value)[i]?) :
    Calls Try.prog 90 #[.pointer (some ⟨sb, 0, none⟩)] w fun e w' => e = .returned (.bool (decide (0 < room))) ∧ w = w' := by
  by_cases h0 : 0 < room
  · have hd : decide (0 < room) = true := by simpa using h0
    have Hd := Lib.hid hd
    clear hd
    go_enter Try.func90, Try.ntmps90
    go_wp2
    go_ret
    exact ⟨ret_bool (by rw [Hd.out] <;> simp <;> omega), rfl⟩
  · obtain rfl : room = 0 := by omega
    go_enter Try.func90, Try.ntmps90
    go_wp2
    go_ret
    exact ⟨rfl, rfl⟩

theorem frNew_ok (most room : Nat) (hello : Bool) (w : World) (h1 : 4 ≤ most) (h2 : most ≤ 65536) (h3 : most < room) (h4 : room ≤ 262144) :
    Calls Try.prog 64 #[.int .i64 (most : Int), .int .i64 (room : Int), .bool hello] w fun e w' =>
      e = .returned (.tuple #[.pointer (some ⟨w.heap.size, 0, none⟩), .int .i64 0]) ∧ FrO w.heap.size w' w.heap.size (!hello) [] most room 0 (.slice none 0 0) ∧ Below w.heap.size w w' := by
  have Hend : Hid (∀ t, FrO w.heap.size (w.alloc (.cells #[.bool t, .slice none 0 0, .int .i64 (most : Int), .int .i64 (room : Int), .int .i64 0] 65)) w.heap.size t [] most room 0 (.slice none 0 0)) :=
    Lib.hid (fun t => ⟨Blk.new _ _ _, OwnBR.empty _ _ _, Nat.le_refl _, by simp [rowOf]⟩)
  cases hello
  all_goals
    go_enter Try.func64, Try.ntmps64
    go_wp2
    go_ret2
    exact ⟨rfl, Hend.out _, (Below.refl _ _).alloc (Nat.le_refl _) _⟩

theorem frSize_nil (w : World) : Calls Try.prog 45 #[.pointer none] w fun e w' => e = .returned (.int .i64 0) ∧ w = w' := by
  go_enter Try.func45, Try.ntmps45
  go_wp2_with (go_at_call 90; refine (frReady_nil _).mono ?_; rintro e w1 ⟨rfl, rfl⟩)
  go_ret
  exact ⟨rfl, rfl⟩

theorem frSize_zero (sb : Nat) (a b c d : Value) (w : World) (h : ∀ i, w.cell? ⟨sb, i, none⟩ = (#[a, b, c, .int .i64 0, d] : Array Value)[i]?) :
    Calls Try.prog 45 #[.pointer (some ⟨sb, 0, none⟩)] w fun e w' => e = .returned (.int .i64 0) ∧ w = w' := by
  go_enter Try.func45, Try.ntmps45
  go_wp2_with (go_at_call 90; refine (frReady_blk sb a b c d 0 _ h).mono ?_; rintro e w1 ⟨rfl, rfl⟩; simp only [Nat.lt_irrefl, decide_false])
  go_ret
  exact ⟨rfl, rfl⟩

theorem frSize_any (B sb : Nat) (typed : Bool) (L : List UInt8) (most room : Nat) (wrong : Int) (v : Value) (w : World) (h : FrO B w sb typed L most room wrong v) (hr : 0 < room) :
    Calls Try.prog 45 #[.pointer (some ⟨sb, 0, none⟩)] w fun e w' => e = .returned (.int .i64 (L.length : Nat)) ∧ w = w' := by
  obtain ⟨p, c, rfl, _⟩ := h.own.slice
  have hc := h.blk.cell
  have Hd := Lib.hid (show decide (0 < room) = true by simpa using hr)
  clear h
  go_enter Try.func45, Try.ntmps45
  go_wp2_with (go_at_call 90; refine (frReady_blk sb _ _ _ _ room _ hc).mono ?_; rintro e w1 ⟨rfl, rfl⟩; rw [Hd.out])
  go_ret
  exact ⟨rfl, rfl⟩

theorem frBegin_nil (w : World) : Calls Try.prog 41 #[.pointer none] w fun e w' => e = .returned (.tuple #[]) ∧ w = w' := by
  go_enter Try.func41, Try.ntmps41
  go_wp2_with (go_at_call 90; refine (frReady_nil _).mono ?_; rintro e w1 ⟨rfl, rfl⟩)
  go_end0
  exact ⟨rfl, rfl⟩

theorem frBegin_zero (sb : Nat) (a b c d : Value) (w : World) (h : ∀ i, w.cell? ⟨sb, i, none⟩ = (#[a, b, c, .int .i64 0, d] : Array Value)[i]?) :
    Calls Try.prog 41 #[.pointer (some ⟨sb, 0, none⟩)] w fun e w' => e = .returned (.tuple #[]) ∧ w = w' := by
  go_enter Try.func41, Try.ntmps41
  go_wp2_with (go_at_call 90; refine (frReady_blk sb a b c d 0 _ h).mono ?_; rintro e w1 ⟨rfl, rfl⟩; simp only [Nat.lt_irrefl, decide_false])
  go_end0
  exact ⟨rfl, rfl⟩

theorem frFeed_nil (x : Value) (w : World) : Calls Try.prog 44 #[.pointer none, x] w fun e w' => e = .returned (.int .i64 2) ∧ w = w' := by
  go_enter Try.func44, Try.ntmps44
  go_wp2_with (go_at_call 90; refine (frReady_nil _).mono ?_; rintro e w1 ⟨rfl, rfl⟩)
  go_ret
  exact ⟨rfl, rfl⟩

theorem frFeed_zero (sb : Nat) (a b c d x : Value) (w : World) (h : ∀ i, w.cell? ⟨sb, i, none⟩ = (#[a, b, c, .int .i64 0, d] : Array Value)[i]?) :
    Calls Try.prog 44 #[.pointer (some ⟨sb, 0, none⟩), x] w fun e w' => e = .returned (.int .i64 2) ∧ w = w' := by
  go_enter Try.func44, Try.ntmps44
  go_wp2_with (go_at_call 90; refine (frReady_blk sb a b c d 0 _ h).mono ?_; rintro e w1 ⟨rfl, rfl⟩; simp only [Nat.lt_irrefl, decide_false])
  go_ret
  exact ⟨rfl, rfl⟩

/-- What a step on a framer may turn. -/
abbrev FrT (sb : Nat) (v : Value) (w w' : World) : Prop := Touch (fun i => i = sb ∨ rowOf v = some i) w w'

set_option maxRecDepth 100000 in
set_option maxHeartbeats 1000000 in
theorem frFeed_ok (B sb : Nat) (typed : Bool) (L : List UInt8) (most room : Nat) (wrong : Int) (v : Value) (p : Option Addr) (l : List UInt8) (c : Nat) (w : World) (h : FrO B w sb typed L most room wrong v) (hr : 0 < room) (hrm : room ≤ 262144)
    (hfit : L.length + l.length ≤ room) (hBw : B ≤ w.heap.size) (hl : BytesIn w p l) :
    Calls Try.prog 44 #[.pointer (some ⟨sb, 0, none⟩), .slice p l.length c] w fun e w' => ∃ v', e = .returned (.int .i64 0) ∧ FrO B w' sb typed (L ++ l) most room wrong v' ∧ (∀ k, rowOf v' = some k → rowOf v = some k ∨ w.heap.size ≤ k) ∧ FrT sb v w w' := by
  obtain ⟨pv, cv, rfl, _, hcv, _⟩ := h.own.slice
  have H := Lib.hid h
  have hc := h.blk.cell
  have hsl := h.blk.lt
  have Hd := Lib.hid (show decide (0 < room) = true by simpa using hr)
  have Hl := Lib.hid hl
  have hno : ¬ ((room : Int) - (L.length : Int) < (l.length : Int)) := by omega
  have hwr : IntKind.i64.wrap ((room : Int) - (L.length : Int)) = (room : Int) - (L.length : Int) := by rw [IntKind.wrap_i64]; omega
  clear h hl hcv
  go_enter Try.func44, Try.ntmps44
  go_wp2_with fail
  refine (frReady_blk sb _ _ _ _ room _ hc).mono ?_
  rintro e w1 ⟨rfl, rfl⟩
  rw [Hd.out]
  go_wp2_with fail
  go_quiet (fail)
  have H1 : Hid (FrO B (w.drewN nq) sb typed L most room wrong (.slice pv L.length cv)) := Lib.hid (H.out.touch ((Touch.refl (fun _ => False) w).drewN nq) (fun e => e) (fun _ _ e => e))
  have Hl1 : Hid (BytesIn (w.drewN nq) p l) := Lib.hid (Hl.out.drewN nq)
  have HT1 : Hid (Touch (fun _ => False) w (w.drewN nq)) := Lib.hid ((Touch.refl (fun _ => False) w).drewN nq)
  have hsz1 : (w.drewN nq).heap.size = w.heap.size := rfl
  generalize w.drewN nq = w1 at *
  have hc1 := H1.out.blk.cell
  have Hsz1 := Lib.hid hsz1
  have hBw1 : B ≤ w1.heap.size := by omega
  clear hc hsz1
  go_wp2_with (at_builtin; refine step_appendBR _ rfl (.tmp 27) (.tmp 28) rfl B (.slice pv L.length cv) L rfl H1.out.own p l _ c rfl rfl Hl1.out (by omega) hBw1 ?_; intro v2 w2 ho2 hg2 hn2; obtain ⟨p2, n2, c2, rfl⟩ : ∃ p n c, v2 = .slice p n c := (by obtain ⟨p, c, h, _⟩ := ho2.slice; exact ⟨p, _, c, h⟩); have hT2 := Touch.of_row hg2; have hb2 := hT2.blk H1.out.blk (fun e => H1.out.no e.symm); have hf2 := hb2.frozen 1; have hc2 := hb2.cell; have hno2 : rowOf (.slice p2 n2 c2) ≠ some sb := (fun e => by rcases hn2 sb e with h | h; (· exact H1.out.no h); (· have := H1.out.blk.lt; omega)); have Hn2 := Lib.hid hn2; have Hfin := Lib.hid (FrO.setBytes hb2 H1.out.sB ho2 hno2); have HT2 := Lib.hid hT2; clear ho2 hg2 hn2 hT2 hb2 hno2 hc1)
  go_ret
  refine ⟨_, rfl, Hfin.out, fun k hk => by have := Hn2.out k hk; rw [Hsz1.out] at this; exact this, ?_⟩
  exact ((HT1.out.mono (q := fun i => i = sb ∨ rowOf (.slice pv L.length cv) = some i) (fun _ _ e => e.elim)).trans (HT2.out.mono (fun _ _ e => .inr e.symm))).setCell (x := ⟨sb, 1, none⟩) (fun _ => .inl rfl) _

end Go.Proofs.Ytpdkoijgemgaiaa
