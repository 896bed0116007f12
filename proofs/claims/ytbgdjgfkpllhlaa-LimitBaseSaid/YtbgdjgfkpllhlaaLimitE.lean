/-
  The contracts of limit.Base and remudaref35.Base: ordinary settings, new each time; and awake.
-/
import Derived.Test.YtbgdjgfkpllhlaaLimitD
namespace Go.Proofs.Ytbgdjgfkpllhlaa
open Go.RowKit

def svName : ByteArray := ⟨#[115, 101, 114, 118, 101, 114, 95, 118, 101, 114, 115, 105, 111, 110]⟩
def svValue : ByteArray := ⟨#[49, 54]⟩

/-- Ordinary settings, as a call returns them: its one parameter lies in a block of its own. -/
def BaseR (w : World) (e : Ending) (w' : World) : Prop :=
  ∃ g, e = .returned (.agg #[.int .i64 2, .int .i64 4, .int .i64 8, .int .i64 4096, .int .i64 8192, .int .i64 32, .slice (some ⟨g, 0, none⟩) 1 1]) ∧ w.heap.size ≤ g ∧
    w'.heap[g]? = some (.cells #[.string svName, .string svValue] 36 (0, 0)) ∧ Below w.heap.size w w'

set_option maxHeartbeats 1000000 in
theorem base_any (w : World) : Calls Try.prog 19 #[] w (BaseR w) := by
  go_enter Try.func19, Try.ntmps19
  go_wp2
  refine bodyPost_ret (v := .agg #[.int .i64 2, .int .i64 4, .int .i64 8, .int .i64 4096, .int .i64 8192, .int .i64 32, .slice (some ⟨w.heap.size + 1 + 1, 0, none⟩) 1 1]) (by simp [results, Try.results19, go_sem]) rfl ?_
  refine ⟨_, rfl, by omega, ?_, (((Below.refl _ _).alloc (Nat.le_refl _) _).alloc (by simp) _).alloc (by simp; omega) _⟩
  have h := Blk.new ((w.alloc (.cells #[.int .i64 2, .int .i64 4, .int .i64 8, .int .i64 4096, .int .i64 8192, .int .i64 32, .slice (some ⟨w.heap.size + 1 + 1, 0, none⟩) 1 1] 34)).alloc (.cells #[.int .i64 2, .int .i64 4, .int .i64 8, .int .i64 4096, .int .i64 8192, .int .i64 32, .slice (some ⟨w.heap.size + 1 + 1, 0, none⟩) 1 1] 34)) 36 #[.string svName, .string svValue]
  simp only [World.size_alloc] at h
  exact h

theorem baseR_any (w : World) : Calls Try.prog 20 #[] w (BaseR w) := by
  go_enter Try.func20, Try.ntmps20
  go_wp2
  refine bodyPost_ret (v := .agg #[.int .i64 2, .int .i64 4, .int .i64 8, .int .i64 4096, .int .i64 8192, .int .i64 32, .slice (some ⟨w.heap.size + 1, 0, none⟩) 1 1]) (by simp [results, Try.results20, go_sem]) rfl ?_
  refine ⟨_, rfl, by omega, ?_, ((Below.refl _ _).alloc (Nat.le_refl _) _).alloc (by simp) _⟩
  have h := Blk.new (w.alloc (.cells #[.int .i64 2, .int .i64 4, .int .i64 8, .int .i64 4096, .int .i64 8192, .int .i64 32, .slice (some ⟨w.heap.size + 1, 0, none⟩) 1 1] 34)) 36 #[.string svName, .string svValue]
  simp only [World.size_alloc] at h
  exact h

/-- A parameter in a block of its own reads as one. -/
theorem pair_blk {w : World} {g : Nat} {n v : ByteArray} (h : Blk w g 36 #[.string n, .string v]) (hn : n.size ≤ maxLen) (hv : v.size ≤ maxLen) :
    SliceR 2 PairR (g + 1) w [.slice (some ⟨g, 0, none⟩) 1 1] [⟨n, v⟩] := by
  refine ⟨_, _, rfl, Nat.le_refl _, by simp [maxLen], fun i x hx => ?_⟩
  obtain rfl : i = 0 := by
    have := (List.getElem?_eq_some_iff.1 hx).1
    simpa using this
  simp only [List.getElem?_cons_zero, Option.some.injEq] at hx
  subst hx
  refine ⟨g, 0, [.string n, .string v], rfl, by omega, rfl, fun j u hu => ?_, rfl, hn, hv⟩
  rw [show 0 + 0 * 2 + j = j from by omega, h.cell, ← hu]
  simp

theorem checkV_base : checkV 2 4 8 4096 8192 32 [⟨svName, svValue⟩] = 0 := by decide +kernel
theorem checkV_five : checkV 2 4 8 4096 8192 5 [⟨svName, svValue⟩] = 1 := by decide +kernel

set_option maxHeartbeats 1000000 in
theorem limitAwake (w : World) :
    Calls Try.prog 16 #[] w fun e w' => e = .returned (.bool true) ∧ Below w.heap.size w w' := by
  go_enter Try.func16, Try.ntmps16
  go_wp2_with fail
  refine (base_any _).mono ?_
  rintro e w1 ⟨g, rfl, hg, hblk, hb1⟩
  have hs1 := hb1.size
  have hgl := Blk.lt hblk
  have Hblk := Lib.hid hblk
  have Hb1 := Lib.hid hb1
  clear hblk hb1
  go_wp2_with fail
  have hbA : Blk (w1.alloc (.cells #[.int .i64 2, .int .i64 4, .int .i64 8, .int .i64 4096, .int .i64 8192, .int .i64 32, .slice (some ⟨g, 0, none⟩) 1 1] 34)) w1.heap.size 34 _ := Blk.new _ _ _
  have hpA := pair_blk (Blk.alloc Hblk.out (.cells #[.int .i64 2, .int .i64 4, .int .i64 8, .int .i64 4096, .int .i64 8192, .int .i64 32, .slice (some ⟨g, 0, none⟩) 1 1] 34)) (by decide) (by decide)
  have hbB : Below w.heap.size w (w1.alloc (.cells #[.int .i64 2, .int .i64 4, .int .i64 8, .int .i64 4096, .int .i64 8192, .int .i64 32, .slice (some ⟨g, 0, none⟩) 1 1] 34)) := Hb1.out.alloc hs1 _
  refine (check_any 2 4 8 4096 8192 32 (some ⟨g, 0, none⟩) [⟨svName, svValue⟩] 1 _ (g + 1) (by simp; omega) hpA).mono ?_
  rintro e w2 ⟨rfl, hb2⟩
  rw [checkV_base]
  have hbA2 := hbA.below hb2 (by simp)
  have hpA2 := SliceR.stays PairR.stays _ _ _ _ _ hpA (hb2.mono (by simp; omega))
  have hbB2 := hbB.trans (hb2.mono (by simp; omega))
  have hs2 := hb2.size
  simp only [World.size_alloc] at hs2
  have hc := hbA2.cell
  have hf := hbA2.frozen 5
  have hset : Below w1.heap.size w2 (w2.setCell ⟨w1.heap.size, 5, none⟩ (.int .i64 5)) := (Below.refl _ _).setCell (p := ⟨w1.heap.size, 5, none⟩) (Nat.le_refl _) _
  have hpA3 := SliceR.stays PairR.stays _ _ _ _ _ hpA2 (hset.mono (by omega))
  have hbA3 := hbA2.set_ 5 (.int .i64 5)
  have hbB3 := hbB2.trans (hset.mono hs1)
  have HpA3 := Lib.hid hpA3
  have HbB3 := Lib.hid hbB3
  have HbA3 := Lib.hid hbA3
  clear hbA hpA hbB hb2 hbA2 hpA2 hbB2 hset hpA3 hbB3 hbA3
  go_wp2_with fail
  refine (check_any 2 4 8 4096 8192 5 (some ⟨g, 0, none⟩) [⟨svName, svValue⟩] 1 _ (g + 1) (by simp [World.setCell]; omega) HpA3.out).mono ?_
  rintro e w3 ⟨rfl, hb3⟩
  rw [checkV_five]
  have c0 := (HbA3.out.below hb3 (by simp [World.setCell]; omega)).cell 0
  have hbB4 := HbB3.out.trans (hb3.mono (by simp [World.setCell]; omega))
  clear hc hf hb3
  go_wp2
  go_ret
  exact ⟨rfl, hbB4⟩

end Go.Proofs.Ytbgdjgfkpllhlaa
