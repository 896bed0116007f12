/-
  Ground (layer 38): awake; the walk of LazyNobody.
-/
import Derived.Test.YthhebfknikfleaaGreatLzD
namespace Go.Proofs.YthhebfknikfleaaGreat
open Go.RowKit
set_option linter.unusedVariables false
set_option linter.unusedSimpArgs false

theorem lz_len0 : (alikeL [] ++ bytesB [keyB 0, idleB]).length = 28 := by decide +kernel
theorem lz_len1 : (alikeL [] ++ bytesB [keyB 1, idleB]).length = 28 := by decide +kernel

set_option maxRecDepth 100000 in
set_option maxHeartbeats 1000000 in
theorem lzAwake_any (w : World) : Calls Tryz.prog 8 #[] w fun e w' => e = .returned (.bool true) ∧ Below w.heap.size w w' := by
  have HN := Lib.hid (lzNew_any (fun _ => True) none 0 0 [] w (SliceS.empty none 0 (by simp [maxLen])) (by simp))
  have HM := Lib.hid (fun g n w0 h1 h2 => lzMade_at g n w0 h1 h2)
  have H0 : Hid (∀ g pp cp w1, LzO w w1 g [] pp cp 0 (.slice none 0 0) → Calls Tryz.prog 11 #[.pointer (some ⟨g, 0, none⟩), .int .i64 0] w1 fun e w' => ∃ p d pa ca, e = .returned (.slice p 28 d) ∧ LzM w w' g [] pp cp pa ca) := Lib.hid (fun g pp cp w1 h => (lzOf_any w w1 g [] pp cp 0 near_nil (by have := lz_len0; rw [List.length_append] at this; omega) (by have := lz_len0; rw [List.length_append] at this; omega) (.inl h)).mono (by
    rintro e w' ⟨p, d, pa, ca, rfl, _, hm⟩
    exact ⟨p, d, pa, ca, by rw [lz_len0], hm⟩))
  have H1 : Hid (∀ g pp cp pa ca w1, LzM w w1 g [] pp cp pa ca → Calls Tryz.prog 11 #[.pointer (some ⟨g, 0, none⟩), .int .i64 1] w1 fun e w' => ∃ p d pa ca, e = .returned (.slice p 28 d) ∧ LzM w w' g [] pp cp pa ca) := Lib.hid (fun g pp cp pa ca w1 h => (lzOf_any w w1 g [] pp cp 1 near_nil (by have := lz_len1; rw [List.length_append] at this; omega) (by have := lz_len1; rw [List.length_append] at this; omega) (.inr ⟨pa, ca, h⟩)).mono (by
    rintro e w' ⟨p, d, pa, ca, rfl, _, hm⟩
    exact ⟨p, d, pa, ca, by rw [lz_len1], hm⟩))
  go_enter Tryz.func8, Tryz.ntmps8
  go_wp2_with fail
  refine HN.out.mono ?_
  rintro e w1 ⟨g, pp, cp, rfl, ho⟩
  have Ho := Lib.hid ho
  clear ho HN
  go_wp2_with fail
  refine (HM.out g 0 w1 (.inl rfl) (Ho.out.b.cell 5)).mono ?_
  rintro e w2 ⟨rfl, rfl⟩
  go_wp2_with fail
  refine (H0.out g pp cp _ Ho.out).mono ?_
  rintro e w3 ⟨p3, d3, pa, ca, rfl, hm⟩
  have Hm := Lib.hid hm
  clear hm Ho
  go_wp2_with fail
  refine (H1.out g pp cp pa ca _ Hm.out).mono ?_
  rintro e w4 ⟨p4, d4, pa4, ca4, rfl, hm⟩
  have Hm4 := Lib.hid hm
  clear hm Hm
  go_wp2_with fail
  refine (HM.out g 1 w4 (.inr rfl) (Hm4.out.b.cell 5)).mono ?_
  rintro e w5 ⟨rfl, rfl⟩
  go_wp2_with fail
  go_ret
  exact ⟨rfl, Hm4.out.bel⟩

end Go.Proofs.YthhebfknikfleaaGreat
