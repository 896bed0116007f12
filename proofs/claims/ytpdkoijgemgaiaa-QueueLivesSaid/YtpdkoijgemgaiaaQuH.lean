/-
  The statements' awake (layer 21).
-/
import Derived.Test.YtpdkoijgemgaiaaQuG
import Derived.Test.YtpdkoijgemgaiaaQuA
namespace Go.Proofs.Ytpdkoijgemgaiaa
open Go.RowKit
set_option linter.unusedVariables false
set_option linter.unusedSimpArgs false

theorem QO.below {t : TypeId} {B sb : Nat} {E : Nat → Prop} {L : List EnV} {most : Nat} {v : Value} {w w' : World} (h : QO t B w sb E L most v) (hT : QT sb v w w') (hB : B ≤ w.heap.size) : Below B w w' :=
  hT.below hB (fun k hk => by
    rcases hk with e | e
    · rw [e]; exact h.sB
    · exact (h.own.row k e).1)
theorem QO.belowS {t : TypeId} {B sb : Nat} {E : Nat → Prop} {L : List EnV} {most : Nat} {v : Value} {w w' : World} (h : QO t B w sb E L most v) (hT : Touch (fun i => i = sb) w w') (hB : B ≤ w.heap.size) : Below B w w' :=
  hT.below hB (fun k hk => by rw [hk]; exact h.sB)

/-- A new block reads as a slice. -/
theorem SliceS.newList {α : Type} {n : Nat} {R : Rd α} {S S' : Nat → Prop} (hR : Still R) (w : World) (e : TypeId) (cs : Array Value) (css : List (List Value)) (xs : List α) (h : ElemsS n R S w css xs) (hcs : cs.toList = css.flatten) (hl : xs.length ≤ maxLen) (hS : ∀ k, k < w.heap.size → S k → S' k) (hn : S' w.heap.size) :
    SliceS n R S' (w.alloc (.cells cs e)) [.slice (some ⟨w.heap.size, 0, none⟩) xs.length xs.length] xs := by
  refine ⟨_, _, css, rfl, Nat.le_refl _, hl, fun j u hu => ⟨_, _, rfl, hn, ?_⟩, h.keep hR (fun k hk hs => ⟨hS k hk hs, Below.heap_alloc w _ k hk⟩)⟩
  rw [Nat.zero_add, World.cell?_alloc_new]
  rw [← hcs, Array.getElem?_toList] at hu
  exact hu

def enK (k : Int) : EnV := ⟨k, false, ⟨#[]⟩, ⟨#[]⟩, [], [], [], []⟩
theorem enK_small (k : Int) : EnSmall (enK k) := by simp [EnSmall, enK]
theorem enZero_l (S : Nat → Prop) (w : World) (k : Int) : EnL S w (enK k) enZeroP :=
  ⟨SliceS.empty _ _ (by simp [maxLen, enZeroP]), SliceS.empty _ _ (by simp [maxLen, enZeroP]), SliceS.empty _ _ (by simp [maxLen, enZeroP]), ⟨none, 0, rfl, Nat.le_refl _, by simp [maxLen], BytesIn.nil _ _, fun h => absurd rfl h⟩⟩

theorem ahead_28 : ahead isSync [enK 2, enK 8] = 1 := by
  have h1 : isSync (enK 2) = false := rfl
  have h2 : isSync (enK 8) = true := rfl
  simp [ahead, List.takeWhile_cons, h1, h2]

set_option maxRecDepth 100000 in
set_option maxHeartbeats 4000000 in
theorem quAwake (w : World) : Calls Try.prog 22 #[] w fun e w' => e = .returned (.bool true) ∧ Below w.heap.size w w' := by
  have Hnew : Hid (Calls Try.prog 24 #[.int .i64 3] w fun e w' =>
      e = .returned (.tuple #[.pointer (some ⟨w.heap.size, 0, none⟩), .int .i64 0]) ∧ QO 30 w.heap.size w' w.heap.size (fun _ => False) [] 3 (.slice none 0 0) ∧ Below w.heap.size w w') := Lib.hid (qNew_ok 3 w (by omega) (by omega))
  go_enter Try.func22, Try.ntmps22
  go_wp2_with fail
  refine Hnew.out.mono ?_
  rintro e w1 ⟨rfl, hq1, hb1⟩
  have HQ1 := Lib.hid hq1
  have HB1 := Lib.hid hb1
  have hz1 : w.heap.size < w1.heap.size := hq1.blk.lt
  clear hq1 hb1 Hnew
  go_wp2_with fail
  have hal : Below w1.heap.size w1 (w1.alloc (.cells #[.int .i64 2, .bool false, .string ⟨#[]⟩, .string ⟨#[]⟩, .slice none 0 0, .slice none 0 0, .slice none 0 0, .slice none 0 0, .int .i64 8, .bool false, .string ⟨#[]⟩, .string ⟨#[]⟩, .slice none 0 0, .slice none 0 0, .slice none 0 0, .slice none 0 0] 26)) := (Below.refl _ _).alloc (Nat.le_refl _) _
  have hsl := SliceS.newList (S := fun _ => True) (S' := fun _ => True) EnS.still w1 26 #[.int .i64 2, .bool false, .string ⟨#[]⟩, .string ⟨#[]⟩, .slice none 0 0, .slice none 0 0, .slice none 0 0, .slice none 0 0, .int .i64 8, .bool false, .string ⟨#[]⟩, .string ⟨#[]⟩, .slice none 0 0, .slice none 0 0, .slice none 0 0, .slice none 0 0]
    [enCells (enK 2) enZeroP, enCells (enK 8) enZeroP] [enK 2, enK 8] ⟨⟨rfl, enZeroP, rfl, enZero_l _ _ _⟩, ⟨rfl, enZeroP, rfl, enZero_l _ _ _⟩, trivial⟩ rfl (by simp [maxLen]) (fun _ _ h => h) trivial
  have hz1a : w1.heap.size + 1 = (w1.alloc (.cells #[.int .i64 2, .bool false, .string ⟨#[]⟩, .string ⟨#[]⟩, .slice none 0 0, .slice none 0 0, .slice none 0 0, .slice none 0 0, .int .i64 8, .bool false, .string ⟨#[]⟩, .string ⟨#[]⟩, .slice none 0 0, .slice none 0 0, .slice none 0 0, .slice none 0 0] 26)).heap.size := by simp
  have hq1a := HQ1.out.still hal
  have hB1a := HB1.out.trans (hal.mono (Nat.le_of_lt hz1))
  generalize w1.alloc (.cells #[.int .i64 2, .bool false, .string ⟨#[]⟩, .string ⟨#[]⟩, .slice none 0 0, .slice none 0 0, .slice none 0 0, .slice none 0 0, .int .i64 8, .bool false, .string ⟨#[]⟩, .string ⟨#[]⟩, .slice none 0 0, .slice none 0 0, .slice none 0 0, .slice none 0 0] 26) = w2 at *
  refine (qPush_ok w.heap.size w.heap.size _ _ [] [enK 2, enK 8] 3 _ _ 2 2 w2 hq1a hsl (fun x hx => by rcases List.mem_cons.1 hx with rfl | hx; (· exact enK_small 2); (· rw [List.mem_singleton.1 hx]; exact enK_small 8)) (by simp) (by omega) (by omega)).mono ?_
  rintro e w3 ⟨rfl, v3, hq3, hr3, hT3⟩
  have hz3 := hT3.size
  have HQ3 := Lib.hid hq3
  have HB3 := Lib.hid (hB1a.trans (hq1a.below hT3 (by omega)))
  clear hq3 hr3 hT3 hq1a hB1a hsl hal HQ1 HB1
  go_wp2_with fail
  refine (qSkip_any w.heap.size w.heap.size _ ([] ++ [enK 2, enK 8]) 3 v3 w3 HQ3.out (by omega)).mono ?_
  rw [List.nil_append, ahead_28]
  rintro e w4 ⟨p4, v4, rfl, hs4, hq4, hr4, hT4⟩
  have hz4 := hT4.size
  have hq3 := HQ3.out
  have HB4 := Lib.hid (HB3.out.trans (HQ3.out.belowS hT4 (by omega)))
  obtain ⟨b, o, a, rfl, hS, hbl, hL, c0, c1, c2, c3, c4, c5, c6, c7⟩ := en_at hs4 (k := 0) (by simp)
  simp only [List.take_succ_cons, List.take_zero, List.getElem_cons_zero, Nat.zero_mul, Nat.add_zero] at c0
  have hq4' : QO 30 w.heap.size w4 w.heap.size _ (enK 8 :: []) 3 v4 := hq4
  have HQ4 := Lib.hid hq4'
  have hk2 : (enK 2).kind = 2 := rfl
  rw [hk2] at c0
  clear hs4 hq4 hq4' hr4 hT4 hq3 HQ3 HB3 c1 c2 c3 c4 c5 c6 c7 hS hL hk2
  go_wp2_with fail
  refine (qHead_some w.heap.size w.heap.size _ (enK 8) [] 3 v4 w4 HQ4.out).mono ?_
  rintro e w5 ⟨a5, rfl, hl5, hb5⟩
  have hz5 := hb5.size
  have HB5 := Lib.hid (HB4.out.trans (hb5.mono HB4.out.size))
  have HLen := Lib.hid (qLen_any _ _ _ _ _ _ _ _ ((HQ4.out.still hb5).still ((Below.refl _ _).alloc (Nat.le_refl _) (.cells (enArg (enK 8) a5).cells 26))))
  have c0' : w5.cell? ⟨b, o, none⟩ = some (.int .i64 2) := (hb5.cell (p := ⟨b, o, none⟩) hbl).trans c0
  obtain ⟨pg, cg, pb, cb, pc, cc, pr, cr⟩ := a5
  have hbl5 : b < w5.heap.size := by omega
  have HAl : Hid (∀ ob, (w5.alloc ob).cell? ⟨b, o, none⟩ = some (.int .i64 2) ∧ Below w.heap.size w (w5.alloc ob)) := Lib.hid (fun ob => ⟨(((Below.refl w5.heap.size w5).alloc (Nat.le_refl _) ob).cell (p := ⟨b, o, none⟩) hbl5).trans c0', HB5.out.alloc HB5.out.size _⟩)
  unfold enArg enK at HLen ⊢
  simp only [Value.cells, List.length_nil, List.length_cons, Nat.zero_add] at HLen
  dsimp only [List.length_nil]
  clear hl5 hb5 c0 c0'
  go_upto_region 6 with (fail)
  have hcf := (HAl.out (.cells #[.int .i64 8, .bool false, .string ⟨#[]⟩, .string ⟨#[]⟩, .slice pg 0 cg, .slice pb 0 cb, .slice pc 0 cc, .slice pr 0 cr] 26)).1
  have HBf := Lib.hid (HAl.out (.cells #[.int .i64 8, .bool false, .string ⟨#[]⟩, .string ⟨#[]⟩, .slice pg 0 cg, .slice pb 0 cb, .slice pc 0 cc, .slice pr 0 cr] 26)).2
  clear HAl
  go_wp2_with (go_at_call 20; refine HLen.out.mono ?_; rintro e w6 ⟨rfl, rfl⟩)
  go_ret
  exact ⟨rfl, HBf.out⟩

end Go.Proofs.Ytpdkoijgemgaiaa
