/-
  The statements' helpers, and the walk of FrameNobody (layer 4).
-/
import Derived.Test.YtpdkoijgemgaiaaFrF
namespace Go.Proofs.Ytpdkoijgemgaiaa
open Go.RowKit

theorem frT_below {B sb : Nat} {t : Bool} {L : List UInt8} {most room : Nat} {wrong : Int} {v : Value} {w w' : World} (h : FrO B w sb t L most room wrong v) (hT : FrT sb v w w') (hB : B ≤ w.heap.size) : Below B w w' :=
  hT.below hB (fun k hk => by
    rcases hk with e | e
    · rw [e]; exact h.sB
    · exact (h.own.row k e).1)
theorem frS_below {B sb : Nat} {t : Bool} {L : List UInt8} {most room : Nat} {wrong : Int} {v : Value} {w w' : World} (h : FrO B w sb t L most room wrong v) (hT : Touch (fun i => i = sb) w w') (hB : B ≤ w.heap.size) : Below B w w' :=
  hT.below hB (fun k hk => by rw [hk]; exact h.sB)

theorem frNext_some {B sb : Nat} {t : Bool} {L : List UInt8} {most room : Nat} {v : Value} {w w' : World} {e : Ending} {ty : Nat} {b r : List UInt8} (h : NextR B sb t L most room 0 v w e w') (hn : nextL t most L 0 = some (ty, b, r)) :
    ∃ q d v', e = .returned (.tuple #[.agg #[.int .u8 (ty : Nat), .slice q b.length d], .bool true, .int .i64 0]) ∧ BytesS (fun k => w.heap.size ≤ k) w' [.slice q b.length d] b ∧ FrO B w' sb t r most room 0 v' ∧ (∀ k, rowOf v' = some k → rowOf v = some k) ∧ FrT sb v w w' := by
  rcases h with ⟨h1, _⟩ | ⟨ty', b', r', q, d, v', h1, _, _, _, h2, h3, h4, h5, h6⟩
  · rw [hn] at h1; cases h1
  · rw [hn] at h1
    simp only [Option.some.injEq, Prod.mk.injEq] at h1
    obtain ⟨rfl, rfl, rfl⟩ := h1
    exact ⟨q, d, v', h2, h3, h4, h5, h6⟩
theorem frNext_none {B sb : Nat} {t : Bool} {L : List UInt8} {most room : Nat} {wrong : Int} {v : Value} {w w' : World} {e : Ending} (h : NextR B sb t L most room wrong v w e w') (hn : nextL t most L wrong = none) :
    e = .returned (.tuple #[.agg #[.int .u8 0, .slice none 0 0], .bool false, .int .i64 (wrongL t most L wrong)]) ∧ FrO B w' sb t L most room (wrongL t most L wrong) v ∧ Touch (fun i => i = sb) w w' := by
  rcases h with ⟨_, h2, h3, h4⟩ | ⟨ty', b', r', q, d, v', h1, _⟩
  · exact ⟨h2, h3, h4⟩
  · rw [hn] at h1; cases h1

theorem aw1 : nextL true 100 ([] ++ [83, 0, 0]) 0 = none := by decide +kernel
theorem aw2 : wrongL true 100 ([] ++ [83, 0, 0]) 0 = 0 := by decide +kernel
theorem aw3 : nextL true 100 (([] ++ [83, 0, 0]) ++ [0, 4]) 0 = some (83, [], []) := by decide +kernel
theorem awA : (#[.int .u8 83, .int .u8 0, .int .u8 0] : Array Value).toList = bytesV [83, 0, 0] := by simp [bytesV, byteV]
theorem awB : (#[.int .u8 0, .int .u8 4] : Array Value).toList = bytesV [0, 4] := by simp [bytesV, byteV]

set_option maxRecDepth 100000 in
set_option maxHeartbeats 4000000 in
theorem frAwake (w : World) : Calls Try.prog 46 #[] w fun e w' => e = .returned (.bool true) ∧ Below w.heap.size w w' := by
  have hnew : Calls Try.prog 64 #[.int .i64 100, .int .i64 200, .bool false] w fun e w' =>
      e = .returned (.tuple #[.pointer (some ⟨w.heap.size, 0, none⟩), .int .i64 0]) ∧ FrO w.heap.size w' w.heap.size true [] 100 200 0 (.slice none 0 0) ∧ Below w.heap.size w w' := frNew_ok 100 200 false w (by omega) (by omega) (by omega) (by omega)
  have Hnew := Lib.hid hnew
  clear hnew
  go_enter Try.func46, Try.ntmps46
  go_wp2_with fail
  refine Hnew.out.mono ?_
  rintro e w1 ⟨rfl, hf1, hb1⟩
  have hz1 := hb1.size
  have HF1 := Lib.hid (hf1.alloc (.cells #[.int .u8 83, .int .u8 0, .int .u8 0] 5))
  have Hin1 := Lib.hid (BytesIn.newB w1 [83, 0, 0] _ 5 awA)
  have Hb1 := Lib.hid (hb1.alloc hz1 (.cells #[.int .u8 83, .int .u8 0, .int .u8 0] 5))
  clear hf1 hb1
  go_wp2_with fail
  generalize w1.alloc (.cells #[.int .u8 83, .int .u8 0, .int .u8 0] 5) = w2 at *
  refine (frFeed_ok _ _ true [] 100 200 0 _ (some ⟨w1.heap.size, 0, none⟩) [83, 0, 0] 3 w2 HF1.out (by omega) (by omega) (by simp) Hb1.out.size Hin1.out).mono ?_
  rintro e w3 ⟨v3, rfl, hf3, _, hT3⟩
  have HF3 := Lib.hid hf3
  have Hb3 := Lib.hid (Hb1.out.trans (frT_below HF1.out hT3 Hb1.out.size))
  clear hf3 hT3 HF1 Hin1
  go_wp2_with fail
  refine (frNext_any _ _ true _ 100 200 0 v3 w3 HF3.out (by omega) (by simp)).mono ?_
  rintro e w4 hn
  obtain ⟨rfl, hf4, hT4⟩ := frNext_none hn aw1
  rw [aw2] at hf4 ⊢
  have hb4 := Hb3.out.trans (frS_below HF3.out hT4 Hb3.out.size)
  have HF4 := Lib.hid ((hf4.alloc (.cells #[.int .u8 0, .slice none 0 0] 67)).alloc (.cells #[.int .u8 0, .int .u8 4] 5))
  have Hb4 := Lib.hid ((hb4.alloc hb4.size (.cells #[.int .u8 0, .slice none 0 0] 67)).alloc (by have := hb4.size; simp; omega) (.cells #[.int .u8 0, .int .u8 4] 5))
  have Hin4 := Lib.hid (BytesIn.newB (w4.alloc (.cells #[.int .u8 0, .slice none 0 0] 67)) [0, 4] _ 5 awB)
  have hz4 : (w4.alloc (.cells #[.int .u8 0, .slice none 0 0] 67)).heap.size = w4.heap.size + 1 := by simp
  rw [hz4] at Hin4
  clear hn hf4 hT4 hb4 hz4 HF3 Hb3
  go_wp2_with fail
  generalize (w4.alloc (.cells #[.int .u8 0, .slice none 0 0] 67)).alloc (.cells #[.int .u8 0, .int .u8 4] 5) = w5 at *
  refine (frFeed_ok _ _ true _ 100 200 0 _ (some ⟨w4.heap.size + 1, 0, none⟩) [0, 4] 2 w5 HF4.out (by omega) (by omega) (by simp) Hb4.out.size Hin4.out).mono ?_
  rintro e w6 ⟨v6, rfl, hf6, _, hT6⟩
  have HF6 := Lib.hid hf6
  have Hb6 := Lib.hid (Hb4.out.trans (frT_below HF4.out hT6 Hb4.out.size))
  clear hf6 hT6 HF4 Hin4
  go_wp2_with fail
  refine (frNext_any _ _ true _ 100 200 0 v6 w6 HF6.out (by omega) (by simp)).mono ?_
  rintro e w7 hn
  obtain ⟨q, d, v7, rfl, _, hf7, _, hT7⟩ := frNext_some hn aw3
  have hb7 := Hb6.out.trans (frT_below HF6.out hT7 Hb6.out.size)
  have HF7 := Lib.hid (hf7.alloc (.cells #[.int .u8 (83 : Nat), .slice q ([] : List UInt8).length d] 67))
  have Hb7 := Lib.hid (hb7.alloc hb7.size (.cells #[.int .u8 (83 : Nat), .slice q ([] : List UInt8).length d] 67))
  clear hn hf7 hT7 hb7 HF6 Hb6
  go_wp2_with fail
  refine (frSize_any _ _ true [] 100 200 0 v7 _ HF7.out (by omega)).mono ?_
  rintro e w8 ⟨rfl, rfl⟩
  go_wp2
  go_ret
  exact ⟨rfl, Hb7.out⟩

set_option maxRecDepth 100000 in
set_option maxHeartbeats 4000000 in
theorem frNobody_walk (p : Option Addr) (n c : Nat) (w : World) :
    Calls Try.prog 9 #[.slice p n c] w fun e w' => e = .returned (.bool true) ∧ Below w.heap.size w w' := by
  have hv := Blk.new w 65 #[.bool false, .slice none 0 0, .int .i64 0, .int .i64 0, .int .i64 0]
  have Hv := Lib.hid hv
  have Hb := Lib.hid ((Below.refl w.heap.size w).alloc (Nat.le_refl _) (.cells #[.bool false, .slice none 0 0, .int .i64 0, .int .i64 0, .int .i64 0] 65))
  clear hv
  go_enter Try.func9, Try.ntmps9
  go_wp2_with fail
  generalize w.alloc (.cells #[.bool false, .slice none 0 0, .int .i64 0, .int .i64 0, .int .i64 0] 65) = w1 at *
  refine (frBegin_nil w1).mono ?_
  rintro e w1' ⟨rfl, rfl⟩
  go_wp2_with fail
  refine (frBegin_zero w.heap.size _ _ _ _ w1 Hv.out.cell).mono ?_
  rintro e w1' ⟨rfl, rfl⟩
  go_wp2_with fail
  refine (frNext_nil w1).mono ?_
  rintro e w2 ⟨rfl, hb2⟩
  have hb2a := hb2.alloc hb2.size (.cells #[.int .u8 0, .slice none 0 0] 67)
  have Hv2 := Lib.hid (Hv.out.below hb2a Hv.out.lt)
  have Hb2 := Lib.hid (Hb.out.trans (hb2a.mono Hb.out.size))
  clear hb2 hb2a
  go_wp2_with fail
  generalize w2.alloc (.cells #[.int .u8 0, .slice none 0 0] 67) = w3 at *
  refine (frPeek_zero w.heap.size _ _ _ _ w3 Hv2.out.cell Hv2.out.lt).mono ?_
  rintro e w4 ⟨rfl, hb4⟩
  have hb4a := hb4.alloc hb4.size (.cells #[.int .u8 0, .slice none 0 0] 67)
  have Hv4 := Lib.hid (Hv2.out.below hb4a Hv2.out.lt)
  have Hb4 := Lib.hid (Hb2.out.trans (hb4a.mono Hb2.out.size))
  clear hb4 hb4a
  go_wp2_with fail
  generalize w4.alloc (.cells #[.int .u8 0, .slice none 0 0] 67) = w5 at *
  refine (frFeed_nil _ w5).mono ?_
  rintro e w5' ⟨rfl, rfl⟩
  go_wp2_with fail
  refine (frFeed_zero w.heap.size _ _ _ _ _ w5 Hv4.out.cell).mono ?_
  rintro e w5' ⟨rfl, rfl⟩
  go_wp2_with fail
  refine (frSize_nil w5).mono ?_
  rintro e w5' ⟨rfl, rfl⟩
  go_wp2_with fail
  refine (frSize_zero w.heap.size _ _ _ _ w5 Hv4.out.cell).mono ?_
  rintro e w5' ⟨rfl, rfl⟩
  go_wp2_with fail
  refine (frAwake w5).mono ?_
  rintro e w6 ⟨rfl, hb6⟩
  have Hb6 := Lib.hid (Hb4.out.trans (hb6.mono Hb4.out.size))
  clear hb6
  go_wp2
  go_ret
  exact ⟨rfl, Hb6.out⟩

end Go.Proofs.Ytpdkoijgemgaiaa
