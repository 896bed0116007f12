/-
  A server without its client (layer 34): drain.Bytes, the document's Bytes.
-/
import Derived.Test.YtldjfmddjbdciaaDrB
namespace Go.Proofs.Ytldjfmddjbdciaa
open Go.RowKit
set_option linter.unusedVariables false
set_option linter.unusedSimpArgs false

set_option maxRecDepth 100000 in
set_option maxHeartbeats 4000000 in
theorem dbytes_S (w : World) : Calls Try.prog 21 #[.int .i64 2] w (BytR 2 w) := by
  have Hv : Hid (bytesD 2 = msgL 83 []) := Lib.hid rfl
  unfold BytR
  rw [Hv.out]
  go_enter Try.func21, Try.ntmps21
  go_wp2_with fail
  refine (message_S w).mono ?_
  rintro e w1 ⟨rfl, hb1⟩
  have HB1 := Lib.hid (hb1.alloc hb1.size (.cells #[.int .u8 83, .int .u8 0, .string ⟨#[]⟩, .string ⟨#[]⟩, .string ⟨#[]⟩, .slice none 0 0, .slice none 0 0, .slice none 0 0, .slice none 0 0, .int .i64 0] 44))
  have Ht := Lib.hid (told_S (w1.alloc (.cells #[.int .u8 83, .int .u8 0, .string ⟨#[]⟩, .string ⟨#[]⟩, .string ⟨#[]⟩, .slice none 0 0, .slice none 0 0, .slice none 0 0, .slice none 0 0, .int .i64 0] 44)))
  clear hb1
  go_wp2_with fail
  refine Ht.out.mono ?_
  rintro e w2 ⟨v2, rfl, ho2, hb2⟩
  obtain ⟨p2, c2, hv2, -, -, q2, -⟩ := OwnBR.slice ho2
  subst hv2
  have hB2 := HB1.out.trans (hb2.mono HB1.out.size)
  have HB2 := Lib.hid (hB2.alloc hB2.size (.cells #[.int .u8 83, .slice p2 ([] : List UInt8).length c2] 47))
  have Hf := Lib.hid (frame83 p2 [] c2 _ (q2.alloc (.cells #[.int .u8 83, .slice p2 ([] : List UInt8).length c2] 47)) (by simp))
  simp only [List.length_nil, List.length_cons, Nat.zero_add, Nat.reduceAdd] at HB2 Hf ⊢
  clear ho2 hb2 q2 hB2
  go_wp2_with fail
  refine Hf.out.mono ?_
  rintro e w3 ⟨v3, rfl, ho3, hb3⟩
  have Ho3 := Lib.hid (OwnR.base ho3 HB2.out.size)
  have HB3 := Lib.hid (HB2.out.trans (hb3.mono HB2.out.size))
  clear ho3 hb3
  go_wp2_with fail
  go_ret
  exact ⟨_, rfl, Ho3.out, HB3.out⟩

set_option maxRecDepth 100000 in
set_option maxHeartbeats 4000000 in
theorem rdbytes_S (w : World) : Calls Try.prog 22 #[.int .i64 2] w (BytR 2 w) := by
  have Hv : Hid (bytesD 2 = msgL 83 []) := Lib.hid rfl
  unfold BytR
  rw [Hv.out]
  have hA : Below w.heap.size w (w.alloc (.cells #[.int .u8 83, .int .u8 0, .string ⟨#[]⟩, .string ⟨#[]⟩, .string ⟨#[]⟩, .slice none 0 0, .slice none 0 0, .slice none 0 0, .slice none 0 0, .int .i64 0] 44)) := (Below.refl _ _).alloc (Nat.le_refl _) _
  have HA := Lib.hid hA
  have Ht := Lib.hid (rtold_S (w.alloc (.cells #[.int .u8 83, .int .u8 0, .string ⟨#[]⟩, .string ⟨#[]⟩, .string ⟨#[]⟩, .slice none 0 0, .slice none 0 0, .slice none 0 0, .slice none 0 0, .int .i64 0] 44)))
  clear hA
  go_enter Try.func22, Try.ntmps22
  go_wp2_with fail
  refine Ht.out.mono ?_
  rintro e w2 ⟨v2, rfl, ho2, hb2⟩
  obtain ⟨p2, c2, hv2, -, -, q2, -⟩ := OwnBR.slice ho2
  subst hv2
  have hB2 := HA.out.trans (hb2.mono HA.out.size)
  have HB2 := Lib.hid (hB2.alloc hB2.size (.cells #[.int .u8 83, .slice p2 ([] : List UInt8).length c2] 47))
  have Hf := Lib.hid (rframe83 p2 [] c2 _ (q2.alloc (.cells #[.int .u8 83, .slice p2 ([] : List UInt8).length c2] 47)) (by simp))
  simp only [List.length_nil, List.length_cons, Nat.zero_add, Nat.reduceAdd] at HB2 Hf ⊢
  clear ho2 hb2 q2 hB2
  go_wp2_with fail
  refine Hf.out.mono ?_
  rintro e w3 ⟨v3, rfl, ho3, hb3⟩
  have Ho3 := Lib.hid (OwnR.base ho3 HB2.out.size)
  have HB3 := Lib.hid (HB2.out.trans (hb3.mono HB2.out.size))
  clear ho3 hb3
  go_wp2_with fail
  go_ret
  exact ⟨_, rfl, Ho3.out, HB3.out⟩

set_option maxRecDepth 100000 in
set_option maxHeartbeats 4000000 in
theorem dbytes_R (w : World) : Calls Try.prog 21 #[.int .i64 3] w (BytR 3 w) := by
  have Hv : Hid (bytesD 3 = msgL 81 [114, 111, 108, 108, 98, 97, 99, 107, 0]) := Lib.hid rfl
  unfold BytR
  rw [Hv.out]
  go_enter Try.func21, Try.ntmps21
  go_wp2_with fail
  refine (message_R w).mono ?_
  rintro e w1 ⟨rfl, hb1⟩
  have HB1 := Lib.hid (hb1.alloc hb1.size (.cells #[.int .u8 81, .int .u8 0, .string ⟨#[]⟩, .string ⟨#[]⟩, .string ⟨#[114, 111, 108, 108, 98, 97, 99, 107]⟩, .slice none 0 0, .slice none 0 0, .slice none 0 0, .slice none 0 0, .int .i64 0] 44))
  have Ht := Lib.hid (told_R (w1.alloc (.cells #[.int .u8 81, .int .u8 0, .string ⟨#[]⟩, .string ⟨#[]⟩, .string ⟨#[114, 111, 108, 108, 98, 97, 99, 107]⟩, .slice none 0 0, .slice none 0 0, .slice none 0 0, .slice none 0 0, .int .i64 0] 44)))
  clear hb1
  go_wp2_with fail
  refine Ht.out.mono ?_
  rintro e w2 ⟨v2, rfl, ho2, hb2⟩
  obtain ⟨p2, c2, hv2, -, -, q2, -⟩ := OwnBR.slice ho2
  subst hv2
  have hB2 := HB1.out.trans (hb2.mono HB1.out.size)
  have HB2 := Lib.hid (hB2.alloc hB2.size (.cells #[.int .u8 81, .slice p2 ([114, 111, 108, 108, 98, 97, 99, 107, 0] : List UInt8).length c2] 47))
  have Hf := Lib.hid (frame81 p2 [114, 111, 108, 108, 98, 97, 99, 107, 0] c2 _ (q2.alloc (.cells #[.int .u8 81, .slice p2 ([114, 111, 108, 108, 98, 97, 99, 107, 0] : List UInt8).length c2] 47)) (by simp))
  simp only [List.length_nil, List.length_cons, Nat.zero_add, Nat.reduceAdd] at HB2 Hf ⊢
  clear ho2 hb2 q2 hB2
  go_wp2_with fail
  refine Hf.out.mono ?_
  rintro e w3 ⟨v3, rfl, ho3, hb3⟩
  have Ho3 := Lib.hid (OwnR.base ho3 HB2.out.size)
  have HB3 := Lib.hid (HB2.out.trans (hb3.mono HB2.out.size))
  clear ho3 hb3
  go_wp2_with fail
  go_ret
  exact ⟨_, rfl, Ho3.out, HB3.out⟩

set_option maxRecDepth 100000 in
set_option maxHeartbeats 4000000 in
theorem rdbytes_R (w : World) : Calls Try.prog 22 #[.int .i64 3] w (BytR 3 w) := by
  have Hv : Hid (bytesD 3 = msgL 81 [114, 111, 108, 108, 98, 97, 99, 107, 0]) := Lib.hid rfl
  unfold BytR
  rw [Hv.out]
  have hA : Below w.heap.size w (w.alloc (.cells #[.int .u8 81, .int .u8 0, .string ⟨#[]⟩, .string ⟨#[]⟩, .string ⟨#[114, 111, 108, 108, 98, 97, 99, 107]⟩, .slice none 0 0, .slice none 0 0, .slice none 0 0, .slice none 0 0, .int .i64 0] 44)) := (Below.refl _ _).alloc (Nat.le_refl _) _
  have HA := Lib.hid hA
  have Ht := Lib.hid (rtold_R (w.alloc (.cells #[.int .u8 81, .int .u8 0, .string ⟨#[]⟩, .string ⟨#[]⟩, .string ⟨#[114, 111, 108, 108, 98, 97, 99, 107]⟩, .slice none 0 0, .slice none 0 0, .slice none 0 0, .slice none 0 0, .int .i64 0] 44)))
  clear hA
  go_enter Try.func22, Try.ntmps22
  go_wp2_with fail
  refine Ht.out.mono ?_
  rintro e w2 ⟨v2, rfl, ho2, hb2⟩
  obtain ⟨p2, c2, hv2, -, -, q2, -⟩ := OwnBR.slice ho2
  subst hv2
  have hB2 := HA.out.trans (hb2.mono HA.out.size)
  have HB2 := Lib.hid (hB2.alloc hB2.size (.cells #[.int .u8 81, .slice p2 ([114, 111, 108, 108, 98, 97, 99, 107, 0] : List UInt8).length c2] 47))
  have Hf := Lib.hid (rframe81 p2 [114, 111, 108, 108, 98, 97, 99, 107, 0] c2 _ (q2.alloc (.cells #[.int .u8 81, .slice p2 ([114, 111, 108, 108, 98, 97, 99, 107, 0] : List UInt8).length c2] 47)) (by simp))
  simp only [List.length_nil, List.length_cons, Nat.zero_add, Nat.reduceAdd] at HB2 Hf ⊢
  clear ho2 hb2 q2 hB2
  go_wp2_with fail
  refine Hf.out.mono ?_
  rintro e w3 ⟨v3, rfl, ho3, hb3⟩
  have Ho3 := Lib.hid (OwnR.base ho3 HB2.out.size)
  have HB3 := Lib.hid (HB2.out.trans (hb3.mono HB2.out.size))
  clear ho3 hb3
  go_wp2_with fail
  go_ret
  exact ⟨_, rfl, Ho3.out, HB3.out⟩

set_option maxRecDepth 100000 in
theorem dbytes_O (p : Int) (h2 : p ≠ 2) (h3 : p ≠ 3) (w : World) : Calls Try.prog 21 #[.int .i64 p] w (BytR p w) := by
  have Hv : Hid (bytesD p = []) := Lib.hid (by unfold bytesD; rw [if_neg h2, if_neg h3])
  unfold BytR
  rw [Hv.out]
  have Hm := Lib.hid (message_O p h2 h3 w)
  clear h2 h3
  go_enter Try.func21, Try.ntmps21
  go_wp2_with fail
  refine Hm.out.mono ?_
  rintro e w1 ⟨rfl, hb1⟩
  have HB1 := Lib.hid (fun cs : Array Value => hb1.alloc hb1.size (.cells cs 44))
  clear hb1
  go_wp2_with fail
  go_ret
  exact ⟨_, rfl, OwnBR.empty _ _ _, HB1.out _⟩

set_option maxRecDepth 100000 in
theorem rdbytes_O (p : Int) (h2 : p ≠ 2) (h3 : p ≠ 3) (w : World) : Calls Try.prog 22 #[.int .i64 p] w (BytR p w) := by
  have Hv : Hid (bytesD p = []) := Lib.hid (by unfold bytesD; rw [if_neg h2, if_neg h3])
  unfold BytR
  rw [Hv.out]
  have g2 : (p == 2) = false := by simpa using h2
  have g3 : (p == 3) = false := by simpa using h3
  have HB := Lib.hid (fun cs : Array Value => (Below.refl w.heap.size w).alloc (Nat.le_refl _) (.cells cs 44))
  clear h2 h3
  go_enter Try.func22, Try.ntmps22
  go_wp2_with fail
  go_ret
  exact ⟨_, rfl, OwnBR.empty _ _ _, HB.out _⟩

theorem dbytes_any (p : Int) (w : World) : Calls Try.prog 21 #[.int .i64 p] w (BytR p w) := by
  by_cases h2 : p = 2
  · subst h2; exact dbytes_S w
  · by_cases h3 : p = 3
    · subst h3; exact dbytes_R w
    · exact dbytes_O p h2 h3 w
theorem rdbytes_any (p : Int) (w : World) : Calls Try.prog 22 #[.int .i64 p] w (BytR p w) := by
  by_cases h2 : p = 2
  · subst h2; exact rdbytes_S w
  · by_cases h3 : p = 3
    · subst h3; exact rdbytes_R w
    · exact rdbytes_O p h2 h3 w

theorem bytesD2_len : (bytesD 2).length = 5 := by decide +kernel

set_option maxRecDepth 100000 in
theorem drAwake (w : World) : Calls Try.prog 23 #[] w fun e w' => e = .returned (.bool true) ∧ Below w.heap.size w w' := by
  have h1 : planV 84 0 false false false = 3 := by decide
  have h2 : planV 73 0 false false false = 0 := by decide
  have Hp1 := Lib.hid (plan_any 84 0 false false false w)
  have Hp2 := Lib.hid (fun w0 => plan_any 73 0 false false false w0)
  have Hd := Lib.hid (fun w0 => dbytes_any 2 w0)
  have Hl := Lib.hid bytesD2_len
  rw [h1] at Hp1
  rw [h2] at Hp2
  unfold BytR at Hd
  clear h1 h2
  go_enter Try.func23, Try.ntmps23
  go_wp2_with fail
  refine Hp1.out.mono ?_
  rintro e w1 ⟨rfl, hb1⟩
  have HB1 := Lib.hid hb1
  clear hb1
  go_wp2_with fail
  refine (Hp2.out _).mono ?_
  rintro e w2 ⟨rfl, hb2⟩
  have HB2 := Lib.hid (HB1.out.trans (hb2.mono HB1.out.size))
  clear hb2
  go_wp2_with fail
  refine (Hd.out _).mono ?_
  rintro e w3 ⟨v3, rfl, ho3, hb3⟩
  have HB3 := Lib.hid (HB2.out.trans (hb3.mono HB2.out.size))
  obtain ⟨p3, c3, hv3, -⟩ := OwnBR.slice ho3
  subst hv3
  rw [Hl.out]
  clear ho3 hb3
  go_wp2_with fail
  go_ret
  exact ⟨rfl, HB3.out⟩

end Go.Proofs.Ytldjfmddjbdciaa
