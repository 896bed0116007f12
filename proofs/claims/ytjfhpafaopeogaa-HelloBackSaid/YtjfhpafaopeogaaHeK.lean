/-
  First messages (layer 5): hello.Build whole.
-/
import Derived.Test.YtjfhpafaopeogaaHeJ
namespace Go.Proofs.Ytjfhpafaopeogaa
open Go.RowKit
set_option linter.unusedVariables false
set_option linter.unusedSimpArgs false

set_option maxRecDepth 100000 in
set_option maxHeartbeats 4000000 in
theorem build_no (S : Nat → Prop) (h : HelV) (p : Option Addr) (c : Nat) (w : World) (hs : SliceS 2 PrS S w [.slice p h.params.length c] h.params) (hm : mayV h = false) :
    Calls Try.prog 53 #[helArg h p c] w (BuildR h w) := by
  obtain ⟨hb, hs1, hw⟩ := hel_box hs
  have HM := Lib.hid (fun w0 hs0 => may_any S h p c w0 hs0)
  rw [hm] at HM
  have Hv : Hid (buildV h = ([], 1)) := Lib.hid (by unfold buildV; rw [hm]; rfl)
  have Hw := Lib.hid hw
  have Hs0 := Lib.hid hs
  have Hs1 := Lib.hid hs1
  have Hb := Lib.hid hb
  have hmany := parsB_many h.params
  unfold BuildR
  generalize buildV h = bv at *
  obtain ⟨hc0, hc1, hc2, L⟩ := h
  dsimp only at *
  skip
  obtain ⟨-, hlc, hcm⟩ := hs.len
  unfold maxLen at hcm
  unfold helArg helCells at *
  dsimp only at *
  clear hs hs1 hb hw hm
  go_enter Try.func53, Try.ntmps53
  go_upto_region 1 with (fail)
  have hlt := Hb.out.lt
  generalize w.alloc (.cells #[.int .i64 hc0, .int .i64 hc1, .int .i64 hc2, .slice p L.length c] 94) = w1 at *
  have hc := Hb.out.cell
  go_wp2_with fail
  refine (HM.out w1 Hs1.out).mono ?_
  rintro e w2 ⟨rfl, hb2⟩
  have hsz2 := hb2.size
  have hcw : ∀ i, w2.cell? ⟨w.heap.size, i, none⟩ = (#[.int .i64 hc0, .int .i64 hc1, .int .i64 hc2, .slice p L.length c] : Array Value)[i]? := (Hb.out.below hb2 hlt).cell
  have Hb2 := Lib.hid (Hb.out.below hb2 hlt)
  have HW2 := Lib.hid (Hw.out.trans (hb2.mono Hw.out.size))
  clear hc hb2
  go_wp2_with fail
  go_ret2
  rw [Hv.out]
  exact ⟨_, rfl, OwnBR.empty _ _ _, HW2.out⟩

set_option maxRecDepth 100000 in
set_option maxHeartbeats 4000000 in
theorem build_ssl (S : Nat → Prop) (h : HelV) (p : Option Addr) (c : Nat) (w : World) (hs : SliceS 2 PrS S w [.slice p h.params.length c] h.params) (hm : mayV h = true) (h1 : h.code = 80877103) :
    Calls Try.prog 53 #[helArg h p c] w (BuildR h w) := by
  obtain ⟨hb, hs1, hw⟩ := hel_box hs
  have HM := Lib.hid (fun w0 hs0 => may_any S h p c w0 hs0)
  rw [hm] at HM
  have Hv : Hid (buildV h = (putV [] 80877103 4, 0)) := Lib.hid (by unfold buildV bodyV; rw [if_pos hm, h1]; simp)
  have Hw := Lib.hid hw
  have Hs0 := Lib.hid hs
  have Hs1 := Lib.hid hs1
  have Hb := Lib.hid hb
  have hmany := parsB_many h.params
  unfold BuildR
  generalize buildV h = bv at *
  obtain ⟨hc0, hc1, hc2, L⟩ := h
  dsimp only at *
  subst h1
  obtain ⟨-, hlc, hcm⟩ := hs.len
  unfold maxLen at hcm
  unfold helArg helCells at *
  dsimp only at *
  clear hs hs1 hb hw hm
  go_enter Try.func53, Try.ntmps53
  go_upto_region 1 with (fail)
  have hlt := Hb.out.lt
  generalize w.alloc (.cells #[.int .i64 80877103, .int .i64 hc1, .int .i64 hc2, .slice p L.length c] 94) = w1 at *
  have hc := Hb.out.cell
  go_wp2_with fail
  refine (HM.out w1 Hs1.out).mono ?_
  rintro e w2 ⟨rfl, hb2⟩
  have hsz2 := hb2.size
  have hcw : ∀ i, w2.cell? ⟨w.heap.size, i, none⟩ = (#[.int .i64 80877103, .int .i64 hc1, .int .i64 hc2, .slice p L.length c] : Array Value)[i]? := (Hb.out.below hb2 hlt).cell
  have Hb2 := Lib.hid (Hb.out.below hb2 hlt)
  have HW2 := Lib.hid (Hw.out.trans (hb2.mono Hw.out.size))
  clear hc hb2
  have Hp := Lib.hid (put_any none [] 0 80877103 4 w2 (by simp) (BytesIn.nil _ _))
  go_wp2_with fail
  refine Hp.out.mono ?_
  rintro e w3 ⟨v3, rfl, ho3, hb3⟩
  have hsz3 := hb3.size
  have Ho3 : Hid (OwnBR w.heap.size w3 v3 _) := Lib.hid (OwnR.base (OwnBR.of ho3) (show w.heap.size ≤ w2.heap.size by omega))
  have hcw3 : ∀ i, w3.cell? ⟨w.heap.size, i, none⟩ = (#[.int .i64 80877103, .int .i64 hc1, .int .i64 hc2, .slice p L.length c] : Array Value)[i]? := (Hb2.out.below hb3 (by omega)).cell
  have Hb3 := Lib.hid (Hb2.out.below hb3 (by omega))
  have HW3 := Lib.hid (HW2.out.trans (hb3.mono HW2.out.size))
  clear hb3 ho3 hcw Hp
  go_wp2_with fail
  go_ret2
  rw [Hv.out]
  exact ⟨_, rfl, Ho3.out, HW3.out⟩

set_option maxRecDepth 100000 in
set_option maxHeartbeats 4000000 in
theorem build_cancel (S : Nat → Prop) (h : HelV) (p : Option Addr) (c : Nat) (w : World) (hs : SliceS 2 PrS S w [.slice p h.params.length c] h.params) (hm : mayV h = true) (h1 : h.code = 80877102) :
    Calls Try.prog 53 #[helArg h p c] w (BuildR h w) := by
  obtain ⟨hb, hs1, hw⟩ := hel_box hs
  have HM := Lib.hid (fun w0 hs0 => may_any S h p c w0 hs0)
  rw [hm] at HM
  have Hv : Hid (buildV h = (putV (putV (putV [] 80877102 4) h.process 4) h.secret 4, 0)) := Lib.hid (by unfold buildV bodyV; rw [if_pos hm, h1]; simp)
  have Hw := Lib.hid hw
  have Hs0 := Lib.hid hs
  have Hs1 := Lib.hid hs1
  have Hb := Lib.hid hb
  have hmany := parsB_many h.params
  unfold BuildR
  generalize buildV h = bv at *
  obtain ⟨hc0, hc1, hc2, L⟩ := h
  dsimp only at *
  subst h1
  obtain ⟨-, hlc, hcm⟩ := hs.len
  unfold maxLen at hcm
  unfold helArg helCells at *
  dsimp only at *
  clear hs hs1 hb hw hm
  go_enter Try.func53, Try.ntmps53
  go_upto_region 1 with (fail)
  have hlt := Hb.out.lt
  generalize w.alloc (.cells #[.int .i64 80877102, .int .i64 hc1, .int .i64 hc2, .slice p L.length c] 94) = w1 at *
  have hc := Hb.out.cell
  go_wp2_with fail
  refine (HM.out w1 Hs1.out).mono ?_
  rintro e w2 ⟨rfl, hb2⟩
  have hsz2 := hb2.size
  have hcw : ∀ i, w2.cell? ⟨w.heap.size, i, none⟩ = (#[.int .i64 80877102, .int .i64 hc1, .int .i64 hc2, .slice p L.length c] : Array Value)[i]? := (Hb.out.below hb2 hlt).cell
  have Hb2 := Lib.hid (Hb.out.below hb2 hlt)
  have HW2 := Lib.hid (Hw.out.trans (hb2.mono Hw.out.size))
  clear hc hb2
  have Hp := Lib.hid (put_any none [] 0 80877102 4 w2 (by simp) (BytesIn.nil _ _))
  go_wp2_with fail
  refine Hp.out.mono ?_
  rintro e w3 ⟨v3, rfl, ho3, hb3⟩
  have hsz3 := hb3.size
  have Ho3 : Hid (OwnBR w.heap.size w3 v3 _) := Lib.hid (OwnR.base (OwnBR.of ho3) (show w.heap.size ≤ w2.heap.size by omega))
  have hcw3 : ∀ i, w3.cell? ⟨w.heap.size, i, none⟩ = (#[.int .i64 80877102, .int .i64 hc1, .int .i64 hc2, .slice p L.length c] : Array Value)[i]? := (Hb2.out.below hb3 (by omega)).cell
  have Hb3 := Lib.hid (Hb2.out.below hb3 (by omega))
  have HW3 := Lib.hid (HW2.out.trans (hb3.mono HW2.out.size))
  clear hb3 ho3 hcw Hp
  have hl3 := putV_len4 [] 80877102 4
  have hl4 := putV_len4 (putV [] 80877102 4) hc1 4
  simp only [List.length_nil] at hl3
  obtain ⟨p3, c3, hv3, k3, m3, q3, -⟩ := Ho3.out.slice
  subst hv3
  have Hp2 := Lib.hid (put_any p3 (putV [] 80877102 4) c3 hc1 4 w3 (by omega) q3)
  have Hq3 := Lib.hid q3
  clear q3
  generalize (putV [] 80877102 4).length = n3 at *
  go_wp2_with fail
  refine Hp2.out.mono ?_
  rintro e w4 ⟨v4, rfl, ho4, hb4⟩
  have hsz4 := hb4.size
  have hcw4 : ∀ i, w4.cell? ⟨w.heap.size, i, none⟩ = (#[.int .i64 80877102, .int .i64 hc1, .int .i64 hc2, .slice p L.length c] : Array Value)[i]? := (Hb3.out.below hb4 (by omega)).cell
  have HW4 := Lib.hid (HW3.out.trans (hb4.mono HW3.out.size))
  have Ho4 := Lib.hid (OwnBR.of ho4)
  clear hb4 ho4 hcw3
  obtain ⟨p4, c4, hv4, k4, m4, q4, -⟩ := Ho4.out.slice
  subst hv4
  have Hp3 := Lib.hid (put_any p4 (putV (putV [] 80877102 4) hc1 4) c4 hc2 4 w4 (by omega) q4)
  clear q4
  generalize (putV (putV [] 80877102 4) hc1 4).length = n4 at *
  go_wp2_with fail
  refine Hp3.out.mono ?_
  rintro e w5 ⟨v5, rfl, ho5, hb5⟩
  have HW5 := Lib.hid (HW4.out.trans (hb5.mono HW4.out.size))
  have Ho5 : Hid (OwnBR w.heap.size w5 v5 _) := Lib.hid (OwnR.base (OwnBR.of ho5) (show w.heap.size ≤ w4.heap.size by omega))
  clear hb5 ho5 hcw4
  go_wp2_with fail
  go_ret2
  rw [Hv.out]
  exact ⟨_, rfl, Ho5.out, HW5.out⟩

theorem may_code {h : HelV} (hm : mayV h = true) : h.code = 196608 ∨ h.code = 80877102 ∨ h.code = 80877103 := by
  unfold mayV kindV at hm
  by_cases h1 : h.code = 196608
  · exact .inl h1
  · by_cases h2 : h.code = 80877102
    · exact .inr (.inl h2)
    · by_cases h3 : h.code = 80877103
      · exact .inr (.inr h3)
      · rw [if_neg h1, if_neg h3, if_neg h2] at hm
        simp at hm

theorem build_any (S : Nat → Prop) (h : HelV) (p : Option Addr) (c : Nat) (w : World) (hs : SliceS 2 PrS S w [.slice p h.params.length c] h.params) (hl : (parsB h.params).length ≤ 100000) :
    Calls Try.prog 53 #[helArg h p c] w (BuildR h w) := by
  cases hm : mayV h with
  | false => exact build_no S h p c w hs hm
  | true =>
    rcases may_code hm with h1 | h1 | h1
    · exact build_version S h p c w hs hl hm h1
    · exact build_cancel S h p c w hs hm h1
    · exact build_ssl S h p c w hs hm h1

end Go.Proofs.Ytjfhpafaopeogaa
