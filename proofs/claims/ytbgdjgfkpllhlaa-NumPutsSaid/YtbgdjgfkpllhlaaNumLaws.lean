/-
  The walks of the statements of layer 1 (num).
-/
import Derived.Test.YtbgdjgfkpllhlaaNumE
namespace Go.Proofs.Ytbgdjgfkpllhlaa
open Go.RowKit

theorem BytesIn.newB (w : World) (l : List UInt8) (cs : Array Value) (e : TypeId) (h : cs.toList = bytesV l) : BytesIn (w.alloc (.cells cs e)) (some ⟨w.heap.size, 0, none⟩) l := by
  intro i hi
  refine ⟨_, _, rfl, ?_⟩
  rw [Nat.zero_add]
  have : cs[i]? = some (byteV (l.getD i 0)) := by
    rw [← Array.getElem?_toList, h]
    simp [bytesV, List.getD, hi]
  simpa [byteV] using this

theorem BytesIn.below {w w' : World} {p : Option Addr} {l : List UInt8} (h : BytesIn w p l) (hb : Below w.heap.size w w') : BytesIn w' p l := by
  intro i hi
  obtain ⟨b, o, e, hc⟩ := h i hi
  refine ⟨b, o, e, ?_⟩
  rw [hb.cell (p := ⟨b, o + i, none⟩) (World.block_lt_of_cell? w _ hc)]
  exact hc

set_option maxHeartbeats 1000000 in
theorem numAwake (w : World) :
    Calls Try.prog 8 #[] w fun e w' => e = .returned (.bool true) ∧ Below w.heap.size w w' := by
  go_enter Try.func8, Try.ntmps8
  go_wp2_with (first
    | (go_at_call 9; refine (get_any _ [9, 1, 2] _ _ _ _ (by decide) (by decide) (BytesIn.newB _ _ _ _ rfl)).mono ?_; rintro e w' ⟨rfl, rfl⟩; rw [show getV [9, 1, 2] 1 2 = (258, 0) from rfl])
    | (go_at_call 15; refine (put_any none [] 0 (-1) 2 _ (by simp) (BytesIn.nil _ _)).mono ?_; rintro e w1 ⟨v, rfl, hown, hb1⟩; rw [show putV [] (-1) 2 = [255, 255] from by decide] at hown; obtain ⟨p, c, rfl, hlc, hcm, hin⟩ := hown.slice)
    | (go_at_call 22; refine (equal_any _ _ [255, 255] [255, 255] _ _ _ (hin.alloc _) (BytesIn.newB _ _ _ _ rfl)).mono ?_; rintro e w' ⟨rfl, rfl⟩)
    | (go_at_call 11; refine (signed_any _ _ _).mono ?_; rintro e w' ⟨rfl, rfl⟩; rw [show signedV 65535 2 = -1 from by decide]))
  go_ret
  refine ⟨rfl, ?_⟩
  have hs := hb1.size
  simp only [World.size_alloc] at hs hb1
  exact (((Below.refl _ _).alloc (Nat.le_refl _) _).trans (hb1.mono (by omega))).alloc (by omega) _

set_option maxHeartbeats 1000000 in
theorem numGets_walk (p : Option Addr) (l : List UInt8) (cap : Nat) (a1 a2 a3 : Int) (w : World) (hl : l.length ≤ cap) (hc : cap ≤ maxLen) (hb : BytesIn w p l)
    (_w1 : (Lit.int .i64 a1).wf = true) (_w2 : (Lit.int .i64 a2).wf = true) (_w3 : (Lit.int .i64 a3).wf = true) :
    Calls Try.prog 3 #[.slice p l.length cap, .int .i64 a1, .int .i64 a2, .int .i64 a3] w fun e w' => e = .returned (.bool true) ∧ Below w.heap.size w w' := by
  have Hb := Lib.hid hb
  clear hb
  by_cases hlong : 2000 < l.length
  · go_enter Try.func3, Try.ntmps3
    go_wp2_with (first | (go_at_call 8; refine (numAwake _).mono ?_; rintro e w' ⟨rfl, hb1⟩))
    go_ret
    exact ⟨rfl, hb1⟩
  · go_enter Try.func3, Try.ntmps3
    go_wp2_with (first
      | (go_at_call 8; refine (numAwake _).mono ?_; rintro e w' ⟨rfl, hb1⟩)
      | (go_at_call 9; refine (get_any _ l _ _ _ _ hl hc Hb.out).mono ?_; rintro e w' ⟨rfl, rfl⟩)
      | (go_at_call 10; refine (getR_any _ l _ _ _ _ hl hc Hb.out).mono ?_; rintro e w' ⟨rfl, rfl⟩)
      | (go_at_call 11; refine (signed_any _ _ _).mono ?_; rintro e w' ⟨rfl, rfl⟩)
      | (go_at_call 12; refine (signedR_any _ _ _).mono ?_; rintro e w' ⟨rfl, rfl⟩)
      | (go_at_call 13; refine (right_any _ _ _).mono ?_; rintro e w' ⟨rfl, rfl⟩)
      | (go_at_call 14; refine (rightR_any _ _ _).mono ?_; rintro e w' ⟨rfl, rfl⟩))
    go_ret
    exact ⟨rfl, hb1⟩

set_option maxHeartbeats 1000000 in
theorem numPuts_walk (p : Option Addr) (l : List UInt8) (cap : Nat) (a1 a2 : Int) (w : World) (_hl : l.length ≤ cap) (_hc : cap ≤ maxLen) (hb : BytesIn w p l)
    (_w1 : (Lit.int .i64 a1).wf = true) (_w2 : (Lit.int .i64 a2).wf = true) :
    Calls Try.prog 7 #[.slice p l.length cap, .int .i64 a1, .int .i64 a2] w fun e w' => e = .returned (.bool true) ∧ Below w.heap.size w w' := by
  have Hb := Lib.hid hb
  clear hb
  by_cases hlong : 2000 < l.length
  · go_enter Try.func7, Try.ntmps7
    go_wp2_with (first | (go_at_call 8; refine (numAwake _).mono ?_; rintro e w' ⟨rfl, hb1⟩))
    go_ret
    exact ⟨rfl, hb1⟩
  · have e1 : (putV l a1 a2 == putV l a1 a2) = true := by simp
    have e2 : (l == l) = true := by simp
    have E1 := Lib.hid e1
    have E2 := Lib.hid e2
    clear e1 e2
    go_enter Try.func7, Try.ntmps7
    go_wp2_with fail
    refine (clone_any _ l _ _ (by omega) Hb.out).mono ?_
    rintro e w1 ⟨v1, rfl, hown1, hb1⟩
    obtain ⟨p1, c1, rfl, hc1, hm1, hin1⟩ := hown1.slice
    have Hin1 := Lib.hid hin1
    have Hb2 := Lib.hid (Hb.out.below hb1)
    clear hown1 hin1 hc1 hm1
    go_wp2_with fail
    refine (put_any _ l _ _ _ _ (by omega) Hb2.out).mono ?_
    rintro e w2 ⟨v2, rfl, hown2, hb2⟩
    obtain ⟨p2, c2, rfl, hc2, hm2, hin2⟩ := hown2.slice
    have Hin2 := Lib.hid hin2
    have Hb3 := Lib.hid (Hb2.out.below hb2)
    clear hown2 hin2 hc2 hm2
    go_wp2_with fail
    refine (putR_any _ l _ _ _ _ (by omega) Hb3.out).mono ?_
    rintro e w3 ⟨v3, rfl, hown3, hb3⟩
    obtain ⟨p3, c3, rfl, hc3, hm3, hin3⟩ := hown3.slice
    have Hin3 := Lib.hid hin3
    have Hb4 := Lib.hid (Hb3.out.below hb3)
    clear hown3 hin3 hc3 hm3
    go_wp2_with fail
    refine (equal_any _ _ _ _ _ _ _ (Hin2.out.below hb3) Hin3.out).mono ?_
    rintro e w' ⟨rfl, rfl⟩
    rw [E1.out]
    go_wp2_with fail
    refine (equal_any _ _ _ _ _ _ _ Hb4.out ((Hin1.out.below hb2).below hb3)).mono ?_
    rintro e w' ⟨rfl, rfl⟩
    rw [E2.out]
    go_wp2_with fail
    refine (numAwake _).mono ?_
    rintro e w4 ⟨rfl, hb4⟩
    go_wp2
    go_ret
    have s1 := hb1.size
    have s2 := hb2.size
    have s3 := hb3.size
    exact ⟨rfl, ((hb1.trans (hb2.mono s1)).trans (hb3.mono (by omega))).trans (hb4.mono (by omega))⟩

theorem be_putB (n : Int) (z : Nat) (hz : z = 1 ∨ z = 2 ∨ z = 4) : be (putB n z z) = n % 2 ^ (8 * z) := by
  rcases hz with rfl | rfl | rfl
  · have h0 := putAt_shr n 1 0 (by omega) (by omega)
    simp [putB, be, List.range_succ] at *
    omega
  · have h0 := putAt_shr n 2 0 (by omega) (by omega)
    have h1 := putAt_shr n 2 1 (by omega) (by omega)
    simp [putB, be, List.range_succ] at *
    omega
  · have h0 := putAt_shr n 4 0 (by omega) (by omega)
    have h1 := putAt_shr n 4 1 (by omega) (by omega)
    have h2 := putAt_shr n 4 2 (by omega) (by omega)
    have h3 := putAt_shr n 4 3 (by omega) (by omega)
    simp [putB, be, List.range_succ] at *
    omega

theorem getV_putV (l : List UInt8) (n size : Int) (h : rightB n size = true) : getV (putV l n size) l.length size = (n % 2 ^ (8 * size.toNat), 0) := by
  have hs : sizedB size = true := by unfold rightB at h; simp at h; exact h.1
  have hsz := sizedB_cases hs
  obtain ⟨z, rfl⟩ := Int.eq_ofNat_of_zero_le (show 0 ≤ size by omega)
  have hV : putV l n z = l ++ putB n z z := by unfold putV; rw [if_pos h]; rfl
  rw [hV, getV_yes hs (by omega) (by rw [List.length_append, putB_length]; omega)]
  rw [Int.toNat_natCast, Int.toNat_natCast, List.drop_left, List.take_of_length_le (by rw [putB_length]; omega), be_putB n z (by omega)]

theorem signedV_back (n size : Int) (h : rightB n size = true) (hn : n < 0) : signedV (n % 2 ^ (8 * size.toNat)) size = n := by
  have hs : sizedB size = true := by unfold rightB at h; simp at h; exact h.1
  rcases sizedB_cases hs with rfl | rfl | rfl <;> simp [rightB, sizedB, signedV] at * <;> omega

theorem mod_back (n size : Int) (h : rightB n size = true) (hn : ¬ n < 0) : n % 2 ^ (8 * size.toNat) = n := by
  have hs : sizedB size = true := by unfold rightB at h; simp at h; exact h.1
  rcases sizedB_cases hs with rfl | rfl | rfl <;> simp [rightB, sizedB] at * <;> omega

set_option maxHeartbeats 1000000 in
theorem numBack_walk (p : Option Addr) (l : List UInt8) (cap : Nat) (a1 a2 : Int) (w : World) (_hl : l.length ≤ cap) (_hc : cap ≤ maxLen) (hb : BytesIn w p l)
    (_w1 : (Lit.int .i64 a1).wf = true) (_w2 : (Lit.int .i64 a2).wf = true) :
    Calls Try.prog 4 #[.slice p l.length cap, .int .i64 a1, .int .i64 a2] w fun e w' => e = .returned (.bool true) ∧ Below w.heap.size w w' := by
  have Hb := Lib.hid hb
  clear hb
  have eR : (rightB a1 a2 == rightB a1 a2) = true := by simp
  have ER := Lib.hid eR
  clear eR
  by_cases hlong : 2000 < l.length
  · go_enter Try.func4, Try.ntmps4
    go_wp2_with (first
      | (go_at_call 8; refine (numAwake _).mono ?_; rintro e w' ⟨rfl, hb1⟩)
      | (go_at_call 13; refine (right_any _ _ _).mono ?_; rintro e w' ⟨rfl, rfl⟩)
      | (go_at_call 14; refine (rightR_any _ _ _).mono ?_; rintro e w' ⟨rfl, rfl⟩))
    go_ret
    exact ⟨rfl, hb1⟩
  · by_cases hr : rightB a1 a2 = true
    · have hg := getV_putV l a1 a2 hr
      by_cases hneg : a1 < 0
      · have hsb := signedV_back a1 a2 hr hneg
        have Hr := Lib.hid hr
        have Hg := Lib.hid hg
        have Hsb := Lib.hid hsb
        clear hr hg hsb
        go_enter Try.func4, Try.ntmps4
        go_wp2_with (first
          | (go_at_call 8; refine (numAwake _).mono ?_; rintro e w' ⟨rfl, hb2⟩)
          | (go_at_call 13; refine (right_any _ _ _).mono ?_; rintro e w' ⟨rfl, rfl⟩; rw [Hr.out])
          | (go_at_call 15; refine (put_any _ l _ _ _ _ (by omega) Hb.out).mono ?_; rintro e w1 ⟨v1, rfl, hown1, hb1⟩; obtain ⟨p1, c1, rfl, hc1, hm1, hin1⟩ := hown1.slice; have Hin1 := Lib.hid hin1; clear hown1 hin1)
          | (go_at_call 9; refine (get_any _ _ _ _ _ _ hc1 hm1 Hin1.out).mono ?_; rintro e w' ⟨rfl, rfl⟩; rw [Hg.out])
          | (go_at_call 11; refine (signed_any _ _ _).mono ?_; rintro e w' ⟨rfl, rfl⟩; rw [Hsb.out]))
        go_ret
        exact ⟨rfl, hb1.trans (hb2.mono hb1.size)⟩
      · rw [mod_back a1 a2 hr hneg] at hg
        have Hr := Lib.hid hr
        have Hg := Lib.hid hg
        clear hr hg
        go_enter Try.func4, Try.ntmps4
        go_wp2_with (first
          | (go_at_call 8; refine (numAwake _).mono ?_; rintro e w' ⟨rfl, hb2⟩)
          | (go_at_call 13; refine (right_any _ _ _).mono ?_; rintro e w' ⟨rfl, rfl⟩; rw [Hr.out])
          | (go_at_call 15; refine (put_any _ l _ _ _ _ (by omega) Hb.out).mono ?_; rintro e w1 ⟨v1, rfl, hown1, hb1⟩; obtain ⟨p1, c1, rfl, hc1, hm1, hin1⟩ := hown1.slice; have Hin1 := Lib.hid hin1; clear hown1 hin1)
          | (go_at_call 9; refine (get_any _ _ _ _ _ _ hc1 hm1 Hin1.out).mono ?_; rintro e w' ⟨rfl, rfl⟩; rw [Hg.out]))
        go_ret
        exact ⟨rfl, hb1.trans (hb2.mono hb1.size)⟩
    · have hr' : rightB a1 a2 = false := by simpa using hr
      have Hr := Lib.hid hr'
      clear hr hr'
      go_enter Try.func4, Try.ntmps4
      go_wp2_with (first
        | (go_at_call 8; refine (numAwake _).mono ?_; rintro e w' ⟨rfl, hb1⟩)
        | (go_at_call 13; refine (right_any _ _ _).mono ?_; rintro e w' ⟨rfl, rfl⟩; rw [Hr.out])
        | (go_at_call 14; refine (rightR_any _ _ _).mono ?_; rintro e w' ⟨rfl, rfl⟩; rw [Hr.out]))
      go_ret
      exact ⟨rfl, hb1⟩

end Go.Proofs.Ytbgdjgfkpllhlaa
