/-
  Ground: HeL, ClD.
-/
import Derived.Test.YtacnmdlefonjmaaPcOP11
import Derived.Deep.RegionHeld3
/-
  First messages (layer 5): the document's Build.
-/
namespace Go.Proofs.Ytacnmdlefonjmaa
open Go.RowKit
set_option linter.unusedVariables false
set_option linter.unusedSimpArgs false

theorem below_drew1 {w w' : World} (h : Below (w.drewN 1).heap.size (w.drewN 1) w') : Below w.heap.size w w' :=
  (((Touch.refl (fun _ => False) w).drewN 1).below (Nat.le_refl _) (fun _ e => e.elim)).trans h

set_option maxRecDepth 100000 in
set_option maxHeartbeats 4000000 in
theorem rbuild_no (S : Nat → Prop) (h : HelV) (p : Option Addr) (c : Nat) (w : World) (hs : SliceS 2 PrS S w [.slice p h.params.length c] h.params) (hsz : ∀ x ∈ h.params, x.name.size ≤ 100000 ∧ x.value.size ≤ 100000) (hm : mayV h = false) :
    Calls Try.prog 61 #[helArg h p c] w (BuildR h w) := by
  obtain ⟨hb, hs1, hw⟩ := hel_box hs
  have HM := Lib.hid (fun w0 hs0 => rmay_any S h p c w0 hs0 hsz)
  rw [hm] at HM
  have Hv : Hid (buildV h = ([], 1)) := Lib.hid (by unfold buildV; rw [hm]; rfl)
  have Hw := Lib.hid hw
  have Hs0 := Lib.hid hs
  have Hs1 := Lib.hid hs1
  have Hb := Lib.hid hb
  have hmany := parsB_many h.params
  unfold BuildR
  generalize buildV h = bv at *
  obtain ⟨hc0, hc1, hc2, L⟩ := h
  dsimp only at *
  skip
  obtain ⟨-, hlc, hcm⟩ := hs.len
  unfold maxLen at hcm
  unfold helArg helCells at *
  dsimp only at *
  clear hs hs1 hb hw hm hsz
  go_enter Try.func61, Try.ntmps61
  go_upto_region 1 with (fail)
  have hlt := Hb.out.lt
  generalize w.alloc (.cells #[.int .i64 hc0, .int .i64 hc1, .int .i64 hc2, .slice p L.length c] 64) = w1 at *
  have hc := Hb.out.cell
  go_wp2_with fail
  refine (HM.out w1 Hs1.out).mono ?_
  rintro e w2 ⟨rfl, hb2⟩
  have hsz2 := hb2.size
  have hcw : ∀ i, w2.cell? ⟨w.heap.size, i, none⟩ = (#[.int .i64 hc0, .int .i64 hc1, .int .i64 hc2, .slice p L.length c] : Array Value)[i]? := (Hb.out.below hb2 hlt).cell
  have Hb2 := Lib.hid (Hb.out.below hb2 hlt)
  have HW2 := Lib.hid (Hw.out.trans (hb2.mono Hw.out.size))
  clear hc hb2
  go_wp2_with fail
  go_ret2
  rw [Hv.out]
  exact ⟨_, rfl, OwnBR.empty _ _ _, HW2.out⟩

set_option maxRecDepth 100000 in
set_option maxHeartbeats 4000000 in
theorem rbuild_ssl (S : Nat → Prop) (h : HelV) (p : Option Addr) (c : Nat) (w : World) (hs : SliceS 2 PrS S w [.slice p h.params.length c] h.params) (hsz : ∀ x ∈ h.params, x.name.size ≤ 100000 ∧ x.value.size ≤ 100000) (hm : mayV h = true) (h1 : h.code = 80877103) :
    Calls Try.prog 61 #[helArg h p c] w (BuildR h w) := by
  obtain ⟨hb, hs1, hw⟩ := hel_box hs
  have HM := Lib.hid (fun w0 hs0 => rmay_any S h p c w0 hs0 hsz)
  rw [hm] at HM
  have Hv : Hid (buildV h = (putV [] 80877103 4, 0)) := Lib.hid (by unfold buildV bodyV; rw [if_pos hm, h1]; simp)
  have Hw := Lib.hid hw
  have Hs0 := Lib.hid hs
  have Hs1 := Lib.hid hs1
  have Hb := Lib.hid hb
  have hmany := parsB_many h.params
  unfold BuildR
  generalize buildV h = bv at *
  obtain ⟨hc0, hc1, hc2, L⟩ := h
  dsimp only at *
  subst h1
  obtain ⟨-, hlc, hcm⟩ := hs.len
  unfold maxLen at hcm
  unfold helArg helCells at *
  dsimp only at *
  clear hs hs1 hb hw hm hsz
  go_enter Try.func61, Try.ntmps61
  go_upto_region 1 with (fail)
  have hlt := Hb.out.lt
  generalize w.alloc (.cells #[.int .i64 80877103, .int .i64 hc1, .int .i64 hc2, .slice p L.length c] 64) = w1 at *
  have hc := Hb.out.cell
  go_wp2_with fail
  refine (HM.out w1 Hs1.out).mono ?_
  rintro e w2 ⟨rfl, hb2⟩
  have hsz2 := hb2.size
  have hcw : ∀ i, w2.cell? ⟨w.heap.size, i, none⟩ = (#[.int .i64 80877103, .int .i64 hc1, .int .i64 hc2, .slice p L.length c] : Array Value)[i]? := (Hb.out.below hb2 hlt).cell
  have Hb2 := Lib.hid (Hb.out.below hb2 hlt)
  have HW2 := Lib.hid (Hw.out.trans (hb2.mono Hw.out.size))
  clear hc hb2
  have Hp := Lib.hid (putR_any none [] 0 80877103 4 w2 (by simp) (BytesIn.nil _ _))
  go_wp2_with fail
  refine Hp.out.mono ?_
  rintro e w3 ⟨v3, rfl, ho3, hb3⟩
  have hsz3 := hb3.size
  have Ho3 : Hid (OwnBR w.heap.size w3 v3 _) := Lib.hid (OwnR.base (OwnBR.of ho3) (show w.heap.size ≤ w2.heap.size by omega))
  have hcw3 : ∀ i, w3.cell? ⟨w.heap.size, i, none⟩ = (#[.int .i64 80877103, .int .i64 hc1, .int .i64 hc2, .slice p L.length c] : Array Value)[i]? := (Hb2.out.below hb3 (by omega)).cell
  have Hb3 := Lib.hid (Hb2.out.below hb3 (by omega))
  have HW3 := Lib.hid (HW2.out.trans (hb3.mono HW2.out.size))
  clear hb3 ho3 hcw Hp
  go_wp2_with fail
  go_ret2
  rw [Hv.out]
  exact ⟨_, rfl, Ho3.out, HW3.out⟩

set_option maxRecDepth 100000 in
set_option maxHeartbeats 4000000 in
theorem rbuild_cancel (S : Nat → Prop) (h : HelV) (p : Option Addr) (c : Nat) (w : World) (hs : SliceS 2 PrS S w [.slice p h.params.length c] h.params) (hsz : ∀ x ∈ h.params, x.name.size ≤ 100000 ∧ x.value.size ≤ 100000) (hm : mayV h = true) (h1 : h.code = 80877102) :
    Calls Try.prog 61 #[helArg h p c] w (BuildR h w) := by
  obtain ⟨hb, hs1, hw⟩ := hel_box hs
  have HM := Lib.hid (fun w0 hs0 => rmay_any S h p c w0 hs0 hsz)
  rw [hm] at HM
  have Hv : Hid (buildV h = (putV (putV (putV [] 80877102 4) h.process 4) h.secret 4, 0)) := Lib.hid (by unfold buildV bodyV; rw [if_pos hm, h1]; simp)
  have Hw := Lib.hid hw
  have Hs0 := Lib.hid hs
  have Hs1 := Lib.hid hs1
  have Hb := Lib.hid hb
  have hmany := parsB_many h.params
  unfold BuildR
  generalize buildV h = bv at *
  obtain ⟨hc0, hc1, hc2, L⟩ := h
  dsimp only at *
  subst h1
  obtain ⟨-, hlc, hcm⟩ := hs.len
  unfold maxLen at hcm
  unfold helArg helCells at *
  dsimp only at *
  clear hs hs1 hb hw hm hsz
  go_enter Try.func61, Try.ntmps61
  go_upto_region 1 with (fail)
  have hlt := Hb.out.lt
  generalize w.alloc (.cells #[.int .i64 80877102, .int .i64 hc1, .int .i64 hc2, .slice p L.length c] 64) = w1 at *
  have hc := Hb.out.cell
  go_wp2_with fail
  refine (HM.out w1 Hs1.out).mono ?_
  rintro e w2 ⟨rfl, hb2⟩
  have hsz2 := hb2.size
  have hcw : ∀ i, w2.cell? ⟨w.heap.size, i, none⟩ = (#[.int .i64 80877102, .int .i64 hc1, .int .i64 hc2, .slice p L.length c] : Array Value)[i]? := (Hb.out.below hb2 hlt).cell
  have Hb2 := Lib.hid (Hb.out.below hb2 hlt)
  have HW2 := Lib.hid (Hw.out.trans (hb2.mono Hw.out.size))
  clear hc hb2
  have Hp := Lib.hid (putR_any none [] 0 80877102 4 w2 (by simp) (BytesIn.nil _ _))
  go_wp2_with fail
  refine Hp.out.mono ?_
  rintro e w3 ⟨v3, rfl, ho3, hb3⟩
  have hsz3 := hb3.size
  have Ho3 : Hid (OwnBR w.heap.size w3 v3 _) := Lib.hid (OwnR.base (OwnBR.of ho3) (show w.heap.size ≤ w2.heap.size by omega))
  have hcw3 : ∀ i, w3.cell? ⟨w.heap.size, i, none⟩ = (#[.int .i64 80877102, .int .i64 hc1, .int .i64 hc2, .slice p L.length c] : Array Value)[i]? := (Hb2.out.below hb3 (by omega)).cell
  have Hb3 := Lib.hid (Hb2.out.below hb3 (by omega))
  have HW3 := Lib.hid (HW2.out.trans (hb3.mono HW2.out.size))
  clear hb3 ho3 hcw Hp
  have hl3 := putV_len4 [] 80877102 4
  have hl4 := putV_len4 (putV [] 80877102 4) hc1 4
  simp only [List.length_nil] at hl3
  obtain ⟨p3, c3, hv3, k3, m3, q3, -⟩ := Ho3.out.slice
  subst hv3
  have Hp2 := Lib.hid (putR_any p3 (putV [] 80877102 4) c3 hc1 4 (w3.drewN 1) (by omega) (q3.drewN 1))
  have Hq3 := Lib.hid q3
  clear q3
  generalize (putV [] 80877102 4).length = n3 at *
  go_upto_region 13 with (fail)
  go_region_held3 (fun w' => ∀ i, w'.cell? ⟨w.heap.size, i, none⟩ = (#[.int .i64 80877102, .int .i64 hc1, .int .i64 hc2, .slice p L.length c] : Array Value)[i]?)
    (first | exact hcw3 | exact hcw4 | exact hcw5 | go_keep)
    (first
      | (go_at_call 68; refine Hp3.out.mono ?_; rintro e w5 ⟨v5, rfl, ho5, hb5⟩; have HW5 := Lib.hid (HW4.out.trans (hb5.mono HW4.out.size)); have Ho5 : Hid (OwnBR w.heap.size w5 v5 _) := Lib.hid (OwnR.base (OwnBR.of ho5) (show w.heap.size ≤ w4.heap.size by omega)); have hcw5 : ∀ i, w5.cell? ⟨w.heap.size, i, none⟩ = (#[.int .i64 80877102, .int .i64 hc1, .int .i64 hc2, .slice p L.length c] : Array Value)[i]? := (HX4.out.below hb5 (by omega)).cell; clear hb5 ho5)
      | (go_at_call 68; refine Hp2.out.mono ?_; rintro e w4 ⟨v4, rfl, ho4, hb4'⟩; have hb4 := below_drew1 hb4'; clear hb4'; have hsz4 := hb4.size; have HX4 := Lib.hid (Hb3.out.below hb4 (by omega)); have hcw4 : ∀ i, w4.cell? ⟨w.heap.size, i, none⟩ = (#[.int .i64 80877102, .int .i64 hc1, .int .i64 hc2, .slice p L.length c] : Array Value)[i]? := HX4.out.cell; have HW4 := Lib.hid (HW3.out.trans (hb4.mono HW3.out.size)); have Ho4 := Lib.hid (OwnBR.of ho4); clear hb4 ho4; obtain ⟨p4, c4, hv4, k4, m4, q4, -⟩ := Ho4.out.slice; subst hv4; have Hp3 := Lib.hid (putR_any p4 (putV (putV [] 80877102 4) hc1 4) c4 hc2 4 w4 (by omega) q4); clear q4))
  clear hcw3 hcw4 hcw5
  go_wp2_with fail
  go_ret2
  rw [Hv.out]
  exact ⟨_, rfl, Ho5.out, HW5.out⟩

set_option maxRecDepth 100000 in
set_option maxHeartbeats 4000000 in
theorem rbuild_version (S : Nat → Prop) (h : HelV) (p : Option Addr) (c : Nat) (w : World) (hs : SliceS 2 PrS S w [.slice p h.params.length c] h.params) (hsz : ∀ x ∈ h.params, x.name.size ≤ 100000 ∧ x.value.size ≤ 100000) (hl : (parsB h.params).length ≤ 100000) (hm : mayV h = true) (h1 : h.code = 196608) :
    Calls Try.prog 61 #[helArg h p c] w (BuildR h w) := by
  obtain ⟨hb, hs1, hw⟩ := hel_box hs
  have HM := Lib.hid (fun w0 hs0 => rmay_any S h p c w0 hs0 hsz)
  rw [hm] at HM
  have Hv : Hid (buildV h = ((putV [] 196608 4 ++ parsB h.params) ++ [0], 0)) := Lib.hid (by unfold buildV bodyV; rw [if_pos hm, h1]; simp)
  have Hpl := Lib.hid (putV_len4 [] 196608 4)
  have Hw := Lib.hid hw
  have Hs0 := Lib.hid hs
  have Hs1 := Lib.hid hs1
  have Hb := Lib.hid hb
  have hmany := parsB_many h.params
  unfold BuildR
  generalize buildV h = bv at *
  obtain ⟨hc0, hc1, hc2, L⟩ := h
  dsimp only at *
  subst h1
  obtain ⟨-, hlc, hcm⟩ := hs.len
  unfold maxLen at hcm
  unfold helArg helCells at *
  dsimp only at *
  clear hs hs1 hb hw hm hsz
  go_enter Try.func61, Try.ntmps61
  go_upto_region 1 with (fail)
  have hlt := Hb.out.lt
  generalize w.alloc (.cells #[.int .i64 196608, .int .i64 hc1, .int .i64 hc2, .slice p L.length c] 64) = w1 at *
  have hc := Hb.out.cell
  go_wp2_with fail
  refine (HM.out w1 Hs1.out).mono ?_
  rintro e w2 ⟨rfl, hb2⟩
  have hsz2 := hb2.size
  have hcw : ∀ i, w2.cell? ⟨w.heap.size, i, none⟩ = (#[.int .i64 196608, .int .i64 hc1, .int .i64 hc2, .slice p L.length c] : Array Value)[i]? := (Hb.out.below hb2 hlt).cell
  have Hb2 := Lib.hid (Hb.out.below hb2 hlt)
  have HW2 := Lib.hid (Hw.out.trans (hb2.mono Hw.out.size))
  clear hc hb2
  have Hp := Lib.hid (putR_any none [] 0 196608 4 w2 (by simp) (BytesIn.nil _ _))
  go_wp2_with fail
  refine Hp.out.mono ?_
  rintro e w3 ⟨v3, rfl, ho3, hb3⟩
  have hsz3 := hb3.size
  have Ho3 : Hid (OwnBR w2.heap.size w3 v3 _) := Lib.hid (OwnBR.of ho3)
  have hcw3 : ∀ i, w3.cell? ⟨w.heap.size, i, none⟩ = (#[.int .i64 196608, .int .i64 hc1, .int .i64 hc2, .slice p L.length c] : Array Value)[i]? := (Hb2.out.below hb3 (by omega)).cell
  have Hb3 := Lib.hid (Hb2.out.below hb3 (by omega))
  have HW3' := Lib.hid hb3
  have HW3 := Lib.hid (HW2.out.trans (hb3.mono HW2.out.size))
  clear hb3 ho3 hcw Hp
  obtain ⟨P, hP⟩ : ∃ P, putV [] 196608 4 = P := ⟨_, rfl⟩
  rw [hP] at Hv Hpl Ho3
  have hpl := Hpl.out
  simp only [List.length_nil] at hpl
  clear hP Hpl
  have hlt2 : w.heap.size < w2.heap.size := by omega
  go_wp2_with fail
  clear hcw3
  go_loopw [4, 5] (fun v i wr => ∃ k : Nat, k ≤ L.length ∧ i = .int .i64 k ∧ OwnBR w2.heap.size wr v (P ++ parsB (L.take k)) ∧ Below w2.heap.size w2 wr) (fun _ i _ => L.length - (intOf i).toNat)
  case atStart => exact ⟨0, Nat.zero_le _, rfl, (by have h0 : P ++ parsB (L.take 0) = P := (by simp [parsB]); rw [h0]; exact Ho3.out), HW3'.out⟩
  case round =>
    obtain ⟨k, hk, rfl, ho, hb⟩ := hrel
    have hsz := hb.size
    have Hbw := Lib.hid hb
    have Ho := Lib.hid ho
    by_cases hltk : k < L.length
    · obtain ⟨b, o, rfl, hS, hbl, c0, c1⟩ := pr_at Hs0.out hltk
      have Hk := Lib.hid (parsB_take hltk)
      have Hle := Lib.hid (parsB_le L (k + 1))
      have HbX : Hid (∀ w', Below w2.heap.size w2 w' → ∀ i, w'.cell? ⟨w.heap.size, i, none⟩ = (#[.int .i64 196608, .int .i64 hc1, .int .i64 hc2, .slice (some ⟨b, o, none⟩) L.length c] : Array Value)[i]?) := Lib.hid (fun w' h' => (Hb2.out.below h' hlt2).cell)
      have HcX : Hid (∀ w', Below w2.heap.size w2 w' → w'.cell? ⟨b, o + k * 2, none⟩ = some (.string L[k].name) ∧ w'.cell? ⟨b, o + k * 2 + 1, none⟩ = some (.string L[k].value)) := Lib.hid (fun w' h' => by
        have hww := HW2.out.trans (h'.mono HW2.out.size)
        exact ⟨(hww.cell (p := ⟨b, o + k * 2, none⟩) hbl).trans c0, (hww.cell (p := ⟨b, o + k * 2 + 1, none⟩) hbl).trans c1⟩)
      have c0' := (HcX.out wr hb).1
      have hcr := HbX.out wr hb
      clear ho hb hS c0 c1
      generalize L[k] = x at *
      have hlti : (k : Int) < (L.length : Int) := by omega
      obtain ⟨Q, hQ⟩ : ∃ Q, P ++ parsB (L.take k) = Q := ⟨_, rfl⟩
      rw [hQ] at Ho
      have hle := Hle.out
      have hQx : Q.length + (prB x).length ≤ 100004 := by rw [Hk.out, List.length_append] at hle; rw [← hQ, List.length_append]; omega
      have HQ := Lib.hid hQ
      have hr1 : Q.length + x.name.data.toList.length ≤ 200000 := by simp [prB] at hQx ⊢; omega
      have hr2 : (Q ++ x.name.data.toList).length + 1 ≤ 300000 := by rw [List.length_append]; omega
      have hr3 : ((Q ++ x.name.data.toList) ++ [0]).length + x.value.data.toList.length ≤ 400000 := by simp [prB] at hQx ⊢; omega
      have hr4 : (((Q ++ x.name.data.toList) ++ [0]) ++ x.value.data.toList).length + 1 ≤ 500000 := by rw [List.length_append]; omega
      clear hQ hle Hle
      go_upto_region 10 with (first
            | (at_builtin; refine step_appendStr _ rfl (.tmp 23) (.tmp 29) rfl w2.heap.size u4 _ rfl Ho.out x.name rfl (by omega) (by omega) ?_; intro v5name w5name ho5 hg5 hn5; have Ho5name := Lib.hid ho5; have hz5name := hg5.size; have HB5name : Hid (Below w2.heap.size w2 w5name) := Lib.hid (Hbw.out.trans (Below.of_row hg5 (by omega) (fun k hk => (Ho.out.row k hk).1))); clear ho5 hg5 hn5)
            | (at_builtin; refine step_appendBR _ rfl (.tmp 30) (.tmp 31) rfl w2.heap.size v5name _ rfl (Ho5name.out.alloc _) (some ⟨w5name.heap.size, 0, none⟩) [0] 1 1 rfl rfl (BytesIn.new1 w5name 0 0 _ rfl) (by rw [List.length_singleton]; omega) (by rw [World.size_alloc]; omega) ?_; intro v6name w6name ho6 hg6 hn6; have Ho6name := Lib.hid ho6; have HB6name : Hid (Below w2.heap.size w2 w6name) := Lib.hid ((HB5name.out.alloc (by omega) _).trans (Below.of_row hg6 (by rw [World.size_alloc]; omega) (fun k hk => (Ho5name.out.row k hk).1))); have hz6name := HB6name.out.size; clear ho6 hg6 hn6; have hcw6name := HbX.out w6name HB6name.out; have c16name := (HcX.out w6name HB6name.out).2))
      clear hcr c0'
      go_wp2_with (first
            | (at_builtin; refine step_appendStr _ rfl (.tmp 33) (.tmp 39) rfl w2.heap.size v6name _ rfl Ho6name.out x.value rfl (by omega) (by omega) ?_; intro v5value w5value ho5 hg5 hn5; have Ho5value := Lib.hid ho5; have hz5value := hg5.size; have HB5value : Hid (Below w2.heap.size w2 w5value) := Lib.hid (HB6name.out.trans (Below.of_row hg5 (by omega) (fun k hk => (Ho6name.out.row k hk).1))); clear ho5 hg5 hn5)
            | (at_builtin; refine step_appendBR _ rfl (.tmp 40) (.tmp 41) rfl w2.heap.size v5value _ rfl (Ho5value.out.alloc _) (some ⟨w5value.heap.size, 0, none⟩) [0] 1 1 rfl rfl (BytesIn.new1 w5value 0 0 _ rfl) (by rw [List.length_singleton]; omega) (by rw [World.size_alloc]; omega) ?_; intro v6value w6value ho6 hg6 hn6; have Ho6value := Lib.hid ho6; have HB6value : Hid (Below w2.heap.size w2 w6value) := Lib.hid ((HB5value.out.alloc (by omega) _).trans (Below.of_row hg6 (by rw [World.size_alloc]; omega) (fun k hk => (Ho5value.out.row k hk).1))); have hz6value := HB6value.out.size; clear ho6 hg6 hn6; have hcw6value := HbX.out w6value HB6value.out; have c16value := (HcX.out w6value HB6value.out).2))
      go_roundw
      case rel =>
        refine ⟨k + 1, by omega, by go_num, ?_, HB6value.out⟩
        have hfin := Ho6value.out
        rw [Hk.out, ← List.append_assoc, HQ.out]
        have he : Q ++ prB x = (((Q ++ x.name.data.toList) ++ [0]) ++ x.value.data.toList) ++ [0] := by simp [prB]
        rw [he]
        exact hfin
      case measure => simp [intOf]; omega
    · obtain rfl : k = L.length := by omega
      rw [parsB_all] at ho
      have Hoe := Lib.hid ho
      have hroom3 : (P ++ parsB L).length + 1 ≤ 200000 := by rw [List.length_append]; omega
      have hcr : ∀ i, wr.cell? ⟨w.heap.size, i, none⟩ = (#[.int .i64 196608, .int .i64 hc1, .int .i64 hc2, .slice p L.length c] : Array Value)[i]? := (Hb2.out.below hb hlt2).cell
      clear ho hb hltk hk Ho
      go_wp2_with (at_builtin; refine step_appendBR _ rfl (.tmp 43) (.tmp 44) rfl w2.heap.size u4 _ rfl (Hoe.out.alloc _) (some ⟨wr.heap.size, 0, none⟩) [0] 1 1 rfl rfl (BytesIn.new1 wr 0 0 _ rfl) (by rw [List.length_singleton]; omega) (by rw [World.size_alloc]; omega) ?_; intro v6 w6 ho6 hg6 hn6; have Ho6 := Lib.hid ho6; have HB6 : Hid (Below w2.heap.size w2 w6) := Lib.hid ((Hbw.out.alloc (by omega) _).trans (Below.of_row hg6 (by rw [World.size_alloc]; omega) (fun k hk => (Hoe.out.row k hk).1))); clear ho6 hg6 hn6)
      go_ret2
      rw [Hv.out]
      exact ⟨_, rfl, OwnR.base Ho6.out (by omega), HW2.out.trans (HB6.out.mono HW2.out.size)⟩

theorem rbuild_any (S : Nat → Prop) (h : HelV) (p : Option Addr) (c : Nat) (w : World) (hs : SliceS 2 PrS S w [.slice p h.params.length c] h.params) (hsz : ∀ x ∈ h.params, x.name.size ≤ 100000 ∧ x.value.size ≤ 100000) (hl : (parsB h.params).length ≤ 100000) :
    Calls Try.prog 61 #[helArg h p c] w (BuildR h w) := by
  cases hm : mayV h with
  | false => exact rbuild_no S h p c w hs hsz hm
  | true =>
    rcases may_code hm with h1 | h1 | h1
    · exact rbuild_version S h p c w hs hsz hl hm h1
    · exact rbuild_cancel S h p c w hs hsz hm h1
    · exact rbuild_ssl S h p c w hs hsz hm h1

end Go.Proofs.Ytacnmdlefonjmaa

/-
  The first message of an ordinary client; whether what comes is told; ClientNobody's walk (layer 39).
-/
namespace Go.Proofs.Ytacnmdlefonjmaa
open Go.RowKit
set_option linter.unusedVariables false
set_option linter.unusedSimpArgs false

def awHel : HelV := ⟨196608, 0, 0, [⟨⟨#[117, 115, 101, 114]⟩, ⟨#[117]⟩⟩]⟩
def helloB : List UInt8 := [0, 0, 0, 16, 0, 3, 0, 0, 117, 115, 101, 114, 0, 117, 0, 0]
theorem awh0 : msgL 0 (buildV awHel).1 = helloB := by decide +kernel
theorem awhl : (buildV awHel).1.length ≤ 100000 := by decide +kernel
theorem awh1 : (peekV false 1000 ([] ++ helloB) 0).kind = 1 := by decide +kernel
theorem awh2 : (peekV false 1000 ([] ++ helloB) 0).hel.code = 196608 := by decide +kernel
theorem awh3 : restL false 1000 ([] ++ helloB) 0 = [] := by decide +kernel
theorem awh4 : wrongL false 1000 ([] ++ helloB) 0 = 0 := by decide +kernel
def tenB : List UInt8 := [83, 0, 0, 0, 4, 100, 0, 0, 0, 4]
theorem awh5 : (peekV true 1000 ([] ++ tenB) 0).kind = 2 := by decide +kernel
theorem awh6 : (peekV true 1000 ([] ++ tenB) 0).front.kind = 83 := by decide +kernel
theorem awh7 : restL true 1000 ([] ++ tenB) 0 = [100, 0, 0, 0, 4] := by decide +kernel
theorem awh8 : wrongL true 1000 ([] ++ tenB) 0 = 0 := by decide +kernel
theorem awh9 : (peekV true 1000 [100, 0, 0, 0, 4] 0).kind = 3 := by decide +kernel
theorem awh10 : (peekV true 1000 [100, 0, 0, 0, 4] 0).code = codeA := by decide +kernel
theorem tenA : (#[.int .u8 83, .int .u8 0, .int .u8 0, .int .u8 0, .int .u8 4, .int .u8 100, .int .u8 0, .int .u8 0, .int .u8 0, .int .u8 4] : Array Value).toList = bytesV tenB := by simp [bytesV, byteV, tenB]

set_option maxRecDepth 100000 in
set_option maxHeartbeats 8000000 in
theorem hello_any (w : World) : Calls Try.prog 48 #[] w fun e w' => ∃ v, e = .returned v ∧ OwnBR w.heap.size w' v helloB ∧ Below w.heap.size w w' := by
  have hs : SliceS 2 PrS (fun _ => True) (w.alloc (.cells #[.string ⟨#[117, 115, 101, 114]⟩, .string ⟨#[117]⟩] 117)) [.slice (some ⟨w.heap.size, 0, none⟩) 1 1] awHel.params := SliceS.new1 (S := fun _ => True) PrS.still w 117 #[.string ⟨#[117, 115, 101, 114]⟩, .string ⟨#[117]⟩] ⟨⟨#[117, 115, 101, 114]⟩, ⟨#[117]⟩⟩ rfl rfl (fun _ _ h => h) trivial
  have HB := Lib.hid (rbuild_any _ awHel _ 1 _ hs (by decide +kernel) (by decide +kernel))
  have Hal := Lib.hid ((Below.refl w.heap.size w).alloc (Nat.le_refl _) (.cells #[.string ⟨#[117, 115, 101, 114]⟩, .string ⟨#[117]⟩] 117))
  unfold helArg helCells awHel at HB
  clear hs
  go_enter Try.func48, Try.ntmps48
  go_wp2_with fail
  refine HB.out.mono ?_
  rintro e w2 ⟨v, rfl, ho, hb⟩
  rw [show (⟨196608, 0, 0, [⟨⟨#[117, 115, 101, 114]⟩, ⟨#[117]⟩⟩]⟩ : HelV) = awHel from rfl] at ho ⊢
  obtain ⟨p, c, rfl, hin⟩ := ho.bytesS (S := fun _ => True) (fun _ _ => trivial)
  obtain ⟨p', c', e', -, -, hq, -⟩ := hin
  simp only [List.cons.injEq, Value.slice.injEq, and_true] at e'
  obtain ⟨rfl, -, rfl⟩ := e'
  have Hb2 := Lib.hid (Hal.out.trans (hb.mono Hal.out.size))
  have HM := Lib.hid (frBytesR_any 0 _ p c w2 hq awhl)
  rw [awh0] at HM
  unfold msgArg at HM
  generalize (buildV awHel).1.length = n at *
  generalize (buildV awHel).2 = er at *
  clear ho hb hq HB Hal
  go_wp2_with fail
  refine HM.out.mono ?_
  rintro e w3 ⟨v3, rfl, ho3, hb3⟩
  have Ho3 := Lib.hid (ho3.base (Nat.le_trans Hb2.out.size (Nat.le_refl _)))
  have Hb3 := Lib.hid (Hb2.out.trans (hb3.mono Hb2.out.size))
  obtain ⟨p3, c3, rfl, _⟩ := OwnBR.slice ho3
  clear ho3 hb3 HM
  go_wp2_with fail
  go_ret
  exact ⟨_, rfl, Ho3.out, Hb3.out⟩

theorem frT_belowC {B cb sb : Nat} {t : Bool} {L : List UInt8} {most room : Nat} {wrong : Int} {v : Value} {w w' : World} (h : ClO B w cb sb t L most room wrong v) (hT : FrT sb v w w') (hB : B ≤ w.heap.size) : Below B w w' :=
  hT.below hB (fun k hk => by
    rcases hk with e | e
    · rw [e]; exact h.fr.sB
    · exact (h.fr.own.row k e).1)

set_option maxRecDepth 100000 in
set_option maxHeartbeats 16000000 in
theorem clAwake (w : World) : Calls Try.prog 28 #[] w fun e w' => e = .returned (.bool true) ∧ Below w.heap.size w w' := by
  have hN : Calls Try.prog 47 #[.int .i64 1000, .int .i64 2000] w _ := clNew_ok 1000 2000 w (by omega) (by omega) (by omega) (by omega)
  have HN := Lib.hid hN
  have HH := Lib.hid hello_any
  clear hN
  go_enter Try.func28, Try.ntmps28
  go_wp2_with fail
  refine HN.out.mono ?_
  rintro e w1 ⟨cb, sb, rfl, hc1, hb1⟩
  have H1 := Lib.hid hc1
  have Hb1 := Lib.hid hb1
  clear hc1 hb1 HN
  go_wp2_with fail
  refine (HH.out _).mono ?_
  rintro e w2 ⟨v2, rfl, ho2, hb2⟩
  have H2 := Lib.hid (H1.out.still hb2)
  have Hb2 := Lib.hid (Hb1.out.trans (hb2.mono Hb1.out.size))
  obtain ⟨p2, c2, rfl, -, -, hq, -⟩ := OwnBR.slice ho2
  have HF := Lib.hid (clFeed_ok _ cb sb false [] 1000 2000 0 _ p2 helloB c2 w2 H2.out (by omega) (by omega) (by simp [helloB]) Hb2.out.size hq)
  clear ho2 hb2 hq H1 Hb1
  go_wp2_with fail
  refine HF.out.mono ?_
  rintro e w3 ⟨v3, rfl, hc3, hr3, hT3⟩
  have H3 := Lib.hid hc3
  have Hb3 := Lib.hid (Hb2.out.trans (frT_belowC H2.out hT3 Hb2.out.size))
  have HTk := Lib.hid (clTake_any _ cb sb false _ 1000 2000 0 v3 w3 hc3 (by omega) (by simp [helloB]) (by omega))
  rw [awh3, awh4] at HTk
  obtain ⟨x, hx⟩ : ∃ x, x = peekV false 1000 ([] ++ helloB) 0 := ⟨_, rfl⟩
  have Hx : Hid (x.kind = 1 ∧ x.hel.code = 196608) := Lib.hid (by rw [hx]; exact ⟨awh1, awh2⟩)
  rw [← hx] at HTk
  clear hc3 hr3 hT3 HF hx H2 Hb2
  obtain ⟨xk, ⟨xc, xp, xs, xl⟩, xf, xco, xt⟩ := x
  dsimp only at Hx
  obtain ⟨rfl, rfl⟩ := Hx.out
  go_wp2_with fail
  refine HTk.out.mono ?_
  rintro e w4 ⟨⟨px, cx, ax, rfl, -, -⟩, v4, hc4, hr4, hT4⟩
  have H4 := Lib.hid hc4
  have Hb4 := Lib.hid (Hb3.out.trans (frT_belowC H3.out hT4 Hb3.out.size))
  unfold itArg itCells
  dsimp only
  clear hc4 hr4 hT4 HTk H3 Hb3 Hx
  go_wp2_with (refine wpList_store_it _ rfl (.tmp 3) (.tmp 23) rfl w4.heap.size _ _ rfl rfl (Blk.new _ _ _) rfl rfl (by simp [Value.oneCell']) ?_; intro w5 hb hT; have HBw5 := Lib.hid hb; have HTw5 := Lib.hid hT; clear hb hT)
  have hz5 : w4.heap.size < w5.heap.size := Nat.lt_of_lt_of_le (by simp) HTw5.out.size
  have H5 := Lib.hid ((H4.out.still ((Below.refl _ _).alloc (Nat.le_refl _) (.cells #[.int .i64 0, .int .i64 0, .int .i64 0, .int .i64 0, .slice none 0 0, .int .u8 0, .int .u8 0, .string ⟨#[]⟩, .string ⟨#[]⟩, .string ⟨#[]⟩, .slice none 0 0, .slice none 0 0, .slice none 0 0, .slice none 0 0, .int .i64 0, .string ⟨#[]⟩, .string ⟨#[]⟩] 69))).touch HTw5.out (by have := H4.out.blk.lt; omega) (by have := H4.out.fr.blk.lt; omega) (fun k hk => by have := (H4.out.fr.own.row k hk).2; omega))
  have Hb5 := Lib.hid (Hb4.out.trans (((Below.refl w4.heap.size w4).alloc (Nat.le_refl _) (.cells #[.int .i64 0, .int .i64 0, .int .i64 0, .int .i64 0, .slice none 0 0, .int .u8 0, .int .u8 0, .string ⟨#[]⟩, .string ⟨#[]⟩, .string ⟨#[]⟩, .slice none 0 0, .slice none 0 0, .slice none 0 0, .slice none 0 0, .int .i64 0, .string ⟨#[]⟩, .string ⟨#[]⟩] 69)).trans (HTw5.out.below (by simp) (fun k e => by omega)) |>.mono Hb4.out.size))
  have Hg5 : Hid (cb ≠ w4.heap.size ∧ sb ≠ w4.heap.size ∧ ∀ k, rowOf v4 = some k → k ≠ w4.heap.size) := Lib.hid ⟨by have := H4.out.blk.lt; omega, by have := H4.out.fr.blk.lt; omega, fun k hk => by have := (H4.out.fr.own.row k hk).2; omega⟩
  obtain ⟨g1, hg1⟩ : ∃ g1, g1 = w4.heap.size := ⟨_, rfl⟩
  rw [← hg1] at HBw5 Hg5 hz5 ⊢
  have HBg := Lib.hid (clBegin_any _ cb sb false [] 1000 2000 0 v4 w5 H5.out (by omega))
  have HB5 := HBw5
  clear hg1 HTw5 HBw5 H4 Hb4
  refine HBg.out.mono ?_
  rintro e w6 ⟨rfl, hc6, hT6⟩
  have H6 := Lib.hid hc6
  have HB6 := Lib.hid (hT6.blk HB5.out (fun e => by rcases e with e | e; (· exact Hg5.out.1 e.symm); (· exact Hg5.out.2.1 e.symm)))
  have Hb6 := Lib.hid (Hb5.out.trans (hT6.below Hb5.out.size (fun k e => by rcases e with e | e; (· rw [e]; exact hc6.cB); (· rw [e]; exact hc6.fr.sB))))
  have hin := BytesIn.newB w6 tenB _ 5 tenA
  have hal : Below w6.heap.size w6 (w6.alloc (.cells #[.int .u8 83, .int .u8 0, .int .u8 0, .int .u8 0, .int .u8 4, .int .u8 100, .int .u8 0, .int .u8 0, .int .u8 0, .int .u8 4] 5)) := (Below.refl _ _).alloc (Nat.le_refl _) _
  have HF := Lib.hid (clFeed_ok _ cb sb true [] 1000 2000 0 v4 _ tenB 10 _ (hc6.still hal) (by omega) (by omega) (by simp [tenB]) (Nat.le_trans Hb6.out.size hal.size) hin)
  have H7 := Lib.hid (hc6.still hal)
  have HB7 := Lib.hid (HB6.out.below hal HB6.out.lt)
  have Hb7 := Lib.hid (Hb6.out.trans (hal.mono Hb6.out.size))
  clear hc6 hT6 hin hal HBg H5 HB5 Hb5 HB6 Hb6 H6 hz5
  have htl : tenB.length = 10 := rfl
  rw [htl] at HF
  clear htl
  go_wp2_with fail
  generalize (w6.alloc (.cells #[.int .u8 83, .int .u8 0, .int .u8 0, .int .u8 0, .int .u8 4, .int .u8 100, .int .u8 0, .int .u8 0, .int .u8 0, .int .u8 4] 5)) = w7 at *
  refine HF.out.mono ?_
  rintro e w8 ⟨v8, rfl, hc8, hr8, hT8⟩
  have H8 := Lib.hid hc8
  have hg7 := HB7.out.lt
  have HB8 := Lib.hid (hT8.blk HB7.out (fun e => by rcases e with e | e; (· exact Hg5.out.2.1 e.symm); (· exact Hg5.out.2.2 g1 e rfl)))
  have Hb8 := Lib.hid (Hb7.out.trans (frT_belowC H7.out hT8 Hb7.out.size))
  have Hg8 : Hid (cb ≠ g1 ∧ sb ≠ g1 ∧ ∀ k, rowOf v8 = some k → k ≠ g1) := Lib.hid ⟨Hg5.out.1, Hg5.out.2.1, fun k hk => by
    rcases hr8 k hk with e | e
    · exact Hg5.out.2.2 k e
    · omega⟩
  have HTk := Lib.hid (clTake_any _ cb sb true _ 1000 2000 0 v8 w8 hc8 (by omega) (by simp [tenB]) (by omega))
  rw [awh7, awh8] at HTk
  obtain ⟨y, hy⟩ : ∃ y, y = peekV true 1000 ([] ++ tenB) 0 := ⟨_, rfl⟩
  have Hy : Hid (y.kind = 2 ∧ y.front.kind = 83) := Lib.hid (by rw [hy]; exact ⟨awh5, awh6⟩)
  rw [← hy] at HTk
  clear hc8 hr8 hT8 hg7 HF hy H7 HB7 Hb7 Hg5
  obtain ⟨yk, yh, ⟨yf1, yf2, yf3, yf4, yf5, yf6, yf7, yf8, yf9, yf10⟩, yco, yt⟩ := y
  dsimp only at Hy
  obtain ⟨rfl, rfl⟩ := Hy.out
  go_wp2_with fail
  refine HTk.out.mono ?_
  rintro e w9 ⟨⟨py, cy, ay, rfl, -, -⟩, v9, hc9, hr9, hT9⟩
  have H9 := Lib.hid hc9
  have HB9 := Lib.hid (hT9.blk HB8.out (fun e => by rcases e with e | e; (· exact Hg8.out.2.1 e.symm); (· exact Hg8.out.2.2 g1 e rfl)))
  have Hb9 := Lib.hid (Hb8.out.trans (frT_belowC H8.out hT9 Hb8.out.size))
  have Hg9 : Hid (cb ≠ g1 ∧ sb ≠ g1 ∧ ∀ k, rowOf v9 = some k → k ≠ g1) := Lib.hid ⟨Hg8.out.1, Hg8.out.2.1, fun k hk => Hg8.out.2.2 k (hr9 k hk)⟩
  unfold itArg itCells
  dsimp only
  clear hc9 hr9 hT9 HTk H8 Hb8 Hy HB8 Hg8
  go_wp2_with (refine wpList_store_it _ rfl (.tmp 4) (.tmp 30) rfl w9.heap.size _ _ rfl rfl (Blk.new _ _ _) rfl rfl (by simp [Value.oneCell']) ?_; intro wa hb hT; have HBwa := Lib.hid hb; have HTwa := Lib.hid hT; clear hb hT)
  have hz10 : w9.heap.size < wa.heap.size := Nat.lt_of_lt_of_le (by simp) HTwa.out.size
  have Hc10 := Lib.hid ((H9.out.still ((Below.refl _ _).alloc (Nat.le_refl _) (.cells #[.int .i64 0, .int .i64 0, .int .i64 0, .int .i64 0, .slice none 0 0, .int .u8 0, .int .u8 0, .string ⟨#[]⟩, .string ⟨#[]⟩, .string ⟨#[]⟩, .slice none 0 0, .slice none 0 0, .slice none 0 0, .slice none 0 0, .int .i64 0, .string ⟨#[]⟩, .string ⟨#[]⟩] 69))).touch HTwa.out (by have := H9.out.blk.lt; omega) (by have := H9.out.fr.blk.lt; omega) (fun k hk => by have := (H9.out.fr.own.row k hk).2; omega))
  have HB10 := Lib.hid (HTwa.out.blk (HB9.out.alloc (.cells #[.int .i64 0, .int .i64 0, .int .i64 0, .int .i64 0, .slice none 0 0, .int .u8 0, .int .u8 0, .string ⟨#[]⟩, .string ⟨#[]⟩, .string ⟨#[]⟩, .slice none 0 0, .slice none 0 0, .slice none 0 0, .slice none 0 0, .int .i64 0, .string ⟨#[]⟩, .string ⟨#[]⟩] 69)) (by have := HB9.out.lt; omega))
  have Hb10 := Lib.hid (Hb9.out.trans (((Below.refl w9.heap.size w9).alloc (Nat.le_refl _) (.cells #[.int .i64 0, .int .i64 0, .int .i64 0, .int .i64 0, .slice none 0 0, .int .u8 0, .int .u8 0, .string ⟨#[]⟩, .string ⟨#[]⟩, .string ⟨#[]⟩, .slice none 0 0, .slice none 0 0, .slice none 0 0, .slice none 0 0, .int .i64 0, .string ⟨#[]⟩, .string ⟨#[]⟩] 69)).trans (HTwa.out.below (by simp) (fun k e => by omega)) |>.mono Hb9.out.size))
  have Hg10 : Hid (sb ≠ w9.heap.size) := Lib.hid (by have := H9.out.fr.blk.lt; omega)
  obtain ⟨g2, hg2⟩ : ∃ g2, g2 = w9.heap.size := ⟨_, rfl⟩
  rw [← hg2] at HBwa Hg10 hz10 ⊢
  have HPk := Lib.hid (clPeek_any _ cb sb true [100, 0, 0, 0, 4] 1000 2000 0 v9 wa Hc10.out (by omega) (by simp) (by omega))
  have HBa := HBwa
  obtain ⟨z, hz⟩ : ∃ z, z = peekV true 1000 [100, 0, 0, 0, 4] 0 := ⟨_, rfl⟩
  have Hz : Hid (z.kind = 3 ∧ z.code = codeA) := Lib.hid (by rw [hz]; exact ⟨awh9, awh10⟩)
  rw [← hz] at HPk
  clear hg2 hz HTwa HBwa H9 Hb9 HB9
  obtain ⟨zk, zh, zf, zco, zt⟩ := z
  dsimp only at Hz
  obtain ⟨rfl, rfl⟩ := Hz.out
  go_wp2_with fail
  refine HPk.out.mono ?_
  rintro e wb ⟨⟨pz, cz, az, rfl, -, -⟩, hcb, hTb⟩
  have HB11 := Lib.hid (hTb.blk HB10.out (fun e => Hg9.out.2.1 e.symm))
  have HB12 := Lib.hid (hTb.blk HBa.out (fun e => Hg10.out e.symm))
  have Hb11 := Lib.hid (Hb10.out.trans (hTb.below Hb10.out.size (fun k e => by rw [e]; exact hcb.fr.sB)))
  unfold itArg itCells codeA
  dsimp only
  clear hcb hTb HPk Hc10 HB10 HBa Hb10 Hz Hg9 Hg10 hz10
  have hcd : ((⟨#[48, 65, 48, 48, 48]⟩ : ByteArray).toList == (⟨#[48, 65, 48, 48, 48]⟩ : ByteArray).toList) = true := beq_self_eq_true _
  go_wp2_with (refine wpList_store_it _ rfl (.tmp 5) (.tmp 32) rfl wb.heap.size _ _ rfl rfl (Blk.new _ _ _) rfl rfl (by simp [Value.oneCell']) ?_; intro wc hb hT; have HBwc := Lib.hid hb; have HTwc := Lib.hid hT; have c1 : wc.cell? ⟨g1, 0, none⟩ = some (.int .i64 1) := (hT.blk (HB11.out.alloc _) (by have := HB11.out.lt; omega)).cell 0; have c2 : wc.cell? ⟨g1, 1, none⟩ = some (.int .i64 196608) := (hT.blk (HB11.out.alloc _) (by have := HB11.out.lt; omega)).cell 1; have c3 : wc.cell? ⟨g2, 0, none⟩ = some (.int .i64 2) := (hT.blk (HB12.out.alloc _) (by have := HB12.out.lt; omega)).cell 0; have c4 : wc.cell? ⟨g2, 5, none⟩ = some (.int .u8 83) := (hT.blk (HB12.out.alloc _) (by have := HB12.out.lt; omega)).cell 5; have c5 : wc.cell? ⟨wb.heap.size, 0, none⟩ = some (.int .i64 3) := hb.cell 0; have c6 : wc.cell? ⟨wb.heap.size, 15, none⟩ = some (.string ⟨#[48, 65, 48, 48, 48]⟩) := hb.cell 15; have Hbc := Lib.hid (Hb11.out.trans (((Below.refl wb.heap.size wb).alloc (Nat.le_refl _) (.cells #[.int .i64 0, .int .i64 0, .int .i64 0, .int .i64 0, .slice none 0 0, .int .u8 0, .int .u8 0, .string ⟨#[]⟩, .string ⟨#[]⟩, .string ⟨#[]⟩, .slice none 0 0, .slice none 0 0, .slice none 0 0, .slice none 0 0, .int .i64 0, .string ⟨#[]⟩, .string ⟨#[]⟩] 69)).trans (hT.below (by simp) (fun k e => by omega)) |>.mono Hb11.out.size)); clear hb hT)
  go_ret
  exact ⟨rfl, Hbc.out⟩

set_option maxRecDepth 100000 in
set_option maxHeartbeats 8000000 in
theorem clientNobody_walk (p : Option Addr) (n c : Nat) (w : World) : Calls Try.prog 7 #[.slice p n c] w fun e w' => e = .returned (.bool true) ∧ Below w.heap.size w w' := by
  have hzb : ∀ W, Below (w.heap.size + 1) (w.alloc (.cells #[.pointer none, .bool false] 60)) W → ∀ i, W.cell? ⟨w.heap.size, i, none⟩ = (#[.pointer none, .bool false] : Array Value)[i]? := fun W hb => ((Blk.new w 60 #[.pointer none, .bool false]).below hb (by omega)).cell
  have HRz : Hid (∀ W, Below (w.heap.size + 1) (w.alloc (.cells #[.pointer none, .bool false] 60)) W → Calls Try.prog 40 #[.pointer (some ⟨w.heap.size, 0, none⟩)] W fun e w' => e = .returned (.bool false) ∧ W = w') := Lib.hid (fun W hb => clReady_blk w.heap.size _ none W (hzb W hb))
  have HRn := Lib.hid clReady_nil
  have Hal : Hid (Below w.heap.size w (w.alloc (.cells #[.pointer none, .bool false] 60)) ∧ (w.alloc (.cells #[.pointer none, .bool false] 60)).heap.size = w.heap.size + 1) := Lib.hid ⟨(Below.refl _ _).alloc (Nat.le_refl _) _, by simp⟩
  have Haw := Lib.hid clAwake
  have HitK : ∀ (p : Option Addr) (c : Nat) (a : FoP) (W : World), (Instr.field 69 (itArg itNo p c a) 0).run Try.prog W = .ok (.int .i64 0) W := fun p c a W => by
    unfold itArg itCells itNo helNo foZero
    kernel_rfl
  clear hzb
  go_enter Try.func7, Try.ntmps7
  go_wp2_with fail
  generalize (w.alloc (.cells #[.pointer none, .bool false] 60)) = w1 at *
  refine (clBegin_nil _).mono ?_
  rintro e wx ⟨rfl, rfl⟩
  go_wp2_with fail
  refine (clFeed_none none _ _ (HRn.out _)).mono ?_
  rintro e wx ⟨rfl, rfl⟩
  go_wp2_with fail
  refine (clFeed_none _ _ _ (HRz.out _ (Below.refl _ _))).mono ?_
  rintro e wx ⟨rfl, rfl⟩
  go_wp2_with fail
  refine (clPeek_none none _ (HRn.out _)).mono ?_
  rintro e w2 ⟨⟨p2, c2, a2, rfl⟩, hb2⟩
  have Hb2 : Hid (Below (w.heap.size + 1) w1 w2) := Lib.hid (by rw [← Hal.out.2]; exact hb2)
  have hf2 := HitK p2 c2 a2
  generalize itArg itNo p2 c2 a2 = i2 at *
  clear hb2
  go_wp2_with fail
  refine (clTake_none _ _ (HRz.out _ (Hb2.out.alloc (by have := Hb2.out.size; have := Hal.out.2; omega) _))).mono ?_
  rintro e w3 ⟨⟨p3, c3, a3, rfl⟩, hb3⟩
  have Hb3 : Hid (Below (w.heap.size + 1) w1 w3) := Lib.hid (Hb2.out.trans (hb3.mono (by have := Hb2.out.size; have := Hal.out.2; omega)))
  have hf3 := HitK p3 c3 a3
  generalize itArg itNo p3 c3 a3 = i3 at *
  clear hb3 Hb2
  go_wp2_with fail
  refine (clSize_none none _ (HRn.out _)).mono ?_
  rintro e wx ⟨rfl, rfl⟩
  go_wp2_with fail
  refine (clSize_none _ _ (HRz.out _ Hb3.out)).mono ?_
  rintro e wx ⟨rfl, rfl⟩
  go_wp2_with fail
  refine (Haw.out _).mono ?_
  rintro e w4 ⟨rfl, hb4⟩
  have Hb4 : Hid (Below w.heap.size w w4) := Lib.hid ((Hal.out.1.trans (Hb3.out.mono (by omega))).trans (hb4.mono (by have := Hb3.out.size; have := Hal.out.2; omega)))
  clear hb4
  go_wp2_with fail
  go_ret
  exact ⟨rfl, Hb4.out⟩
end Go.Proofs.Ytacnmdlefonjmaa

