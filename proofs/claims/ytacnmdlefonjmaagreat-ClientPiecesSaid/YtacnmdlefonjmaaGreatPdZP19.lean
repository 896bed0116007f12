/-
  Ground: HeL, ClD, RcL, RcM.
-/
import Derived.Test.YtacnmdlefonjmaaGreatPdZP18
import Derived.Deep.RegionHeld3
import Derived.Test.YtacnmdlefonjmaaGreatPdZP17
import Derived.Test.YtacnmdlefonjmaaGreatPdZP13
/-
  First messages (layer 5): the document's Build.
-/
namespace Go.Proofs.YtacnmdlefonjmaaGreat
open Go.RowKit
set_option linter.unusedVariables false
set_option linter.unusedSimpArgs false

theorem below_drew1 {w w' : World} (h : Below (w.drewN 1).heap.size (w.drewN 1) w') : Below w.heap.size w w' :=
  (((Touch.refl (fun _ => False) w).drewN 1).below (Nat.le_refl _) (fun _ e => e.elim)).trans h

set_option maxRecDepth 100000 in
set_option maxHeartbeats 4000000 in
theorem rbuild_no (S : Nat → Prop) (h : HelV) (p : Option Addr) (c : Nat) (w : World) (hs : SliceS 2 PrS S w [.slice p h.params.length c] h.params) (hsz : ∀ x ∈ h.params, x.name.size ≤ 100000 ∧ x.value.size ≤ 100000) (hm : mayV h = false) :
    Calls Tryz.prog 43 #[helArg h p c] w (BuildR h w) := by
  obtain ⟨hb, hs1, hw⟩ := hel_box hs
  have HM := Lib.hid (fun w0 hs0 => rmay_any S h p c w0 hs0 hsz)
  rw [hm] at HM
  have Hv : Hid (buildV h = ([], 1)) := Lib.hid (by unfold buildV; rw [hm]; rfl)
  have Hw := Lib.hid hw
  have Hs0 := Lib.hid hs
  have Hs1 := Lib.hid hs1
  have Hb := Lib.hid hb
  have hmany := parsB_many h.params
  unfold BuildR
  generalize buildV h = bv at *
  obtain ⟨hc0, hc1, hc2, L⟩ := h
  dsimp only at *
  skip
  obtain ⟨-, hlc, hcm⟩ := hs.len
  unfold maxLen at hcm
  unfold helArg helCells at *
  dsimp only at *
  clear hs hs1 hb hw hm hsz
  go_enter Tryz.func43, Tryz.ntmps43
  go_upto_region 1 with (fail)
  have hlt := Hb.out.lt
  generalize w.alloc (.cells #[.int .i64 hc0, .int .i64 hc1, .int .i64 hc2, .slice p L.length c] 42) = w1 at *
  have hc := Hb.out.cell
  go_wp2_with fail
  refine (HM.out w1 Hs1.out).mono ?_
  rintro e w2 ⟨rfl, hb2⟩
  have hsz2 := hb2.size
  have hcw : ∀ i, w2.cell? ⟨w.heap.size, i, none⟩ = (#[.int .i64 hc0, .int .i64 hc1, .int .i64 hc2, .slice p L.length c] : Array Value)[i]? := (Hb.out.below hb2 hlt).cell
  have Hb2 := Lib.hid (Hb.out.below hb2 hlt)
  have HW2 := Lib.hid (Hw.out.trans (hb2.mono Hw.out.size))
  clear hc hb2
  go_wp2_with fail
  go_ret2
  rw [Hv.out]
  exact ⟨_, rfl, OwnBR.empty _ _ _, HW2.out⟩

set_option maxRecDepth 100000 in
set_option maxHeartbeats 4000000 in
theorem rbuild_ssl (S : Nat → Prop) (h : HelV) (p : Option Addr) (c : Nat) (w : World) (hs : SliceS 2 PrS S w [.slice p h.params.length c] h.params) (hsz : ∀ x ∈ h.params, x.name.size ≤ 100000 ∧ x.value.size ≤ 100000) (hm : mayV h = true) (h1 : h.code = 80877103) :
    Calls Tryz.prog 43 #[helArg h p c] w (BuildR h w) := by
  obtain ⟨hb, hs1, hw⟩ := hel_box hs
  have HM := Lib.hid (fun w0 hs0 => rmay_any S h p c w0 hs0 hsz)
  rw [hm] at HM
  have Hv : Hid (buildV h = (putV [] 80877103 4, 0)) := Lib.hid (by unfold buildV bodyV; rw [if_pos hm, h1]; simp)
  have Hw := Lib.hid hw
  have Hs0 := Lib.hid hs
  have Hs1 := Lib.hid hs1
  have Hb := Lib.hid hb
  have hmany := parsB_many h.params
  unfold BuildR
  generalize buildV h = bv at *
  obtain ⟨hc0, hc1, hc2, L⟩ := h
  dsimp only at *
  subst h1
  obtain ⟨-, hlc, hcm⟩ := hs.len
  unfold maxLen at hcm
  unfold helArg helCells at *
  dsimp only at *
  clear hs hs1 hb hw hm hsz
  go_enter Tryz.func43, Tryz.ntmps43
  go_upto_region 1 with (fail)
  have hlt := Hb.out.lt
  generalize w.alloc (.cells #[.int .i64 80877103, .int .i64 hc1, .int .i64 hc2, .slice p L.length c] 42) = w1 at *
  have hc := Hb.out.cell
  go_wp2_with fail
  refine (HM.out w1 Hs1.out).mono ?_
  rintro e w2 ⟨rfl, hb2⟩
  have hsz2 := hb2.size
  have hcw : ∀ i, w2.cell? ⟨w.heap.size, i, none⟩ = (#[.int .i64 80877103, .int .i64 hc1, .int .i64 hc2, .slice p L.length c] : Array Value)[i]? := (Hb.out.below hb2 hlt).cell
  have Hb2 := Lib.hid (Hb.out.below hb2 hlt)
  have HW2 := Lib.hid (Hw.out.trans (hb2.mono Hw.out.size))
  clear hc hb2
  have Hp := Lib.hid (putR_any none [] 0 80877103 4 w2 (by simp) (BytesIn.nil _ _))
  go_wp2_with fail
  refine Hp.out.mono ?_
  rintro e w3 ⟨v3, rfl, ho3, hb3⟩
  have hsz3 := hb3.size
  have Ho3 : Hid (OwnBR w.heap.size w3 v3 _) := Lib.hid (OwnR.base (OwnBR.of ho3) (show w.heap.size ≤ w2.heap.size by omega))
  have hcw3 : ∀ i, w3.cell? ⟨w.heap.size, i, none⟩ = (#[.int .i64 80877103, .int .i64 hc1, .int .i64 hc2, .slice p L.length c] : Array Value)[i]? := (Hb2.out.below hb3 (by omega)).cell
  have Hb3 := Lib.hid (Hb2.out.below hb3 (by omega))
  have HW3 := Lib.hid (HW2.out.trans (hb3.mono HW2.out.size))
  clear hb3 ho3 hcw Hp
  go_wp2_with fail
  go_ret2
  rw [Hv.out]
  exact ⟨_, rfl, Ho3.out, HW3.out⟩

set_option maxRecDepth 100000 in
set_option maxHeartbeats 4000000 in
theorem rbuild_cancel (S : Nat → Prop) (h : HelV) (p : Option Addr) (c : Nat) (w : World) (hs : SliceS 2 PrS S w [.slice p h.params.length c] h.params) (hsz : ∀ x ∈ h.params, x.name.size ≤ 100000 ∧ x.value.size ≤ 100000) (hm : mayV h = true) (h1 : h.code = 80877102) :
    Calls Tryz.prog 43 #[helArg h p c] w (BuildR h w) := by
  obtain ⟨hb, hs1, hw⟩ := hel_box hs
  have HM := Lib.hid (fun w0 hs0 => rmay_any S h p c w0 hs0 hsz)
  rw [hm] at HM
  have Hv : Hid (buildV h = (putV (putV (putV [] 80877102 4) h.process 4) h.secret 4, 0)) := Lib.hid (by unfold buildV bodyV; rw [if_pos hm, h1]; simp)
  have Hw := Lib.hid hw
  have Hs0 := Lib.hid hs
  have Hs1 := Lib.hid hs1
  have Hb := Lib.hid hb
  have hmany := parsB_many h.params
  unfold BuildR
  generalize buildV h = bv at *
  obtain ⟨hc0, hc1, hc2, L⟩ := h
  dsimp only at *
  subst h1
  obtain ⟨-, hlc, hcm⟩ := hs.len
  unfold maxLen at hcm
  unfold helArg helCells at *
  dsimp only at *
  clear hs hs1 hb hw hm hsz
  go_enter Tryz.func43, Tryz.ntmps43
  go_upto_region 1 with (fail)
  have hlt := Hb.out.lt
  generalize w.alloc (.cells #[.int .i64 80877102, .int .i64 hc1, .int .i64 hc2, .slice p L.length c] 42) = w1 at *
  have hc := Hb.out.cell
  go_wp2_with fail
  refine (HM.out w1 Hs1.out).mono ?_
  rintro e w2 ⟨rfl, hb2⟩
  have hsz2 := hb2.size
  have hcw : ∀ i, w2.cell? ⟨w.heap.size, i, none⟩ = (#[.int .i64 80877102, .int .i64 hc1, .int .i64 hc2, .slice p L.length c] : Array Value)[i]? := (Hb.out.below hb2 hlt).cell
  have Hb2 := Lib.hid (Hb.out.below hb2 hlt)
  have HW2 := Lib.hid (Hw.out.trans (hb2.mono Hw.out.size))
  clear hc hb2
  have Hp := Lib.hid (putR_any none [] 0 80877102 4 w2 (by simp) (BytesIn.nil _ _))
  go_wp2_with fail
  refine Hp.out.mono ?_
  rintro e w3 ⟨v3, rfl, ho3, hb3⟩
  have hsz3 := hb3.size
  have Ho3 : Hid (OwnBR w.heap.size w3 v3 _) := Lib.hid (OwnR.base (OwnBR.of ho3) (show w.heap.size ≤ w2.heap.size by omega))
  have hcw3 : ∀ i, w3.cell? ⟨w.heap.size, i, none⟩ = (#[.int .i64 80877102, .int .i64 hc1, .int .i64 hc2, .slice p L.length c] : Array Value)[i]? := (Hb2.out.below hb3 (by omega)).cell
  have Hb3 := Lib.hid (Hb2.out.below hb3 (by omega))
  have HW3 := Lib.hid (HW2.out.trans (hb3.mono HW2.out.size))
  clear hb3 ho3 hcw Hp
  have hl3 := putV_len4 [] 80877102 4
  have hl4 := putV_len4 (putV [] 80877102 4) hc1 4
  simp only [List.length_nil] at hl3
  obtain ⟨p3, c3, hv3, k3, m3, q3, -⟩ := Ho3.out.slice
  subst hv3
  have Hp2 := Lib.hid (putR_any p3 (putV [] 80877102 4) c3 hc1 4 (w3.drewN 1) (by omega) (q3.drewN 1))
  have Hq3 := Lib.hid q3
  clear q3
  generalize (putV [] 80877102 4).length = n3 at *
  go_upto_region 13 with (fail)
  go_region_held3 (fun w' => ∀ i, w'.cell? ⟨w.heap.size, i, none⟩ = (#[.int .i64 80877102, .int .i64 hc1, .int .i64 hc2, .slice p L.length c] : Array Value)[i]?)
    (first | exact hcw3 | exact hcw4 | exact hcw5 | go_keep)
    (first
      | (go_at_call 69; refine Hp3.out.mono ?_; rintro e w5 ⟨v5, rfl, ho5, hb5⟩; have HW5 := Lib.hid (HW4.out.trans (hb5.mono HW4.out.size)); have Ho5 : Hid (OwnBR w.heap.size w5 v5 _) := Lib.hid (OwnR.base (OwnBR.of ho5) (show w.heap.size ≤ w4.heap.size by omega)); have hcw5 : ∀ i, w5.cell? ⟨w.heap.size, i, none⟩ = (#[.int .i64 80877102, .int .i64 hc1, .int .i64 hc2, .slice p L.length c] : Array Value)[i]? := (HX4.out.below hb5 (by omega)).cell; clear hb5 ho5)
      | (go_at_call 69; refine Hp2.out.mono ?_; rintro e w4 ⟨v4, rfl, ho4, hb4'⟩; have hb4 := below_drew1 hb4'; clear hb4'; have hsz4 := hb4.size; have HX4 := Lib.hid (Hb3.out.below hb4 (by omega)); have hcw4 : ∀ i, w4.cell? ⟨w.heap.size, i, none⟩ = (#[.int .i64 80877102, .int .i64 hc1, .int .i64 hc2, .slice p L.length c] : Array Value)[i]? := HX4.out.cell; have HW4 := Lib.hid (HW3.out.trans (hb4.mono HW3.out.size)); have Ho4 := Lib.hid (OwnBR.of ho4); clear hb4 ho4; obtain ⟨p4, c4, hv4, k4, m4, q4, -⟩ := Ho4.out.slice; subst hv4; have Hp3 := Lib.hid (putR_any p4 (putV (putV [] 80877102 4) hc1 4) c4 hc2 4 w4 (by omega) q4); clear q4))
  clear hcw3 hcw4 hcw5
  go_wp2_with fail
  go_ret2
  rw [Hv.out]
  exact ⟨_, rfl, Ho5.out, HW5.out⟩

set_option maxRecDepth 100000 in
set_option maxHeartbeats 4000000 in
theorem rbuild_version (S : Nat → Prop) (h : HelV) (p : Option Addr) (c : Nat) (w : World) (hs : SliceS 2 PrS S w [.slice p h.params.length c] h.params) (hsz : ∀ x ∈ h.params, x.name.size ≤ 100000 ∧ x.value.size ≤ 100000) (hl : (parsB h.params).length ≤ 100000) (hm : mayV h = true) (h1 : h.code = 196608) :
    Calls Tryz.prog 43 #[helArg h p c] w (BuildR h w) := by
  obtain ⟨hb, hs1, hw⟩ := hel_box hs
  have HM := Lib.hid (fun w0 hs0 => rmay_any S h p c w0 hs0 hsz)
  rw [hm] at HM
  have Hv : Hid (buildV h = ((putV [] 196608 4 ++ parsB h.params) ++ [0], 0)) := Lib.hid (by unfold buildV bodyV; rw [if_pos hm, h1]; simp)
  have Hpl := Lib.hid (putV_len4 [] 196608 4)
  have Hw := Lib.hid hw
  have Hs0 := Lib.hid hs
  have Hs1 := Lib.hid hs1
  have Hb := Lib.hid hb
  have hmany := parsB_many h.params
  unfold BuildR
  generalize buildV h = bv at *
  obtain ⟨hc0, hc1, hc2, L⟩ := h
  dsimp only at *
  subst h1
  obtain ⟨-, hlc, hcm⟩ := hs.len
  unfold maxLen at hcm
  unfold helArg helCells at *
  dsimp only at *
  clear hs hs1 hb hw hm hsz
  go_enter Tryz.func43, Tryz.ntmps43
  go_upto_region 1 with (fail)
  have hlt := Hb.out.lt
  generalize w.alloc (.cells #[.int .i64 196608, .int .i64 hc1, .int .i64 hc2, .slice p L.length c] 42) = w1 at *
  have hc := Hb.out.cell
  go_wp2_with fail
  refine (HM.out w1 Hs1.out).mono ?_
  rintro e w2 ⟨rfl, hb2⟩
  have hsz2 := hb2.size
  have hcw : ∀ i, w2.cell? ⟨w.heap.size, i, none⟩ = (#[.int .i64 196608, .int .i64 hc1, .int .i64 hc2, .slice p L.length c] : Array Value)[i]? := (Hb.out.below hb2 hlt).cell
  have Hb2 := Lib.hid (Hb.out.below hb2 hlt)
  have HW2 := Lib.hid (Hw.out.trans (hb2.mono Hw.out.size))
  clear hc hb2
  have Hp := Lib.hid (putR_any none [] 0 196608 4 w2 (by simp) (BytesIn.nil _ _))
  go_wp2_with fail
  refine Hp.out.mono ?_
  rintro e w3 ⟨v3, rfl, ho3, hb3⟩
  have hsz3 := hb3.size
  have Ho3 : Hid (OwnBR w2.heap.size w3 v3 _) := Lib.hid (OwnBR.of ho3)
  have hcw3 : ∀ i, w3.cell? ⟨w.heap.size, i, none⟩ = (#[.int .i64 196608, .int .i64 hc1, .int .i64 hc2, .slice p L.length c] : Array Value)[i]? := (Hb2.out.below hb3 (by omega)).cell
  have Hb3 := Lib.hid (Hb2.out.below hb3 (by omega))
  have HW3' := Lib.hid hb3
  have HW3 := Lib.hid (HW2.out.trans (hb3.mono HW2.out.size))
  clear hb3 ho3 hcw Hp
  obtain ⟨P, hP⟩ : ∃ P, putV [] 196608 4 = P := ⟨_, rfl⟩
  rw [hP] at Hv Hpl Ho3
  have hpl := Hpl.out
  simp only [List.length_nil] at hpl
  clear hP Hpl
  have hlt2 : w.heap.size < w2.heap.size := by omega
  go_wp2_with fail
  clear hcw3
  go_loopw [4, 5] (fun v i wr => ∃ k : Nat, k ≤ L.length ∧ i = .int .i64 k ∧ OwnBR w2.heap.size wr v (P ++ parsB (L.take k)) ∧ Below w2.heap.size w2 wr) (fun _ i _ => L.length - (intOf i).toNat)
  case atStart => exact ⟨0, Nat.zero_le _, rfl, (by have h0 : P ++ parsB (L.take 0) = P := (by simp [parsB]); rw [h0]; exact Ho3.out), HW3'.out⟩
  case round =>
    obtain ⟨k, hk, rfl, ho, hb⟩ := hrel
    have hsz := hb.size
    have Hbw := Lib.hid hb
    have Ho := Lib.hid ho
    by_cases hltk : k < L.length
    · obtain ⟨b, o, rfl, hS, hbl, c0, c1⟩ := pr_at Hs0.out hltk
      have Hk := Lib.hid (parsB_take hltk)
      have Hle := Lib.hid (parsB_le L (k + 1))
      have HbX : Hid (∀ w', Below w2.heap.size w2 w' → ∀ i, w'.cell? ⟨w.heap.size, i, none⟩ = (#[.int .i64 196608, .int .i64 hc1, .int .i64 hc2, .slice (some ⟨b, o, none⟩) L.length c] : Array Value)[i]?) := Lib.hid (fun w' h' => (Hb2.out.below h' hlt2).cell)
      have HcX : Hid (∀ w', Below w2.heap.size w2 w' → w'.cell? ⟨b, o + k * 2, none⟩ = some (.string L[k].name) ∧ w'.cell? ⟨b, o + k * 2 + 1, none⟩ = some (.string L[k].value)) := Lib.hid (fun w' h' => by
        have hww := HW2.out.trans (h'.mono HW2.out.size)
        exact ⟨(hww.cell (p := ⟨b, o + k * 2, none⟩) hbl).trans c0, (hww.cell (p := ⟨b, o + k * 2 + 1, none⟩) hbl).trans c1⟩)
      have c0' := (HcX.out wr hb).1
      have hcr := HbX.out wr hb
      clear ho hb hS c0 c1
      generalize L[k] = x at *
      have hlti : (k : Int) < (L.length : Int) := by omega
      obtain ⟨Q, hQ⟩ : ∃ Q, P ++ parsB (L.take k) = Q := ⟨_, rfl⟩
      rw [hQ] at Ho
      have hle := Hle.out
      have hQx : Q.length + (prB x).length ≤ 100004 := by rw [Hk.out, List.length_append] at hle; rw [← hQ, List.length_append]; omega
      have HQ := Lib.hid hQ
      have hr1 : Q.length + x.name.data.toList.length ≤ 200000 := by simp [prB] at hQx ⊢; omega
      have hr2 : (Q ++ x.name.data.toList).length + 1 ≤ 300000 := by rw [List.length_append]; omega
      have hr3 : ((Q ++ x.name.data.toList) ++ [0]).length + x.value.data.toList.length ≤ 400000 := by simp [prB] at hQx ⊢; omega
      have hr4 : (((Q ++ x.name.data.toList) ++ [0]) ++ x.value.data.toList).length + 1 ≤ 500000 := by rw [List.length_append]; omega
      clear hQ hle Hle
      go_upto_region 10 with (first
            | (at_builtin; refine step_appendStr _ rfl (.tmp 23) (.tmp 29) rfl w2.heap.size u4 _ rfl Ho.out x.name rfl (by omega) (by omega) ?_; intro v5name w5name ho5 hg5 hn5; have Ho5name := Lib.hid ho5; have hz5name := hg5.size; have HB5name : Hid (Below w2.heap.size w2 w5name) := Lib.hid (Hbw.out.trans (Below.of_row hg5 (by omega) (fun k hk => (Ho.out.row k hk).1))); clear ho5 hg5 hn5)
            | (at_builtin; refine step_appendBR _ rfl (.tmp 30) (.tmp 31) rfl w2.heap.size v5name _ rfl (Ho5name.out.alloc _) (some ⟨w5name.heap.size, 0, none⟩) [0] 1 1 rfl rfl (BytesIn.new1 w5name 0 0 _ rfl) (by rw [List.length_singleton]; omega) (by rw [World.size_alloc]; omega) ?_; intro v6name w6name ho6 hg6 hn6; have Ho6name := Lib.hid ho6; have HB6name : Hid (Below w2.heap.size w2 w6name) := Lib.hid ((HB5name.out.alloc (by omega) _).trans (Below.of_row hg6 (by rw [World.size_alloc]; omega) (fun k hk => (Ho5name.out.row k hk).1))); have hz6name := HB6name.out.size; clear ho6 hg6 hn6; have hcw6name := HbX.out w6name HB6name.out; have c16name := (HcX.out w6name HB6name.out).2))
      clear hcr c0'
      go_wp2_with (first
            | (at_builtin; refine step_appendStr _ rfl (.tmp 33) (.tmp 39) rfl w2.heap.size v6name _ rfl Ho6name.out x.value rfl (by omega) (by omega) ?_; intro v5value w5value ho5 hg5 hn5; have Ho5value := Lib.hid ho5; have hz5value := hg5.size; have HB5value : Hid (Below w2.heap.size w2 w5value) := Lib.hid (HB6name.out.trans (Below.of_row hg5 (by omega) (fun k hk => (Ho6name.out.row k hk).1))); clear ho5 hg5 hn5)
            | (at_builtin; refine step_appendBR _ rfl (.tmp 40) (.tmp 41) rfl w2.heap.size v5value _ rfl (Ho5value.out.alloc _) (some ⟨w5value.heap.size, 0, none⟩) [0] 1 1 rfl rfl (BytesIn.new1 w5value 0 0 _ rfl) (by rw [List.length_singleton]; omega) (by rw [World.size_alloc]; omega) ?_; intro v6value w6value ho6 hg6 hn6; have Ho6value := Lib.hid ho6; have HB6value : Hid (Below w2.heap.size w2 w6value) := Lib.hid ((HB5value.out.alloc (by omega) _).trans (Below.of_row hg6 (by rw [World.size_alloc]; omega) (fun k hk => (Ho5value.out.row k hk).1))); have hz6value := HB6value.out.size; clear ho6 hg6 hn6; have hcw6value := HbX.out w6value HB6value.out; have c16value := (HcX.out w6value HB6value.out).2))
      go_roundw
      case rel =>
        refine ⟨k + 1, by omega, by go_num, ?_, HB6value.out⟩
        have hfin := Ho6value.out
        rw [Hk.out, ← List.append_assoc, HQ.out]
        have he : Q ++ prB x = (((Q ++ x.name.data.toList) ++ [0]) ++ x.value.data.toList) ++ [0] := by simp [prB]
        rw [he]
        exact hfin
      case measure => simp [intOf]; omega
    · obtain rfl : k = L.length := by omega
      rw [parsB_all] at ho
      have Hoe := Lib.hid ho
      have hroom3 : (P ++ parsB L).length + 1 ≤ 200000 := by rw [List.length_append]; omega
      have hcr : ∀ i, wr.cell? ⟨w.heap.size, i, none⟩ = (#[.int .i64 196608, .int .i64 hc1, .int .i64 hc2, .slice p L.length c] : Array Value)[i]? := (Hb2.out.below hb hlt2).cell
      clear ho hb hltk hk Ho
      go_wp2_with (at_builtin; refine step_appendBR _ rfl (.tmp 43) (.tmp 44) rfl w2.heap.size u4 _ rfl (Hoe.out.alloc _) (some ⟨wr.heap.size, 0, none⟩) [0] 1 1 rfl rfl (BytesIn.new1 wr 0 0 _ rfl) (by rw [List.length_singleton]; omega) (by rw [World.size_alloc]; omega) ?_; intro v6 w6 ho6 hg6 hn6; have Ho6 := Lib.hid ho6; have HB6 : Hid (Below w2.heap.size w2 w6) := Lib.hid ((Hbw.out.alloc (by omega) _).trans (Below.of_row hg6 (by rw [World.size_alloc]; omega) (fun k hk => (Hoe.out.row k hk).1))); clear ho6 hg6 hn6)
      go_ret2
      rw [Hv.out]
      exact ⟨_, rfl, OwnR.base Ho6.out (by omega), HW2.out.trans (HB6.out.mono HW2.out.size)⟩

theorem rbuild_any (S : Nat → Prop) (h : HelV) (p : Option Addr) (c : Nat) (w : World) (hs : SliceS 2 PrS S w [.slice p h.params.length c] h.params) (hsz : ∀ x ∈ h.params, x.name.size ≤ 100000 ∧ x.value.size ≤ 100000) (hl : (parsB h.params).length ≤ 100000) :
    Calls Tryz.prog 43 #[helArg h p c] w (BuildR h w) := by
  cases hm : mayV h with
  | false => exact rbuild_no S h p c w hs hsz hm
  | true =>
    rcases may_code hm with h1 | h1 | h1
    · exact rbuild_version S h p c w hs hsz hl hm h1
    · exact rbuild_cancel S h p c w hs hsz hm h1
    · exact rbuild_ssl S h p c w hs hsz hm h1

end Go.Proofs.YtacnmdlefonjmaaGreat

/-
  The first message of an ordinary client; whether what comes is told; ClientNobody's walk (layer 39).
-/
namespace Go.Proofs.YtacnmdlefonjmaaGreat
open Go.RowKit
set_option linter.unusedVariables false
set_option linter.unusedSimpArgs false

def awHel : HelV := ⟨196608, 0, 0, [⟨⟨#[117, 115, 101, 114]⟩, ⟨#[117]⟩⟩]⟩
def helloB : List UInt8 := [0, 0, 0, 16, 0, 3, 0, 0, 117, 115, 101, 114, 0, 117, 0, 0]
theorem awh0 : msgL 0 (buildV awHel).1 = helloB := by decide +kernel
theorem awhl : (buildV awHel).1.length ≤ 100000 := by decide +kernel
theorem awh1 : (peekV false 1000 ([] ++ helloB) 0).kind = 1 := by decide +kernel
theorem awh2 : (peekV false 1000 ([] ++ helloB) 0).hel.code = 196608 := by decide +kernel
theorem awh3 : restL false 1000 ([] ++ helloB) 0 = [] := by decide +kernel
theorem awh4 : wrongL false 1000 ([] ++ helloB) 0 = 0 := by decide +kernel
def tenB : List UInt8 := [83, 0, 0, 0, 4, 100, 0, 0, 0, 4]
theorem awh5 : (peekV true 1000 ([] ++ tenB) 0).kind = 2 := by decide +kernel
theorem awh6 : (peekV true 1000 ([] ++ tenB) 0).front.kind = 83 := by decide +kernel
theorem awh7 : restL true 1000 ([] ++ tenB) 0 = [100, 0, 0, 0, 4] := by decide +kernel
theorem awh8 : wrongL true 1000 ([] ++ tenB) 0 = 0 := by decide +kernel
theorem awh9 : (peekV true 1000 [100, 0, 0, 0, 4] 0).kind = 3 := by decide +kernel
theorem awh10 : (peekV true 1000 [100, 0, 0, 0, 4] 0).code = codeA := by decide +kernel
theorem tenA : (#[.int .u8 83, .int .u8 0, .int .u8 0, .int .u8 0, .int .u8 4, .int .u8 100, .int .u8 0, .int .u8 0, .int .u8 0, .int .u8 4] : Array Value).toList = bytesV tenB := by simp [bytesV, byteV, tenB]

set_option maxRecDepth 100000 in
set_option maxHeartbeats 8000000 in
theorem hello_any (w : World) : Calls Tryz.prog 23 #[] w fun e w' => ∃ v, e = .returned v ∧ OwnBR w.heap.size w' v helloB ∧ Below w.heap.size w w' := by
  have hs : SliceS 2 PrS (fun _ => True) (w.alloc (.cells #[.string ⟨#[117, 115, 101, 114]⟩, .string ⟨#[117]⟩] 93)) [.slice (some ⟨w.heap.size, 0, none⟩) 1 1] awHel.params := SliceS.new1 (S := fun _ => True) PrS.still w 93 #[.string ⟨#[117, 115, 101, 114]⟩, .string ⟨#[117]⟩] ⟨⟨#[117, 115, 101, 114]⟩, ⟨#[117]⟩⟩ rfl rfl (fun _ _ h => h) trivial
  have HB := Lib.hid (rbuild_any _ awHel _ 1 _ hs (by decide +kernel) (by decide +kernel))
  have Hal := Lib.hid ((Below.refl w.heap.size w).alloc (Nat.le_refl _) (.cells #[.string ⟨#[117, 115, 101, 114]⟩, .string ⟨#[117]⟩] 93))
  unfold helArg helCells awHel at HB
  clear hs
  go_enter Tryz.func23, Tryz.ntmps23
  go_wp2_with fail
  refine HB.out.mono ?_
  rintro e w2 ⟨v, rfl, ho, hb⟩
  rw [show (⟨196608, 0, 0, [⟨⟨#[117, 115, 101, 114]⟩, ⟨#[117]⟩⟩]⟩ : HelV) = awHel from rfl] at ho ⊢
  obtain ⟨p, c, rfl, hin⟩ := ho.bytesS (S := fun _ => True) (fun _ _ => trivial)
  obtain ⟨p', c', e', -, -, hq, -⟩ := hin
  simp only [List.cons.injEq, Value.slice.injEq, and_true] at e'
  obtain ⟨rfl, -, rfl⟩ := e'
  have Hb2 := Lib.hid (Hal.out.trans (hb.mono Hal.out.size))
  have HM := Lib.hid (frBytesR_any 0 _ p c w2 hq awhl)
  rw [awh0] at HM
  unfold msgArg at HM
  generalize (buildV awHel).1.length = n at *
  generalize (buildV awHel).2 = er at *
  clear ho hb hq HB Hal
  go_wp2_with fail
  refine HM.out.mono ?_
  rintro e w3 ⟨v3, rfl, ho3, hb3⟩
  have Ho3 := Lib.hid (ho3.base (Nat.le_trans Hb2.out.size (Nat.le_refl _)))
  have Hb3 := Lib.hid (Hb2.out.trans (hb3.mono Hb2.out.size))
  obtain ⟨p3, c3, rfl, _⟩ := OwnBR.slice ho3
  clear ho3 hb3 HM
  go_wp2_with fail
  go_ret
  exact ⟨_, rfl, Ho3.out, Hb3.out⟩

theorem frT_belowC {B cb sb : Nat} {t : Bool} {L : List UInt8} {most room : Nat} {wrong : Int} {v : Value} {w w' : World} (h : ClO B w cb sb t L most room wrong v) (hT : FrT sb v w w') (hB : B ≤ w.heap.size) : Below B w w' :=
  hT.below hB (fun k hk => by
    rcases hk with e | e
    · rw [e]; exact h.fr.sB
    · exact (h.fr.own.row k e).1)

set_option maxRecDepth 100000 in
set_option maxHeartbeats 16000000 in
theorem clAwake (w : World) : Calls Tryz.prog 8 #[] w fun e w' => e = .returned (.bool true) ∧ Below w.heap.size w w' := by
  have hN : Calls Tryz.prog 5 #[.int .i64 1000, .int .i64 2000] w _ := clNew_ok 1000 2000 w (by omega) (by omega) (by omega) (by omega)
  have HN := Lib.hid hN
  have HH := Lib.hid hello_any
  clear hN
  go_enter Tryz.func8, Tryz.ntmps8
  go_wp2_with fail
  refine HN.out.mono ?_
  rintro e w1 ⟨cb, sb, rfl, hc1, hb1⟩
  have H1 := Lib.hid hc1
  have Hb1 := Lib.hid hb1
  clear hc1 hb1 HN
  go_wp2_with fail
  refine (HH.out _).mono ?_
  rintro e w2 ⟨v2, rfl, ho2, hb2⟩
  have H2 := Lib.hid (H1.out.still hb2)
  have Hb2 := Lib.hid (Hb1.out.trans (hb2.mono Hb1.out.size))
  obtain ⟨p2, c2, rfl, -, -, hq, -⟩ := OwnBR.slice ho2
  have HF := Lib.hid (clFeed_ok _ cb sb false [] 1000 2000 0 _ p2 helloB c2 w2 H2.out (by omega) (by omega) (by simp [helloB]) Hb2.out.size hq)
  clear ho2 hb2 hq H1 Hb1
  go_wp2_with fail
  refine HF.out.mono ?_
  rintro e w3 ⟨v3, rfl, hc3, hr3, hT3⟩
  have H3 := Lib.hid hc3
  have Hb3 := Lib.hid (Hb2.out.trans (frT_belowC H2.out hT3 Hb2.out.size))
  have HTk := Lib.hid (clTake_any _ cb sb false _ 1000 2000 0 v3 w3 hc3 (by omega) (by simp [helloB]) (by omega))
  rw [awh3, awh4] at HTk
  obtain ⟨x, hx⟩ : ∃ x, x = peekV false 1000 ([] ++ helloB) 0 := ⟨_, rfl⟩
  have Hx : Hid (x.kind = 1 ∧ x.hel.code = 196608) := Lib.hid (by rw [hx]; exact ⟨awh1, awh2⟩)
  rw [← hx] at HTk
  clear hc3 hr3 hT3 HF hx H2 Hb2
  obtain ⟨xk, ⟨xc, xp, xs, xl⟩, xf, xco, xt⟩ := x
  dsimp only at Hx
  obtain ⟨rfl, rfl⟩ := Hx.out
  go_wp2_with fail
  refine HTk.out.mono ?_
  rintro e w4 ⟨⟨px, cx, ax, rfl, -, -⟩, v4, hc4, hr4, hT4⟩
  have H4 := Lib.hid hc4
  have Hb4 := Lib.hid (Hb3.out.trans (frT_belowC H3.out hT4 Hb3.out.size))
  unfold itArg itCells
  dsimp only
  clear hc4 hr4 hT4 HTk H3 Hb3 Hx
  go_wp2_with (refine wpList_store_it _ rfl (.tmp 3) (.tmp 23) rfl w4.heap.size _ _ rfl rfl (Blk.new _ _ _) rfl rfl (by simp [Value.oneCell']) ?_; intro w5 hb hT; have HBw5 := Lib.hid hb; have HTw5 := Lib.hid hT; clear hb hT)
  have hz5 : w4.heap.size < w5.heap.size := Nat.lt_of_lt_of_le (by simp) HTw5.out.size
  have H5 := Lib.hid ((H4.out.still ((Below.refl _ _).alloc (Nat.le_refl _) (.cells #[.int .i64 0, .int .i64 0, .int .i64 0, .int .i64 0, .slice none 0 0, .int .u8 0, .int .u8 0, .string ⟨#[]⟩, .string ⟨#[]⟩, .string ⟨#[]⟩, .slice none 0 0, .slice none 0 0, .slice none 0 0, .slice none 0 0, .int .i64 0, .string ⟨#[]⟩, .string ⟨#[]⟩] 48))).touch HTw5.out (by have := H4.out.blk.lt; omega) (by have := H4.out.fr.blk.lt; omega) (fun k hk => by have := (H4.out.fr.own.row k hk).2; omega))
  have Hb5 := Lib.hid (Hb4.out.trans (((Below.refl w4.heap.size w4).alloc (Nat.le_refl _) (.cells #[.int .i64 0, .int .i64 0, .int .i64 0, .int .i64 0, .slice none 0 0, .int .u8 0, .int .u8 0, .string ⟨#[]⟩, .string ⟨#[]⟩, .string ⟨#[]⟩, .slice none 0 0, .slice none 0 0, .slice none 0 0, .slice none 0 0, .int .i64 0, .string ⟨#[]⟩, .string ⟨#[]⟩] 48)).trans (HTw5.out.below (by simp) (fun k e => by omega)) |>.mono Hb4.out.size))
  have Hg5 : Hid (cb ≠ w4.heap.size ∧ sb ≠ w4.heap.size ∧ ∀ k, rowOf v4 = some k → k ≠ w4.heap.size) := Lib.hid ⟨by have := H4.out.blk.lt; omega, by have := H4.out.fr.blk.lt; omega, fun k hk => by have := (H4.out.fr.own.row k hk).2; omega⟩
  obtain ⟨g1, hg1⟩ : ∃ g1, g1 = w4.heap.size := ⟨_, rfl⟩
  rw [← hg1] at HBw5 Hg5 hz5 ⊢
  have HBg := Lib.hid (clBegin_any _ cb sb false [] 1000 2000 0 v4 w5 H5.out (by omega))
  have HB5 := HBw5
  clear hg1 HTw5 HBw5 H4 Hb4
  refine HBg.out.mono ?_
  rintro e w6 ⟨rfl, hc6, hT6⟩
  have H6 := Lib.hid hc6
  have HB6 := Lib.hid (hT6.blk HB5.out (fun e => by rcases e with e | e; (· exact Hg5.out.1 e.symm); (· exact Hg5.out.2.1 e.symm)))
  have Hb6 := Lib.hid (Hb5.out.trans (hT6.below Hb5.out.size (fun k e => by rcases e with e | e; (· rw [e]; exact hc6.cB); (· rw [e]; exact hc6.fr.sB))))
  have hin := BytesIn.newB w6 tenB _ 5 tenA
  have hal : Below w6.heap.size w6 (w6.alloc (.cells #[.int .u8 83, .int .u8 0, .int .u8 0, .int .u8 0, .int .u8 4, .int .u8 100, .int .u8 0, .int .u8 0, .int .u8 0, .int .u8 4] 5)) := (Below.refl _ _).alloc (Nat.le_refl _) _
  have HF := Lib.hid (clFeed_ok _ cb sb true [] 1000 2000 0 v4 _ tenB 10 _ (hc6.still hal) (by omega) (by omega) (by simp [tenB]) (Nat.le_trans Hb6.out.size hal.size) hin)
  have H7 := Lib.hid (hc6.still hal)
  have HB7 := Lib.hid (HB6.out.below hal HB6.out.lt)
  have Hb7 := Lib.hid (Hb6.out.trans (hal.mono Hb6.out.size))
  clear hc6 hT6 hin hal HBg H5 HB5 Hb5 HB6 Hb6 H6 hz5
  have htl : tenB.length = 10 := rfl
  rw [htl] at HF
  clear htl
  go_wp2_with fail
  generalize (w6.alloc (.cells #[.int .u8 83, .int .u8 0, .int .u8 0, .int .u8 0, .int .u8 4, .int .u8 100, .int .u8 0, .int .u8 0, .int .u8 0, .int .u8 4] 5)) = w7 at *
  refine HF.out.mono ?_
  rintro e w8 ⟨v8, rfl, hc8, hr8, hT8⟩
  have H8 := Lib.hid hc8
  have hg7 := HB7.out.lt
  have HB8 := Lib.hid (hT8.blk HB7.out (fun e => by rcases e with e | e; (· exact Hg5.out.2.1 e.symm); (· exact Hg5.out.2.2 g1 e rfl)))
  have Hb8 := Lib.hid (Hb7.out.trans (frT_belowC H7.out hT8 Hb7.out.size))
  have Hg8 : Hid (cb ≠ g1 ∧ sb ≠ g1 ∧ ∀ k, rowOf v8 = some k → k ≠ g1) := Lib.hid ⟨Hg5.out.1, Hg5.out.2.1, fun k hk => by
    rcases hr8 k hk with e | e
    · exact Hg5.out.2.2 k e
    · omega⟩
  have HTk := Lib.hid (clTake_any _ cb sb true _ 1000 2000 0 v8 w8 hc8 (by omega) (by simp [tenB]) (by omega))
  rw [awh7, awh8] at HTk
  obtain ⟨y, hy⟩ : ∃ y, y = peekV true 1000 ([] ++ tenB) 0 := ⟨_, rfl⟩
  have Hy : Hid (y.kind = 2 ∧ y.front.kind = 83) := Lib.hid (by rw [hy]; exact ⟨awh5, awh6⟩)
  rw [← hy] at HTk
  clear hc8 hr8 hT8 hg7 HF hy H7 HB7 Hb7 Hg5
  obtain ⟨yk, yh, ⟨yf1, yf2, yf3, yf4, yf5, yf6, yf7, yf8, yf9, yf10⟩, yco, yt⟩ := y
  dsimp only at Hy
  obtain ⟨rfl, rfl⟩ := Hy.out
  go_wp2_with fail
  refine HTk.out.mono ?_
  rintro e w9 ⟨⟨py, cy, ay, rfl, -, -⟩, v9, hc9, hr9, hT9⟩
  have H9 := Lib.hid hc9
  have HB9 := Lib.hid (hT9.blk HB8.out (fun e => by rcases e with e | e; (· exact Hg8.out.2.1 e.symm); (· exact Hg8.out.2.2 g1 e rfl)))
  have Hb9 := Lib.hid (Hb8.out.trans (frT_belowC H8.out hT9 Hb8.out.size))
  have Hg9 : Hid (cb ≠ g1 ∧ sb ≠ g1 ∧ ∀ k, rowOf v9 = some k → k ≠ g1) := Lib.hid ⟨Hg8.out.1, Hg8.out.2.1, fun k hk => Hg8.out.2.2 k (hr9 k hk)⟩
  unfold itArg itCells
  dsimp only
  clear hc9 hr9 hT9 HTk H8 Hb8 Hy HB8 Hg8
  go_wp2_with (refine wpList_store_it _ rfl (.tmp 4) (.tmp 30) rfl w9.heap.size _ _ rfl rfl (Blk.new _ _ _) rfl rfl (by simp [Value.oneCell']) ?_; intro wa hb hT; have HBwa := Lib.hid hb; have HTwa := Lib.hid hT; clear hb hT)
  have hz10 : w9.heap.size < wa.heap.size := Nat.lt_of_lt_of_le (by simp) HTwa.out.size
  have Hc10 := Lib.hid ((H9.out.still ((Below.refl _ _).alloc (Nat.le_refl _) (.cells #[.int .i64 0, .int .i64 0, .int .i64 0, .int .i64 0, .slice none 0 0, .int .u8 0, .int .u8 0, .string ⟨#[]⟩, .string ⟨#[]⟩, .string ⟨#[]⟩, .slice none 0 0, .slice none 0 0, .slice none 0 0, .slice none 0 0, .int .i64 0, .string ⟨#[]⟩, .string ⟨#[]⟩] 48))).touch HTwa.out (by have := H9.out.blk.lt; omega) (by have := H9.out.fr.blk.lt; omega) (fun k hk => by have := (H9.out.fr.own.row k hk).2; omega))
  have HB10 := Lib.hid (HTwa.out.blk (HB9.out.alloc (.cells #[.int .i64 0, .int .i64 0, .int .i64 0, .int .i64 0, .slice none 0 0, .int .u8 0, .int .u8 0, .string ⟨#[]⟩, .string ⟨#[]⟩, .string ⟨#[]⟩, .slice none 0 0, .slice none 0 0, .slice none 0 0, .slice none 0 0, .int .i64 0, .string ⟨#[]⟩, .string ⟨#[]⟩] 48)) (by have := HB9.out.lt; omega))
  have Hb10 := Lib.hid (Hb9.out.trans (((Below.refl w9.heap.size w9).alloc (Nat.le_refl _) (.cells #[.int .i64 0, .int .i64 0, .int .i64 0, .int .i64 0, .slice none 0 0, .int .u8 0, .int .u8 0, .string ⟨#[]⟩, .string ⟨#[]⟩, .string ⟨#[]⟩, .slice none 0 0, .slice none 0 0, .slice none 0 0, .slice none 0 0, .int .i64 0, .string ⟨#[]⟩, .string ⟨#[]⟩] 48)).trans (HTwa.out.below (by simp) (fun k e => by omega)) |>.mono Hb9.out.size))
  have Hg10 : Hid (sb ≠ w9.heap.size) := Lib.hid (by have := H9.out.fr.blk.lt; omega)
  obtain ⟨g2, hg2⟩ : ∃ g2, g2 = w9.heap.size := ⟨_, rfl⟩
  rw [← hg2] at HBwa Hg10 hz10 ⊢
  have HPk := Lib.hid (clPeek_any _ cb sb true [100, 0, 0, 0, 4] 1000 2000 0 v9 wa Hc10.out (by omega) (by simp) (by omega))
  have HBa := HBwa
  obtain ⟨z, hz⟩ : ∃ z, z = peekV true 1000 [100, 0, 0, 0, 4] 0 := ⟨_, rfl⟩
  have Hz : Hid (z.kind = 3 ∧ z.code = codeA) := Lib.hid (by rw [hz]; exact ⟨awh9, awh10⟩)
  rw [← hz] at HPk
  clear hg2 hz HTwa HBwa H9 Hb9 HB9
  obtain ⟨zk, zh, zf, zco, zt⟩ := z
  dsimp only at Hz
  obtain ⟨rfl, rfl⟩ := Hz.out
  go_wp2_with fail
  refine HPk.out.mono ?_
  rintro e wb ⟨⟨pz, cz, az, rfl, -, -⟩, hcb, hTb⟩
  have HB11 := Lib.hid (hTb.blk HB10.out (fun e => Hg9.out.2.1 e.symm))
  have HB12 := Lib.hid (hTb.blk HBa.out (fun e => Hg10.out e.symm))
  have Hb11 := Lib.hid (Hb10.out.trans (hTb.below Hb10.out.size (fun k e => by rw [e]; exact hcb.fr.sB)))
  unfold itArg itCells codeA
  dsimp only
  clear hcb hTb HPk Hc10 HB10 HBa Hb10 Hz Hg9 Hg10 hz10
  have hcd : ((⟨#[48, 65, 48, 48, 48]⟩ : ByteArray).toList == (⟨#[48, 65, 48, 48, 48]⟩ : ByteArray).toList) = true := beq_self_eq_true _
  go_wp2_with (refine wpList_store_it _ rfl (.tmp 5) (.tmp 32) rfl wb.heap.size _ _ rfl rfl (Blk.new _ _ _) rfl rfl (by simp [Value.oneCell']) ?_; intro wc hb hT; have HBwc := Lib.hid hb; have HTwc := Lib.hid hT; have c1 : wc.cell? ⟨g1, 0, none⟩ = some (.int .i64 1) := (hT.blk (HB11.out.alloc _) (by have := HB11.out.lt; omega)).cell 0; have c2 : wc.cell? ⟨g1, 1, none⟩ = some (.int .i64 196608) := (hT.blk (HB11.out.alloc _) (by have := HB11.out.lt; omega)).cell 1; have c3 : wc.cell? ⟨g2, 0, none⟩ = some (.int .i64 2) := (hT.blk (HB12.out.alloc _) (by have := HB12.out.lt; omega)).cell 0; have c4 : wc.cell? ⟨g2, 5, none⟩ = some (.int .u8 83) := (hT.blk (HB12.out.alloc _) (by have := HB12.out.lt; omega)).cell 5; have c5 : wc.cell? ⟨wb.heap.size, 0, none⟩ = some (.int .i64 3) := hb.cell 0; have c6 : wc.cell? ⟨wb.heap.size, 15, none⟩ = some (.string ⟨#[48, 65, 48, 48, 48]⟩) := hb.cell 15; have Hbc := Lib.hid (Hb11.out.trans (((Below.refl wb.heap.size wb).alloc (Nat.le_refl _) (.cells #[.int .i64 0, .int .i64 0, .int .i64 0, .int .i64 0, .slice none 0 0, .int .u8 0, .int .u8 0, .string ⟨#[]⟩, .string ⟨#[]⟩, .string ⟨#[]⟩, .slice none 0 0, .slice none 0 0, .slice none 0 0, .slice none 0 0, .int .i64 0, .string ⟨#[]⟩, .string ⟨#[]⟩] 48)).trans (hT.below (by simp) (fun k e => by omega)) |>.mono Hb11.out.size)); clear hb hT)
  go_ret
  exact ⟨rfl, Hbc.out⟩

end Go.Proofs.YtacnmdlefonjmaaGreat

/-
  ClientPieces' take (layer 39; printed by gen_rcl.py).
-/
namespace Go.Proofs.YtacnmdlefonjmaaGreat
open Go.RowKit
set_option linter.unusedVariables false
set_option linter.unusedSimpArgs false

/-- The state at the loop's head. -/
structure TcS (w0 w : World) (B cb sb : Nat) (L M : List UInt8) (v vo : Value) (out X : List UInt8) (V : List FoV) (v' : Value) : Prop where
  own : OwnBR w0.heap.size w vo out
  cl : ClO B w cb sb true X 60000 70000 0 v'
  all : out ++ X = L
  rest : X ++ M = framesB V
  va : ∀ f ∈ V, VaF f
  row : ∀ k, rowOf v' = some k → rowOf v = some k
  tch : FrT sb v w0 w
  low : cb < w0.heap.size ∧ sb < w0.heap.size ∧ ∀ k, rowOf v = some k → k < w0.heap.size
section
variable {w0 w w' : World} {B cb sb : Nat} {L M : List UInt8} {v vo vo' : Value} {out X X' : List UInt8} {V V' : List FoV} {v' v2 : Value}
theorem TcS.still (h : TcS w0 w B cb sb L M v vo out X V v') (hb : Below w.heap.size w w') : TcS w0 w' B cb sb L M v vo out X V v' :=
  ⟨h.own.below hb, h.cl.still hb, h.all, h.rest, h.va, h.row, h.tch.then (Touch.of_below (p := fun _ => False) hb) (fun _ _ e => e.elim), h.low⟩
/-- The client did a step. -/
theorem TcS.step (h : TcS w0 w B cb sb L M v vo out X V v') (hc : ClO B w' cb sb true X' 60000 70000 0 v2) (hr : ∀ k, rowOf v2 = some k → rowOf v' = some k) (hT : FrT sb v' w w') :
    OwnBR w0.heap.size w' vo out ∧ FrT sb v w0 w' ∧ ∀ k, rowOf v2 = some k → rowOf v = some k := by
  obtain ⟨l1, l2, l3⟩ := h.low
  refine ⟨h.own.touch hT (fun k hk e => ?_), h.tch.trans (hT.mono (fun i hi e => e.imp id (fun e => h.row i e))), fun k hk => h.row k (hr k hk)⟩
  have := (h.own.row k hk).1
  rcases e with e | e
  · omega
  · have := l3 k (h.row k e); omega
theorem TcS.stay (h : TcS w0 w B cb sb L M v vo out X V v') (hc : ClO B w' cb sb true X 60000 70000 0 v') (hT : Touch (fun i => i = sb) w w') : TcS w0 w' B cb sb L M v vo out X V v' := by
  obtain ⟨h1, h2, h3⟩ := h.step hc (fun _ e => e) (hT.mono (fun _ _ e => .inl e))
  exact ⟨h1, hc, h.all, h.rest, h.va, h3, h2, h.low⟩
/-- A message's bytes are appended. -/
theorem TcS.grow {b : List UInt8} (ho : OwnBR w0.heap.size w vo out) (hc : ClO B w cb sb true X' 60000 70000 0 v2) (hT : FrT sb v w0 w) (hr : ∀ k, rowOf v2 = some k → rowOf v = some k) (hlow : cb < w0.heap.size ∧ sb < w0.heap.size ∧ ∀ k, rowOf v = some k → k < w0.heap.size)
    (ho' : OwnBR w0.heap.size w' vo' (out ++ b)) (hg : w.grownBy w' (rowOf vo)) (all : (out ++ b) ++ X' = L) (rest : X' ++ M = framesB V') (va : ∀ f ∈ V', VaF f) : TcS w0 w' B cb sb L M v vo' (out ++ b) X' V' v2 := by
  obtain ⟨l1, l2, l3⟩ := hlow
  have hb : Below w0.heap.size w w' := Below.of_row hg hT.size (fun k hk => (ho.row k hk).1)
  have hTg := Touch.of_row hg
  refine ⟨ho', hc.touch hTg (fun e => ?_) (fun e => ?_) (fun k hk e => ?_), all, rest, va, hr, hT.then hTg (fun i hi e => ?_), l1, l2, l3⟩
  · have := (ho.row _ e.symm).1; omega
  · have := (ho.row _ e.symm).1; omega
  · have := (ho.row _ e.symm).1; have := l3 k (hr k hk); omega
  · have := (ho.row _ e.symm).1; omega
end
/-- What take leaves. -/
def TcR (B cb sb : Nat) (L M : List UInt8) (n : Nat) (v : Value) (w : World) (e : Ending) (w' : World) : Prop :=
  ∃ vo out X V v', e = .returned vo ∧ TcS w w' B cb sb L M v vo out X V v' ∧ V.length ≤ n ∧ (M = [] → X = [])

theorem fo_front : ∀ (f : FoV) (p : Option Addr) (c : Nat) (a : FoP) (W : World), (Instr.field 48 (itArg (itF f) p c a) 2).run Tryz.prog W = .ok (.agg #[.int .u8 f.kind, .int .u8 f.what, .string f.name, .string f.portal, .string f.text, .slice a.po f.oids.length a.co, .slice a.pf f.formats.length a.cf, .slice a.pr f.results.length a.cr, .slice a.pp f.params.length a.cp, .int .i64 f.max]) W := fun f p c a W => by
  unfold itArg itCells itF helNo
  kernel_rfl

set_option maxRecDepth 100000 in
set_option maxHeartbeats 10000000 in
theorem ctake_any (B cb sb : Nat) (L M : List UInt8) (V : List FoV) (v : Value) (w : World) (h : ClO B w cb sb true L 60000 70000 0 v) (hV : ∀ f ∈ V, VaF f) (he : L ++ M = framesB V) (hn : V.length ≤ 600) (hL : L.length ≤ 70000) :
    Calls Tryz.prog 20 #[.pointer (some ⟨cb, 0, none⟩)] w fun e w' => TcR B cb sb L M V.length v w e w' := by
  have Hs := Lib.hid (show TcS w w B cb sb L M v (.slice none 0 0) [] L V v from ⟨OwnBR.empty _ _ _, h, rfl, he, hV, fun _ h => h, Touch.refl _ _, h.blk.lt, h.fr.blk.lt, fun k hk => (h.fr.own.row k hk).2⟩)
  obtain ⟨n, hnn⟩ : ∃ n, n = V.length := ⟨_, rfl⟩
  rw [← hnn] at hn ⊢
  have HN := Lib.hid hnn
  clear h hV he hnn
  go_enter Tryz.func20, Tryz.ntmps20
  go_wp2_with fail
  go_loopw [3, 5] (fun vo i wx => ∃ k : Nat, k ≤ 700 ∧ i = .int .i64 k ∧ ∃ out X V' v', TcS w wx B cb sb L M v vo out X V' v' ∧ V'.length + k = n) (fun _ i _ => 700 - (intOf i).toNat)
  case atStart => exact ⟨0, by omega, rfl, _, _, V, _, Hs.out, by rw [HN.out]; rfl⟩
  case round =>
    clear Hs HN
    obtain ⟨k, hk, rfl, out, X, V', v', hs, hvk⟩ := hrel
    have hlen : out.length + X.length ≤ 70000 := by
      have := congrArg List.length hs.all
      rw [List.length_append] at this
      omega
    have hlt : (k : Int) < 700 := by omega
    have hXl : X.length ≤ 262144 := by omega
    obtain ⟨po, co, rfl, _⟩ := hs.own.slice
    have Hs := Lib.hid hs
    clear hs
    go_wp2_with fail
    refine (clPeek_any B cb sb true X 60000 70000 0 v' _ Hs.out.cl (by omega) hXl (by omega)).mono ?_
    rintro e w1 ⟨⟨p1, d1, a1, rfl, hs1, hl1⟩, hc1, hT1⟩
    clear hs1 hl1
    have hal : Below w1.heap.size w1 (w1.alloc (.cells itZ 48)) := (Below.refl _ _).alloc (Nat.le_refl _) _
    have HZ1 := Lib.hid (it_hz w1)
    unfold itZ at hal HZ1
    rcases next_of Hs.out.va Hs.out.rest with ⟨hn0, hw0, hM⟩ | ⟨f, V'', X', rfl, hf, hX, hr2, hn2⟩
    · obtain ⟨hp, -⟩ := peek_none hn0 hw0
      rw [hw0] at hc1
      have H1 := Lib.hid ((Hs.out.stay hc1 hT1).still hal)
      have HEnd : Hid (∀ w8, Touch (fun k => k = w1.heap.size) (w1.alloc (.cells #[.int .i64 0, .int .i64 0, .int .i64 0, .int .i64 0, .slice none 0 0, .int .u8 0, .int .u8 0, .string ⟨#[]⟩, .string ⟨#[]⟩, .string ⟨#[]⟩, .slice none 0 0, .slice none 0 0, .slice none 0 0, .slice none 0 0, .int .i64 0, .string ⟨#[]⟩, .string ⟨#[]⟩] 48)) w8 → TcR B cb sb L M n v w (.returned (.slice po out.length co)) w8) := Lib.hid (fun w8 hT8 => by
        have hsz := (Hs.out.stay hc1 hT1).tch.size
        obtain ⟨l1, l2, l3⟩ := Hs.out.low
        refine ⟨_, out, X, V', v', rfl, ⟨H1.out.own.touch hT8 (fun j hj e => ?_), H1.out.cl.touch hT8 (by omega) (by omega) (fun j hj e => ?_), H1.out.all, H1.out.rest, H1.out.va, H1.out.row, H1.out.tch.then hT8 (fun i hi e => by omega), H1.out.low⟩, by omega, hM⟩
        · have := ((Hs.out.stay hc1 hT1).own.row j hj).2; omega
        · have := l3 j (Hs.out.row j hj); omega)
      rw [hp]
      clear hc1 hT1 hal hn0 hw0 hp hM Hs H1
      generalize hitf : itNo = itf at *
      have Hif := Lib.hid hitf
      clear hitf
      go_wp2_with (refine wpList_store_it _ rfl (.tmp 4) (.tmp 8) rfl _ _ (itCells itf p1 d1 a1) rfl rfl HZ1.out rfl rfl (by simp [Value.oneCell', itCells]) ?_; intro w8 hb8 hT8; have hk8 : w8.cell? ⟨w1.heap.size, 0, none⟩ = some (.int .i64 0) := (by rw [hb8.cell 0, ← Hif.out]; rfl); have HE8 := Lib.hid (HEnd.out _ hT8); clear hb8 hT8)
      go_ret
      exact HE8.out
    · obtain ⟨hp, hrs, hw0⟩ := peek_frame hf hn2
      rw [hw0] at hc1
      have H1 := Lib.hid ((Hs.out.stay hc1 hT1).still hal)
      have Hlow := Lib.hid Hs.out.low
      have Hz1 := Lib.hid (show w.heap.size ≤ w1.heap.size from (Hs.out.stay hc1 hT1).tch.size)
      have Hown := Lib.hid (Hs.out.stay hc1 hT1).own
      rw [hp]
      have HT := Lib.hid (fun W h => clTake_any B cb sb true X 60000 70000 0 v' W h (by omega) hXl (by omega))
      rw [hp, hrs, hw0] at HT
      have hal2 : (out ++ frameB f) ++ X' = L := by rw [List.append_assoc, ← hX]; exact Hs.out.all
      have Hfr := Lib.hid (And.intro hal2 (And.intro hr2 (And.intro hf (fun g hg => Hs.out.va g (List.mem_cons_of_mem _ hg)))))
      have hfl : (frameB f).length ≤ 100005 := frameB_len hf.few hf.fb
      clear hc1 hT1 hal hn2 hp hX hr2 hf hrs hw0 hal2 Hs
      have hFF := fo_front f
      have hfld := fun p c a W => (fo_front f p c a W)
      generalize hitf : itF f = itf at *
      obtain ⟨ck, cs0, hck⟩ : ∃ (cs0 : Array Value) (u : Nat), True := ⟨#[], 0, trivial⟩
      clear cs0 hck ck
      have Hif := Lib.hid hitf
      go_wp2_with (refine wpList_store_it _ rfl (.tmp 4) (.tmp 8) rfl _ _ (itCells itf p1 d1 a1) rfl rfl HZ1.out rfl rfl (by simp [Value.oneCell', itCells]) ?_; intro w2 hb2 hT2; have hk2 : w2.cell? ⟨w1.heap.size, 0, none⟩ = some (.int .i64 2) := (by rw [hb2.cell 0, ← Hif.out]; rfl); have Hk2 := Lib.hid hT2; clear hb2 hT2)
      have H2 : Hid (TcS w w2 B cb sb L M v (.slice po out.length co) out X (f :: V'') v') := Lib.hid (by
        have hT2 := Hk2.out
        have hz := Hz1.out
        obtain ⟨l1, l2, l3⟩ := Hlow.out
        refine ⟨H1.out.own.touch hT2 (fun j hj e => ?_), H1.out.cl.touch hT2 (by omega) (by omega) (fun j hj e => ?_), H1.out.all, H1.out.rest, H1.out.va, H1.out.row, H1.out.tch.then hT2 (fun i hi e => by omega), H1.out.low⟩
        · have := (Hown.out.row j hj).2; omega
        · have := l3 j (H1.out.row j hj); omega)
      clear H1 Hown Hk2 HZ1 hk2 hitf
      refine (HT.out w2 H2.out.cl).mono ?_
      rintro e w3 ⟨⟨p3, d3, a3, rfl, hs3, hl3⟩, v3, hc3, hr3, hT3⟩
      have H3 := Lib.hid (H2.out.step hc3 hr3 hT3)
      have Hc3 := Lib.hid hc3
      have hff := hfld p3 d3 a3
      have hsl : SliceS 10 FoS (fun _ => True) (w3.alloc (.cells (foCells f a3) 46)) [.slice (some ⟨w3.heap.size, 0, none⟩) 1 1] [f] := SliceS.new1 (S := fun j => w2.heap.size ≤ j) FoS.still w3 46 (foCells f a3) f ⟨Hfr.out.2.2.1.fb, a3, rfl, by rw [← Hif.out] at hl3; exact hl3⟩ rfl (fun _ _ _ => trivial) trivial
      have HB := Lib.hid (bytesFo_any _ _ _ _ _ _ hsl (fun x hx => by rw [List.mem_singleton.1 hx]; exact Hfr.out.2.2.1.few) (by simp))
      have hal3 : Below w3.heap.size w3 (w3.alloc (.cells (foCells f a3) 46)) := (Below.refl _ _).alloc (Nat.le_refl _) _
      have H4 : Hid (OwnBR w.heap.size (w3.alloc (.cells (foCells f a3) 46)) (.slice po out.length co) out ∧ ClO B (w3.alloc (.cells (foCells f a3) 46)) cb sb true X' 60000 70000 0 v3 ∧ FrT sb v w (w3.alloc (.cells (foCells f a3) 46))) := Lib.hid ⟨H3.out.1.below hal3, hc3.still hal3, H3.out.2.1.then (Touch.of_below (p := fun _ => False) hal3) (fun _ _ e => e.elim)⟩
      have Hr3 := Lib.hid H3.out.2.2
      unfold foCells at HB H4
      clear hs3 hl3 hc3 hr3 hT3 hsl hal3 H2 HT H3 Hc3 hfld hFF
      go_wp2_with fail
      refine HB.out.mono ?_
      rintro e w5 ⟨v5, rfl, ho5, hl5, hb5⟩
      rw [show framesB [f] = frameB f by simp [framesB]] at ho5 hl5
      obtain ⟨p5, c5, rfl, _, _, hin5, _⟩ := ho5.slice
      have H5 : Hid (OwnBR w.heap.size w5 (.slice po out.length co) out ∧ ClO B w5 cb sb true X' 60000 70000 0 v3 ∧ FrT sb v w w5) := Lib.hid ⟨H4.out.1.below hb5, H4.out.2.1.still hb5, H4.out.2.2.then (Touch.of_below (p := fun _ => False) hb5) (fun _ _ e => e.elim)⟩
      have Hin5 := Lib.hid hin5
      have hroom : out.length + (frameB f).length ≤ 140737488355328 := by omega
      have hz5 : w.heap.size ≤ w5.heap.size := H5.out.2.2.size
      clear ho5 hl5 hb5 hin5 HB H4 hff
      go_wp2_with (at_builtin; refine step_appendBR _ rfl (.tmp 12) (.tmp 17) rfl w.heap.size _ out rfl H5.out.1 p5 (frameB f) (frameB f).length c5 rfl rfl Hin5.out hroom hz5 ?_; intro v6 w6 ho6 hg6 hn6; have H6 := Lib.hid (TcS.grow H5.out.1 H5.out.2.1 H5.out.2.2 Hr3.out Hlow.out ho6 hg6 Hfr.out.1 Hfr.out.2.1 Hfr.out.2.2.2); clear ho6 hg6 hn6)
      go_roundw
      case rel => exact ⟨k + 1, by omega, by go_num, _, _, _, _, H6.out, by simp at hvk; omega⟩
      case measure => simp [intOf]; omega

end Go.Proofs.YtacnmdlefonjmaaGreat

/-
  ClientPieces: what stays while pieces are fed (layer 39).
-/
namespace Go.Proofs.YtacnmdlefonjmaaGreat
open Go.RowKit
set_option linter.unusedVariables false
set_option linter.unusedSimpArgs false

/-- Between two calls: what was taken, what lies in the client, what is to come. -/
structure PcL (w0 w : World) (cb sb : Nat) (b : List UInt8) (vb : Value) (a : Nat) (vg : Value) (got out X : List UInt8) (V : List FoV) (v' : Value) : Prop where
  own : OwnBR w0.heap.size w vg got
  ob : OwnBR w0.heap.size w vb b
  cl : ClO w0.heap.size w cb sb true X 60000 70000 0 v'
  all : got ++ (out ++ X) = b.take a
  rest : X ++ b.drop a = framesB V
  va : ∀ f ∈ V, VaF f
  al : a ≤ b.length
  n1 : ∀ k, rowOf vg = some k → k ≠ cb ∧ k ≠ sb ∧ rowOf v' ≠ some k ∧ rowOf vb ≠ some k
  n2 : ∀ k, rowOf vb = some k → k ≠ cb ∧ k ≠ sb ∧ rowOf v' ≠ some k
  bel : Below w0.heap.size w0 w
  vl : V.length ≤ 20
section
variable {w0 w w' : World} {cb sb : Nat} {b : List UInt8} {vb : Value} {a : Nat} {vg vg' : Value} {got out X X' M : List UInt8} {V V' : List FoV} {v' v2 vo : Value}
theorem PcL.still (h : PcL w0 w cb sb b vb a vg got out X V v') (hb : Below w.heap.size w w') : PcL w0 w' cb sb b vb a vg got out X V v' :=
  ⟨h.own.below hb, h.ob.below hb, h.cl.still hb, h.all, h.rest, h.va, h.al, h.n1, h.n2, h.bel.trans (hb.mono h.bel.size), h.vl⟩
theorem PcL.lenX (h : PcL w0 w cb sb b vb a vg got out X V v') : X.length ≤ b.length ∧ got.length ≤ b.length ∧ out.length ≤ b.length := by
  have := congrArg List.length h.all
  simp at this
  omega
/-- The client did a step. -/
theorem PcL.sep (h : PcL w0 w cb sb b vb a vg got out X V v') (hr : ∀ k, rowOf v2 = some k → rowOf v' = some k ∨ w.heap.size ≤ k) (hT : FrT sb v' w w') :
    OwnBR w0.heap.size w' vg got ∧ OwnBR w0.heap.size w' vb b ∧ Below w0.heap.size w0 w' ∧ (∀ k, rowOf vg = some k → k ≠ cb ∧ k ≠ sb ∧ rowOf v2 ≠ some k ∧ rowOf vb ≠ some k) ∧ (∀ k, rowOf vb = some k → k ≠ cb ∧ k ≠ sb ∧ rowOf v2 ≠ some k) := by
  refine ⟨h.own.touch hT (fun k hk e => ?_), h.ob.touch hT (fun k hk e => ?_), h.bel.trans (hT.below h.bel.size (fun k e => ?_)), fun k hk => ?_, fun k hk => ?_⟩
  · obtain ⟨_, h2, h3, _⟩ := h.n1 k hk
    rcases e with e | e
    · exact h2 e
    · exact h3 e
  · obtain ⟨_, h2, h3⟩ := h.n2 k hk
    rcases e with e | e
    · exact h2 e
    · exact h3 e
  · rcases e with e | e
    · have := h.cl.fr.sB; omega
    · exact (h.cl.fr.own.row k e).1
  · obtain ⟨h1, h2, h3, h4⟩ := h.n1 k hk
    have := (h.own.row k hk).2
    exact ⟨h1, h2, fun e => by rcases hr k e with e | e; (· exact h3 e); (· omega), h4⟩
  · obtain ⟨h1, h2, h3⟩ := h.n2 k hk
    have := (h.ob.row k hk).2
    exact ⟨h1, h2, fun e => by rcases hr k e with e | e; (· exact h3 e); (· omega)⟩
/-- A piece is fed. -/
theorem PcL.fed {k : Nat} (h : PcL w0 w cb sb b vb a vg got [] X V v') (hk : a + k ≤ b.length) (hc : ClO w0.heap.size w' cb sb true (X ++ (b.drop a).take k) 60000 70000 0 v2) (hr : ∀ k, rowOf v2 = some k → rowOf v' = some k ∨ w.heap.size ≤ k) (hT : FrT sb v' w w') :
    PcL w0 w' cb sb b vb (a + k) vg got [] (X ++ (b.drop a).take k) V v2 := by
  obtain ⟨h1, h2, h3, h4, h5⟩ := h.sep hr hT
  refine ⟨h1, h2, hc, ?_, ?_, h.va, hk, h4, h5, h3, h.vl⟩
  · have := h.all
    rw [List.nil_append] at this ⊢
    rw [← List.append_assoc, this, List.take_add]
  · rw [List.append_assoc, ← h.rest, ← List.drop_drop, List.take_append_drop]
/-- Messages are taken. -/
theorem PcL.took (h : PcL w0 w cb sb b vb a vg got [] X V v') (ht : TcS w w' w0.heap.size cb sb X (b.drop a) v' vo out X' V' v2) (hl : V'.length ≤ V.length) :
    PcL w0 w' cb sb b vb a vg got out X' V' v2 := by
  obtain ⟨h1, h2, h3, h4, h5⟩ := h.sep (fun k hk => .inl (ht.row k hk)) ht.tch
  refine ⟨h1, h2, ht.cl, ?_, ht.rest, ht.va, h.al, h4, h5, h3, Nat.le_trans hl h.vl⟩
  rw [ht.all]
  have := h.all
  rwa [List.nil_append] at this
/-- Their bytes are put behind what was taken. -/
theorem PcL.put (h : PcL w0 w cb sb b vb a vg got out X V v') (ho : OwnBR w0.heap.size w' vg' (got ++ out)) (hg : w.grownBy w' (rowOf vg)) (hv : ∀ k, rowOf vg' = some k → rowOf vg = some k ∨ w.heap.size ≤ k) : PcL w0 w' cb sb b vb a vg' (got ++ out) [] X V v' := by
  have hT := Touch.of_row hg
  have l1 := h.cl.blk.lt
  have l2 := h.cl.fr.blk.lt
  refine ⟨ho, h.ob.touch hT (fun k hk e => ?_), h.cl.touch hT (fun e => ?_) (fun e => ?_) (fun k hk e => ?_), ?_, h.rest, h.va, h.al, fun k hk => ?_, h.n2, h.bel.trans (Below.of_row hg h.bel.size (fun k hk => (h.own.row k hk).1)), h.vl⟩
  · exact (h.n1 k e.symm).2.2.2 hk
  · exact (h.n1 _ e.symm).1 rfl
  · exact (h.n1 _ e.symm).2.1 rfl
  · exact (h.n1 k e.symm).2.2.1 hk
  · rw [List.nil_append, List.append_assoc]
    exact h.all
  · rcases hv k hk with e | e
    · exact h.n1 k e
    · exact ⟨by omega, by omega, fun e' => by have := (h.cl.fr.own.row k e').2; omega, fun e' => by have := (h.ob.row k e').2; omega⟩
end

end Go.Proofs.YtacnmdlefonjmaaGreat

