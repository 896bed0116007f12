/-
  First messages (layer 5): the document's Build.
-/
import Derived.Test.YtjfhpafaopeogaaHeK
import Derived.Deep.RegionHeld3
namespace Go.Proofs.Ytjfhpafaopeogaa
open Go.RowKit
set_option linter.unusedVariables false
set_option linter.unusedSimpArgs false

theorem below_drew1 {w w' : World} (h : Below (w.drewN 1).heap.size (w.drewN 1) w') : Below w.heap.size w w' :=
  (((Touch.refl (fun _ => False) w).drewN 1).below (Nat.le_refl _) (fun _ e => e.elim)).trans h

set_option maxRecDepth 100000 in
set_option maxHeartbeats 4000000 in
theorem rbuild_no (S : Nat → Prop) (h : HelV) (p : Option Addr) (c : Nat) (w : World) (hs : SliceS 2 PrS S w [.slice p h.params.length c] h.params) (hsz : ∀ x ∈ h.params, x.name.size ≤ 100000 ∧ x.value.size ≤ 100000) (hm : mayV h = false) :
    Calls Try.prog 54 #[helArg h p c] w (BuildR h w) := by
  obtain ⟨hb, hs1, hw⟩ := hel_box hs
  have HM := Lib.hid (fun w0 hs0 => rmay_any S h p c w0 hs0 hsz)
  rw [hm] at HM
  have Hv : Hid (buildV h = ([], 1)) := Lib.hid (by unfold buildV; rw [hm]; rfl)
  have Hw := Lib.hid hw
  have Hs0 := Lib.hid hs
  have Hs1 := Lib.hid hs1
  have Hb := Lib.hid hb
  have hmany := parsB_many h.params
  unfold BuildR
  generalize buildV h = bv at *
  obtain ⟨hc0, hc1, hc2, L⟩ := h
  dsimp only at *
  skip
  obtain ⟨-, hlc, hcm⟩ := hs.len
  unfold maxLen at hcm
  unfold helArg helCells at *
  dsimp only at *
  clear hs hs1 hb hw hm hsz
  go_enter Try.func54, Try.ntmps54
  go_upto_region 1 with (fail)
  have hlt := Hb.out.lt
  generalize w.alloc (.cells #[.int .i64 hc0, .int .i64 hc1, .int .i64 hc2, .slice p L.length c] 94) = w1 at *
  have hc := Hb.out.cell
  go_wp2_with fail
  refine (HM.out w1 Hs1.out).mono ?_
  rintro e w2 ⟨rfl, hb2⟩
  have hsz2 := hb2.size
  have hcw : ∀ i, w2.cell? ⟨w.heap.size, i, none⟩ = (#[.int .i64 hc0, .int .i64 hc1, .int .i64 hc2, .slice p L.length c] : Array Value)[i]? := (Hb.out.below hb2 hlt).cell
  have Hb2 := Lib.hid (Hb.out.below hb2 hlt)
  have HW2 := Lib.hid (Hw.out.trans (hb2.mono Hw.out.size))
  clear hc hb2
  go_wp2_with fail
  go_ret2
  rw [Hv.out]
  exact ⟨_, rfl, OwnBR.empty _ _ _, HW2.out⟩

set_option maxRecDepth 100000 in
set_option maxHeartbeats 4000000 in
theorem rbuild_ssl (S : Nat → Prop) (h : HelV) (p : Option Addr) (c : Nat) (w : World) (hs : SliceS 2 PrS S w [.slice p h.params.length c] h.params) (hsz : ∀ x ∈ h.params, x.name.size ≤ 100000 ∧ x.value.size ≤ 100000) (hm : mayV h = true) (h1 : h.code = 80877103) :
    Calls Try.prog 54 #[helArg h p c] w (BuildR h w) := by
  obtain ⟨hb, hs1, hw⟩ := hel_box hs
  have HM := Lib.hid (fun w0 hs0 => rmay_any S h p c w0 hs0 hsz)
  rw [hm] at HM
  have Hv : Hid (buildV h = (putV [] 80877103 4, 0)) := Lib.hid (by unfold buildV bodyV; rw [if_pos hm, h1]; simp)
  have Hw := Lib.hid hw
  have Hs0 := Lib.hid hs
  have Hs1 := Lib.hid hs1
  have Hb := Lib.hid hb
  have hmany := parsB_many h.params
  unfold BuildR
  generalize buildV h = bv at *
  obtain ⟨hc0, hc1, hc2, L⟩ := h
  dsimp only at *
  subst h1
  obtain ⟨-, hlc, hcm⟩ := hs.len
  unfold maxLen at hcm
  unfold helArg helCells at *
  dsimp only at *
  clear hs hs1 hb hw hm hsz
  go_enter Try.func54, Try.ntmps54
  go_upto_region 1 with (fail)
  have hlt := Hb.out.lt
  generalize w.alloc (.cells #[.int .i64 80877103, .int .i64 hc1, .int .i64 hc2, .slice p L.length c] 94) = w1 at *
  have hc := Hb.out.cell
  go_wp2_with fail
  refine (HM.out w1 Hs1.out).mono ?_
  rintro e w2 ⟨rfl, hb2⟩
  have hsz2 := hb2.size
  have hcw : ∀ i, w2.cell? ⟨w.heap.size, i, none⟩ = (#[.int .i64 80877103, .int .i64 hc1, .int .i64 hc2, .slice p L.length c] : Array Value)[i]? := (Hb.out.below hb2 hlt).cell
  have Hb2 := Lib.hid (Hb.out.below hb2 hlt)
  have HW2 := Lib.hid (Hw.out.trans (hb2.mono Hw.out.size))
  clear hc hb2
  have Hp := Lib.hid (putR_any none [] 0 80877103 4 w2 (by simp) (BytesIn.nil _ _))
  go_wp2_with fail
  refine Hp.out.mono ?_
  rintro e w3 ⟨v3, rfl, ho3, hb3⟩
  have hsz3 := hb3.size
  have Ho3 : Hid (OwnBR w.heap.size w3 v3 _) := Lib.hid (OwnR.base (OwnBR.of ho3) (show w.heap.size ≤ w2.heap.size by omega))
  have hcw3 : ∀ i, w3.cell? ⟨w.heap.size, i, none⟩ = (#[.int .i64 80877103, .int .i64 hc1, .int .i64 hc2, .slice p L.length c] : Array Value)[i]? := (Hb2.out.below hb3 (by omega)).cell
  have Hb3 := Lib.hid (Hb2.out.below hb3 (by omega))
  have HW3 := Lib.hid (HW2.out.trans (hb3.mono HW2.out.size))
  clear hb3 ho3 hcw Hp
  go_wp2_with fail
  go_ret2
  rw [Hv.out]
  exact ⟨_, rfl, Ho3.out, HW3.out⟩

set_option maxRecDepth 100000 in
set_option maxHeartbeats 4000000 in
theorem rbuild_cancel (S : Nat → Prop) (h : HelV) (p : Option Addr) (c : Nat) (w : World) (hs : SliceS 2 PrS S w [.slice p h.params.length c] h.params) (hsz : ∀ x ∈ h.params, x.name.size ≤ 100000 ∧ x.value.size ≤ 100000) (hm : mayV h = true) (h1 : h.code = 80877102) :
    Calls Try.prog 54 #[helArg h p c] w (BuildR h w) := by
  obtain ⟨hb, hs1, hw⟩ := hel_box hs
  have HM := Lib.hid (fun w0 hs0 => rmay_any S h p c w0 hs0 hsz)
  rw [hm] at HM
  have Hv : Hid (buildV h = (putV (putV (putV [] 80877102 4) h.process 4) h.secret 4, 0)) := Lib.hid (by unfold buildV bodyV; rw [if_pos hm, h1]; simp)
  have Hw := Lib.hid hw
  have Hs0 := Lib.hid hs
  have Hs1 := Lib.hid hs1
  have Hb := Lib.hid hb
  have hmany := parsB_many h.params
  unfold BuildR
  generalize buildV h = bv at *
  obtain ⟨hc0, hc1, hc2, L⟩ := h
  dsimp only at *
  subst h1
  obtain ⟨-, hlc, hcm⟩ := hs.len
  unfold maxLen at hcm
  unfold helArg helCells at *
  dsimp only at *
  clear hs hs1 hb hw hm hsz
  go_enter Try.func54, Try.ntmps54
  go_upto_region 1 with (fail)
  have hlt := Hb.out.lt
  generalize w.alloc (.cells #[.int .i64 80877102, .int .i64 hc1, .int .i64 hc2, .slice p L.length c] 94) = w1 at *
  have hc := Hb.out.cell
  go_wp2_with fail
  refine (HM.out w1 Hs1.out).mono ?_
  rintro e w2 ⟨rfl, hb2⟩
  have hsz2 := hb2.size
  have hcw : ∀ i, w2.cell? ⟨w.heap.size, i, none⟩ = (#[.int .i64 80877102, .int .i64 hc1, .int .i64 hc2, .slice p L.length c] : Array Value)[i]? := (Hb.out.below hb2 hlt).cell
  have Hb2 := Lib.hid (Hb.out.below hb2 hlt)
  have HW2 := Lib.hid (Hw.out.trans (hb2.mono Hw.out.size))
  clear hc hb2
  have Hp := Lib.hid (putR_any none [] 0 80877102 4 w2 (by simp) (BytesIn.nil _ _))
  go_wp2_with fail
  refine Hp.out.mono ?_
  rintro e w3 ⟨v3, rfl, ho3, hb3⟩
  have hsz3 := hb3.size
  have Ho3 : Hid (OwnBR w.heap.size w3 v3 _) := Lib.hid (OwnR.base (OwnBR.of ho3) (show w.heap.size ≤ w2.heap.size by omega))
  have hcw3 : ∀ i, w3.cell? ⟨w.heap.size, i, none⟩ = (#[.int .i64 80877102, .int .i64 hc1, .int .i64 hc2, .slice p L.length c] : Array Value)[i]? := (Hb2.out.below hb3 (by omega)).cell
  have Hb3 := Lib.hid (Hb2.out.below hb3 (by omega))
  have HW3 := Lib.hid (HW2.out.trans (hb3.mono HW2.out.size))
  clear hb3 ho3 hcw Hp
  have hl3 := putV_len4 [] 80877102 4
  have hl4 := putV_len4 (putV [] 80877102 4) hc1 4
  simp only [List.length_nil] at hl3
  obtain ⟨p3, c3, hv3, k3, m3, q3, -⟩ := Ho3.out.slice
  subst hv3
  have Hp2 := Lib.hid (putR_any p3 (putV [] 80877102 4) c3 hc1 4 (w3.drewN 1) (by omega) (q3.drewN 1))
  have Hq3 := Lib.hid q3
  clear q3
  generalize (putV [] 80877102 4).length = n3 at *
  go_upto_region 13 with (fail)
  go_region_held3 (fun w' => ∀ i, w'.cell? ⟨w.heap.size, i, none⟩ = (#[.int .i64 80877102, .int .i64 hc1, .int .i64 hc2, .slice p L.length c] : Array Value)[i]?)
    (first | exact hcw3 | exact hcw4 | exact hcw5 | go_keep)
    (first
      | (go_at_call 101; refine Hp3.out.mono ?_; rintro e w5 ⟨v5, rfl, ho5, hb5⟩; have HW5 := Lib.hid (HW4.out.trans (hb5.mono HW4.out.size)); have Ho5 : Hid (OwnBR w.heap.size w5 v5 _) := Lib.hid (OwnR.base (OwnBR.of ho5) (show w.heap.size ≤ w4.heap.size by omega)); have hcw5 : ∀ i, w5.cell? ⟨w.heap.size, i, none⟩ = (#[.int .i64 80877102, .int .i64 hc1, .int .i64 hc2, .slice p L.length c] : Array Value)[i]? := (HX4.out.below hb5 (by omega)).cell; clear hb5 ho5)
      | (go_at_call 101; refine Hp2.out.mono ?_; rintro e w4 ⟨v4, rfl, ho4, hb4'⟩; have hb4 := below_drew1 hb4'; clear hb4'; have hsz4 := hb4.size; have HX4 := Lib.hid (Hb3.out.below hb4 (by omega)); have hcw4 : ∀ i, w4.cell? ⟨w.heap.size, i, none⟩ = (#[.int .i64 80877102, .int .i64 hc1, .int .i64 hc2, .slice p L.length c] : Array Value)[i]? := HX4.out.cell; have HW4 := Lib.hid (HW3.out.trans (hb4.mono HW3.out.size)); have Ho4 := Lib.hid (OwnBR.of ho4); clear hb4 ho4; obtain ⟨p4, c4, hv4, k4, m4, q4, -⟩ := Ho4.out.slice; subst hv4; have Hp3 := Lib.hid (putR_any p4 (putV (putV [] 80877102 4) hc1 4) c4 hc2 4 w4 (by omega) q4); clear q4))
  clear hcw3 hcw4 hcw5
  go_wp2_with fail
  go_ret2
  rw [Hv.out]
  exact ⟨_, rfl, Ho5.out, HW5.out⟩

set_option maxRecDepth 100000 in
set_option maxHeartbeats 4000000 in
theorem rbuild_version (S : Nat → Prop) (h : HelV) (p : Option Addr) (c : Nat) (w : World) (hs : SliceS 2 PrS S w [.slice p h.params.length c] h.params) (hsz : ∀ x ∈ h.params, x.name.size ≤ 100000 ∧ x.value.size ≤ 100000) (hl : (parsB h.params).length ≤ 100000) (hm : mayV h = true) (h1 : h.code = 196608) :
    Calls Try.prog 54 #[helArg h p c] w (BuildR h w) := by
  obtain ⟨hb, hs1, hw⟩ := hel_box hs
  have HM := Lib.hid (fun w0 hs0 => rmay_any S h p c w0 hs0 hsz)
  rw [hm] at HM
  have Hv : Hid (buildV h = ((putV [] 196608 4 ++ parsB h.params) ++ [0], 0)) := Lib.hid (by unfold buildV bodyV; rw [if_pos hm, h1]; simp)
  have Hpl := Lib.hid (putV_len4 [] 196608 4)
  have Hw := Lib.hid hw
  have Hs0 := Lib.hid hs
  have Hs1 := Lib.hid hs1
  have Hb := Lib.hid hb
  have hmany := parsB_many h.params
  unfold BuildR
  generalize buildV h = bv at *
  obtain ⟨hc0, hc1, hc2, L⟩ := h
  dsimp only at *
  subst h1
  obtain ⟨-, hlc, hcm⟩ := hs.len
  unfold maxLen at hcm
  unfold helArg helCells at *
  dsimp only at *
  clear hs hs1 hb hw hm hsz
  go_enter Try.func54, Try.ntmps54
  go_upto_region 1 with (fail)
  have hlt := Hb.out.lt
  generalize w.alloc (.cells #[.int .i64 196608, .int .i64 hc1, .int .i64 hc2, .slice p L.length c] 94) = w1 at *
  have hc := Hb.out.cell
  go_wp2_with fail
  refine (HM.out w1 Hs1.out).mono ?_
  rintro e w2 ⟨rfl, hb2⟩
  have hsz2 := hb2.size
  have hcw : ∀ i, w2.cell? ⟨w.heap.size, i, none⟩ = (#[.int .i64 196608, .int .i64 hc1, .int .i64 hc2, .slice p L.length c] : Array Value)[i]? := (Hb.out.below hb2 hlt).cell
  have Hb2 := Lib.hid (Hb.out.below hb2 hlt)
  have HW2 := Lib.hid (Hw.out.trans (hb2.mono Hw.out.size))
  clear hc hb2
  have Hp := Lib.hid (putR_any none [] 0 196608 4 w2 (by simp) (BytesIn.nil _ _))
  go_wp2_with fail
  refine Hp.out.mono ?_
  rintro e w3 ⟨v3, rfl, ho3, hb3⟩
  have hsz3 := hb3.size
  have Ho3 : Hid (OwnBR w2.heap.size w3 v3 _) := Lib.hid (OwnBR.of ho3)
  have hcw3 : ∀ i, w3.cell? ⟨w.heap.size, i, none⟩ = (#[.int .i64 196608, .int .i64 hc1, .int .i64 hc2, .slice p L.length c] : Array Value)[i]? := (Hb2.out.below hb3 (by omega)).cell
  have Hb3 := Lib.hid (Hb2.out.below hb3 (by omega))
  have HW3' := Lib.hid hb3
  have HW3 := Lib.hid (HW2.out.trans (hb3.mono HW2.out.size))
  clear hb3 ho3 hcw Hp
  obtain ⟨P, hP⟩ : ∃ P, putV [] 196608 4 = P := ⟨_, rfl⟩
  rw [hP] at Hv Hpl Ho3
  have hpl := Hpl.out
  simp only [List.length_nil] at hpl
  clear hP Hpl
  have hlt2 : w.heap.size < w2.heap.size := by omega
  go_wp2_with fail
  clear hcw3
  go_loopw [4, 5] (fun v i wr => ∃ k : Nat, k ≤ L.length ∧ i = .int .i64 k ∧ OwnBR w2.heap.size wr v (P ++ parsB (L.take k)) ∧ Below w2.heap.size w2 wr) (fun _ i _ => L.length - (intOf i).toNat)
  case atStart => exact ⟨0, Nat.zero_le _, rfl, (by have h0 : P ++ parsB (L.take 0) = P := (by simp [parsB]); rw [h0]; exact Ho3.out), HW3'.out⟩
  case round =>
    obtain ⟨k, hk, rfl, ho, hb⟩ := hrel
    have hsz := hb.size
    have Hbw := Lib.hid hb
    have Ho := Lib.hid ho
    by_cases hltk : k < L.length
    · obtain ⟨b, o, rfl, hS, hbl, c0, c1⟩ := pr_at Hs0.out hltk
      have Hk := Lib.hid (parsB_take hltk)
      have Hle := Lib.hid (parsB_le L (k + 1))
      have HbX : Hid (∀ w', Below w2.heap.size w2 w' → ∀ i, w'.cell? ⟨w.heap.size, i, none⟩ = (#[.int .i64 196608, .int .i64 hc1, .int .i64 hc2, .slice (some ⟨b, o, none⟩) L.length c] : Array Value)[i]?) := Lib.hid (fun w' h' => (Hb2.out.below h' hlt2).cell)
      have HcX : Hid (∀ w', Below w2.heap.size w2 w' → w'.cell? ⟨b, o + k * 2, none⟩ = some (.string L[k].name) ∧ w'.cell? ⟨b, o + k * 2 + 1, none⟩ = some (.string L[k].value)) := Lib.hid (fun w' h' => by
        have hww := HW2.out.trans (h'.mono HW2.out.size)
        exact ⟨(hww.cell (p := ⟨b, o + k * 2, none⟩) hbl).trans c0, (hww.cell (p := ⟨b, o + k * 2 + 1, none⟩) hbl).trans c1⟩)
      have c0' := (HcX.out wr hb).1
      have hcr := HbX.out wr hb
      clear ho hb hS c0 c1
      generalize L[k] = x at *
      have hlti : (k : Int) < (L.length : Int) := by omega
      obtain ⟨Q, hQ⟩ : ∃ Q, P ++ parsB (L.take k) = Q := ⟨_, rfl⟩
      rw [hQ] at Ho
      have hle := Hle.out
      have hQx : Q.length + (prB x).length ≤ 100004 := by rw [Hk.out, List.length_append] at hle; rw [← hQ, List.length_append]; omega
      have HQ := Lib.hid hQ
      have hr1 : Q.length + x.name.data.toList.length ≤ 200000 := by simp [prB] at hQx ⊢; omega
      have hr2 : (Q ++ x.name.data.toList).length + 1 ≤ 300000 := by rw [List.length_append]; omega
      have hr3 : ((Q ++ x.name.data.toList) ++ [0]).length + x.value.data.toList.length ≤ 400000 := by simp [prB] at hQx ⊢; omega
      have hr4 : (((Q ++ x.name.data.toList) ++ [0]) ++ x.value.data.toList).length + 1 ≤ 500000 := by rw [List.length_append]; omega
      clear hQ hle Hle
      go_upto_region 10 with (first
            | (at_builtin; refine step_appendStr _ rfl (.tmp 23) (.tmp 29) rfl w2.heap.size u4 _ rfl Ho.out x.name rfl (by omega) (by omega) ?_; intro v5name w5name ho5 hg5 hn5; have Ho5name := Lib.hid ho5; have hz5name := hg5.size; have HB5name : Hid (Below w2.heap.size w2 w5name) := Lib.hid (Hbw.out.trans (Below.of_row hg5 (by omega) (fun k hk => (Ho.out.row k hk).1))); clear ho5 hg5 hn5)
            | (at_builtin; refine step_appendBR _ rfl (.tmp 30) (.tmp 31) rfl w2.heap.size v5name _ rfl (Ho5name.out.alloc _) (some ⟨w5name.heap.size, 0, none⟩) [0] 1 1 rfl rfl (BytesIn.new1 w5name 0 0 _ rfl) (by rw [List.length_singleton]; omega) (by rw [World.size_alloc]; omega) ?_; intro v6name w6name ho6 hg6 hn6; have Ho6name := Lib.hid ho6; have HB6name : Hid (Below w2.heap.size w2 w6name) := Lib.hid ((HB5name.out.alloc (by omega) _).trans (Below.of_row hg6 (by rw [World.size_alloc]; omega) (fun k hk => (Ho5name.out.row k hk).1))); have hz6name := HB6name.out.size; clear ho6 hg6 hn6; have hcw6name := HbX.out w6name HB6name.out; have c16name := (HcX.out w6name HB6name.out).2))
      clear hcr c0'
      go_wp2_with (first
            | (at_builtin; refine step_appendStr _ rfl (.tmp 33) (.tmp 39) rfl w2.heap.size v6name _ rfl Ho6name.out x.value rfl (by omega) (by omega) ?_; intro v5value w5value ho5 hg5 hn5; have Ho5value := Lib.hid ho5; have hz5value := hg5.size; have HB5value : Hid (Below w2.heap.size w2 w5value) := Lib.hid (HB6name.out.trans (Below.of_row hg5 (by omega) (fun k hk => (Ho6name.out.row k hk).1))); clear ho5 hg5 hn5)
            | (at_builtin; refine step_appendBR _ rfl (.tmp 40) (.tmp 41) rfl w2.heap.size v5value _ rfl (Ho5value.out.alloc _) (some ⟨w5value.heap.size, 0, none⟩) [0] 1 1 rfl rfl (BytesIn.new1 w5value 0 0 _ rfl) (by rw [List.length_singleton]; omega) (by rw [World.size_alloc]; omega) ?_; intro v6value w6value ho6 hg6 hn6; have Ho6value := Lib.hid ho6; have HB6value : Hid (Below w2.heap.size w2 w6value) := Lib.hid ((HB5value.out.alloc (by omega) _).trans (Below.of_row hg6 (by rw [World.size_alloc]; omega) (fun k hk => (Ho5value.out.row k hk).1))); have hz6value := HB6value.out.size; clear ho6 hg6 hn6; have hcw6value := HbX.out w6value HB6value.out; have c16value := (HcX.out w6value HB6value.out).2))
      go_roundw
      case rel =>
        refine ⟨k + 1, by omega, by go_num, ?_, HB6value.out⟩
        have hfin := Ho6value.out
        rw [Hk.out, ← List.append_assoc, HQ.out]
        have he : Q ++ prB x = (((Q ++ x.name.data.toList) ++ [0]) ++ x.value.data.toList) ++ [0] := by simp [prB]
        rw [he]
        exact hfin
      case measure => simp [intOf]; omega
    · obtain rfl : k = L.length := by omega
      rw [parsB_all] at ho
      have Hoe := Lib.hid ho
      have hroom3 : (P ++ parsB L).length + 1 ≤ 200000 := by rw [List.length_append]; omega
      have hcr : ∀ i, wr.cell? ⟨w.heap.size, i, none⟩ = (#[.int .i64 196608, .int .i64 hc1, .int .i64 hc2, .slice p L.length c] : Array Value)[i]? := (Hb2.out.below hb hlt2).cell
      clear ho hb hltk hk Ho
      go_wp2_with (at_builtin; refine step_appendBR _ rfl (.tmp 43) (.tmp 44) rfl w2.heap.size u4 _ rfl (Hoe.out.alloc _) (some ⟨wr.heap.size, 0, none⟩) [0] 1 1 rfl rfl (BytesIn.new1 wr 0 0 _ rfl) (by rw [List.length_singleton]; omega) (by rw [World.size_alloc]; omega) ?_; intro v6 w6 ho6 hg6 hn6; have Ho6 := Lib.hid ho6; have HB6 : Hid (Below w2.heap.size w2 w6) := Lib.hid ((Hbw.out.alloc (by omega) _).trans (Below.of_row hg6 (by rw [World.size_alloc]; omega) (fun k hk => (Hoe.out.row k hk).1))); clear ho6 hg6 hn6)
      go_ret2
      rw [Hv.out]
      exact ⟨_, rfl, OwnR.base Ho6.out (by omega), HW2.out.trans (HB6.out.mono HW2.out.size)⟩

theorem rbuild_any (S : Nat → Prop) (h : HelV) (p : Option Addr) (c : Nat) (w : World) (hs : SliceS 2 PrS S w [.slice p h.params.length c] h.params) (hsz : ∀ x ∈ h.params, x.name.size ≤ 100000 ∧ x.value.size ≤ 100000) (hl : (parsB h.params).length ≤ 100000) :
    Calls Try.prog 54 #[helArg h p c] w (BuildR h w) := by
  cases hm : mayV h with
  | false => exact rbuild_no S h p c w hs hsz hm
  | true =>
    rcases may_code hm with h1 | h1 | h1
    · exact rbuild_version S h p c w hs hsz hl hm h1
    · exact rbuild_cancel S h p c w hs hsz hm h1
    · exact rbuild_ssl S h p c w hs hsz hm h1

end Go.Proofs.Ytjfhpafaopeogaa
