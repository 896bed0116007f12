/-
  First messages (layer 5): whether one may be told, both.
-/
import Derived.Test.YtjfhpafaopeogaaHeH
import Derived.Test.YtjfhpafaopeogaaNumE
import Derived.Test.YtjfhpafaopeogaaNumRightR
namespace Go.Proofs.Ytjfhpafaopeogaa
open Go.RowKit
set_option linter.unusedVariables false
set_option linter.unusedSimpArgs false

def unsigV (n : Int) : Bool := decide (0 ≤ n) && rightB n 4
def noneV (h : HelV) : Bool := (h.process == 0) && (h.secret == 0)
/-- Whether a message may be told, but for its pairs. -/
def kindV (h : HelV) : Bool :=
  if h.code = 196608 then noneV h
  else if h.code = 80877103 then noneV h && ((h.params.length : Int) == 0)
  else if h.code = 80877102 then ((h.params.length : Int) == 0) && (unsigV h.process && unsigV h.secret)
  else false
def mayV (h : HelV) : Bool := !(h.params.any unfairV) && kindV h

theorem unsig_any (n : Int) (w : World) : Calls Try.prog 125 #[.int .i64 n] w fun e w' => e = .returned (.bool (unsigV n)) ∧ w = w' := by
  have Hv : Hid (unsigV n = (decide (0 ≤ n) && rightB n 4)) := Lib.hid rfl
  generalize unsigV n = v at *
  obtain ⟨r, hr⟩ : ∃ r, rightB n 4 = r := ⟨_, rfl⟩
  have Hr := Lib.hid hr
  rw [hr] at Hv
  clear hr
  go_enter Try.func125, Try.ntmps125
  go_wp2_with (first | (go_at_call 114; refine (right_any _ _ _).mono ?_; rintro e w' ⟨rfl, rfl⟩; rw [Hr.out]))
  all_goals
    go_ret
    refine ⟨ret_bool ?_, rfl⟩
    rw [Hv.out]
    simp_all
  all_goals omega

set_option maxRecDepth 100000 in
set_option maxHeartbeats 4000000 in
theorem may_any (S : Nat → Prop) (h : HelV) (p : Option Addr) (c : Nat) (w : World) (hs : SliceS 2 PrS S w [.slice p h.params.length c] h.params) :
    Calls Try.prog 98 #[helArg h p c] w fun e w' => e = .returned (.bool (mayV h)) ∧ Below w.heap.size w w' := by
  obtain ⟨hb, hs1, hw⟩ := hel_box hs
  have Hw := Lib.hid hw
  have Hs1 := Lib.hid hs1
  have Hb := Lib.hid hb
  have Hm : Hid (mayV h = (!(h.params.any unfairV) && kindV h)) := Lib.hid rfl
  have Hk : Hid (kindV h = if h.code = 196608 then (h.process == 0) && (h.secret == 0) else if h.code = 80877103 then ((h.process == 0) && (h.secret == 0)) && ((h.params.length : Int) == 0) else if h.code = 80877102 then ((h.params.length : Int) == 0) && (unsigV h.process && unsigV h.secret) else false) := Lib.hid rfl
  generalize mayV h = mv at *
  generalize kindV h = kv at *
  obtain ⟨hc0, hc1, hc2, L⟩ := h
  dsimp only at *
  obtain ⟨-, hlc, hcm⟩ := hs.len
  unfold maxLen at hcm
  unfold helArg helCells at *
  dsimp only at *
  clear hs hs1 hb hw
  go_enter Try.func98, Try.ntmps98
  go_upto_region 1 with (fail)
  have hlt := Hb.out.lt
  generalize w.alloc (.cells #[.int .i64 hc0, .int .i64 hc1, .int .i64 hc2, .slice p L.length c] 94) = w1 at *
  have hc := Hb.out.cell
  have Hi := Lib.hid (containsUnfair S p _ c L w1 Hs1.out)
  generalize L.any unfairV = un at *
  generalize hn : L.length = n at *
  clear hn
  go_wp2_with fail
  refine Hi.out.mono ?_
  rintro e w2 ⟨rfl, hb2⟩
  have hcw : ∀ i, w2.cell? ⟨w.heap.size, i, none⟩ = (#[.int .i64 hc0, .int .i64 hc1, .int .i64 hc2, .slice p n c] : Array Value)[i]? := (Hb.out.below hb2 hlt).cell
  have HW := Lib.hid (Hw.out.trans (hb2.mono Hw.out.size))
  clear hc hb2
  have Hu1 := Lib.hid (unsig_any hc1 w2)
  have Hu2 := Lib.hid (unsig_any hc2 w2)
  generalize unsigV hc1 = u1 at *
  generalize unsigV hc2 = u2 at *
  cases un with
  | true =>
    go_wp2_with fail
    go_ret
    exact ⟨ret_bool (by rw [Hm.out]; rfl), HW.out⟩
  | false =>
    simp only [Bool.not_false, Bool.true_and] at Hm
    by_cases k1 : hc0 = 196608
    · have Hk2 := Lib.hid (Hk.out.trans (if_pos k1))
      subst k1
      clear Hk
      go_wp2_with fail
      all_goals
        go_ret
        refine ⟨ret_bool ?_, HW.out⟩
        rw [Hm.out, Hk2.out]
        simp_all [bne]
    · have g1 : (hc0 == 196608) = false := by simpa using k1
      by_cases k2 : hc0 = 80877103
      · have Hk2 := Lib.hid (Hk.out.trans ((if_neg k1).trans (if_pos k2)))
        subst k2
        clear Hk k1
        go_wp2_with fail
        all_goals
          go_ret
          refine ⟨ret_bool ?_, HW.out⟩
          rw [Hm.out, Hk2.out]
          simp_all [bne]
      · have g2 : (hc0 == 80877103) = false := by simpa using k2
        by_cases k3 : hc0 = 80877102
        · have Hk2 := Lib.hid (Hk.out.trans ((if_neg k1).trans ((if_neg k2).trans (if_pos k3))))
          subst k3
          clear Hk k1 k2
          by_cases hp : hc1 = 0
          · subst hp
            by_cases hn0 : (n : Int) = 0
            · have hnn : ((n : Int) == 0) = true := by simpa using hn0
              rw [hnn] at Hk2
              have Hz := Lib.hid hn0
              clear hn0
              cases u1 with
              | false =>
                go_wp2_with fail
                refine Hu1.out.mono ?_
                rintro e w3 ⟨rfl, rfl⟩
                go_wp2_with fail
                go_ret
                exact ⟨ret_bool (by rw [Hm.out, Hk2.out]; rfl), HW.out⟩
              | true =>
                go_wp2_with fail
                refine Hu1.out.mono ?_
                rintro e w3 ⟨rfl, rfl⟩
                go_wp2_with fail
                refine Hu2.out.mono ?_
                rintro e w3 ⟨rfl, rfl⟩
                go_wp2_with fail
                go_ret
                exact ⟨ret_bool (by rw [Hm.out, Hk2.out]; rfl), HW.out⟩
            · have hnn : ((n : Int) == 0) = false := by simpa using hn0
              rw [hnn] at Hk2
              clear hn0
              go_wp2_with fail
              all_goals
                go_ret
                exact ⟨ret_bool (by rw [Hm.out, Hk2.out]; rfl), HW.out⟩
          · have hpb : (hc1 == 0) = false := by simpa using hp
            have Hpb := Lib.hid hp
            clear hp
            by_cases hn0 : (n : Int) = 0
            · have hnn : ((n : Int) == 0) = true := by simpa using hn0
              rw [hnn] at Hk2
              have Hz := Lib.hid hn0
              clear hn0
              cases u1 with
              | false =>
                go_wp2_with fail
                refine Hu1.out.mono ?_
                rintro e w3 ⟨rfl, rfl⟩
                go_wp2_with fail
                go_ret
                exact ⟨ret_bool (by rw [Hm.out, Hk2.out]; rfl), HW.out⟩
              | true =>
                go_wp2_with fail
                refine Hu1.out.mono ?_
                rintro e w3 ⟨rfl, rfl⟩
                go_wp2_with fail
                refine Hu2.out.mono ?_
                rintro e w3 ⟨rfl, rfl⟩
                go_wp2_with fail
                go_ret
                exact ⟨ret_bool (by rw [Hm.out, Hk2.out]; rfl), HW.out⟩
            · have hnn : ((n : Int) == 0) = false := by simpa using hn0
              rw [hnn] at Hk2
              clear hn0
              go_wp2_with fail
              all_goals
                go_ret
                exact ⟨ret_bool (by rw [Hm.out, Hk2.out]; rfl), HW.out⟩
        · have g3 : (hc0 == 80877102) = false := by simpa using k3
          have Hk2 := Lib.hid (Hk.out.trans ((if_neg k1).trans ((if_neg k2).trans (if_neg k3))))
          clear Hk k1 k2 k3
          go_wp2_with fail
          all_goals
            go_ret
            exact ⟨ret_bool (by rw [Hm.out, Hk2.out]), HW.out⟩

theorem any_unfair {L : List PrV} {k : Nat} (hk : k < L.length) (h : unfairV L[k] = true) : L.any unfairV = true := List.any_eq_true.2 ⟨_, List.getElem_mem hk, h⟩
theorem any_fair : ∀ {L : List PrV}, (∀ k (hk : k < L.length), unfairV L[k] = false) → L.any unfairV = false := by
  intro L h
  rw [List.any_eq_false]
  intro x hx
  obtain ⟨k, hk, rfl⟩ := List.getElem_of_mem hx
  rw [h k hk]
  decide

set_option maxRecDepth 100000 in
set_option maxHeartbeats 4000000 in
theorem rmay_any (S : Nat → Prop) (h : HelV) (p : Option Addr) (c : Nat) (w : World) (hs : SliceS 2 PrS S w [.slice p h.params.length c] h.params) (hsz : ∀ x ∈ h.params, x.name.size ≤ 100000 ∧ x.value.size ≤ 100000) :
    Calls Try.prog 100 #[helArg h p c] w fun e w' => e = .returned (.bool (mayV h)) ∧ Below w.heap.size w w' := by
  obtain ⟨hb, hs1, hw⟩ := hel_box hs
  have Hw := Lib.hid hw
  have Hs1 := Lib.hid hs1
  have Hb := Lib.hid hb
  have Hsz := Lib.hid hsz
  have Hm : Hid (mayV h = (!(h.params.any unfairV) && kindV h)) := Lib.hid rfl
  have Hk : Hid (kindV h = if h.code = 196608 then (h.process == 0) && (h.secret == 0) else if h.code = 80877103 then ((h.process == 0) && (h.secret == 0)) && ((h.params.length : Int) == 0) else if h.code = 80877102 then ((h.params.length : Int) == 0) && ((decide (0 ≤ h.process) && rightB h.process 4) && (decide (0 ≤ h.secret) && rightB h.secret 4)) else false) := Lib.hid rfl
  generalize mayV h = mv at *
  generalize kindV h = kv at *
  obtain ⟨hc0, hc1, hc2, L⟩ := h
  dsimp only at *
  obtain ⟨-, hlc, hcm⟩ := hs.len
  unfold maxLen at hcm
  unfold helArg helCells at *
  dsimp only at *
  clear hs hs1 hb hw hsz
  go_enter Try.func100, Try.ntmps100
  go_upto_region 1 with (fail)
  have hlt := Hb.out.lt
  generalize w.alloc (.cells #[.int .i64 hc0, .int .i64 hc1, .int .i64 hc2, .slice p L.length c] 94) = w1 at *
  have hc := Hb.out.cell
  go_wp2_with fail
  go_loopw [3] (fun i wr => ∃ k : Nat, k ≤ L.length ∧ i = .int .i64 k ∧ (∀ j (hj : j < L.length), j < k → unfairV L[j] = false) ∧ wr = w1) (fun i _ => L.length - (intOf i).toNat)
  case atStart => exact ⟨0, Nat.zero_le _, rfl, (fun j _ h => by omega), rfl⟩
  case round =>
    obtain ⟨k, hk, rfl, hall, rfl⟩ := hrel
    have Hall := Lib.hid hall
    clear hall
    by_cases hltk : k < L.length
    · obtain ⟨b, o, rfl, hS, hbl, c0, c1⟩ := pr_at Hs1.out hltk
      have hz := Hsz.out L[k] (List.getElem_mem hltk)
      have Hbad := Lib.hid (any_unfair (L := L) hltk)
      have Hgood := Lib.hid (fun h : unfairV L[k] = false => (fun j (hj : j < L.length) (hjk : j < k + 1) => by
        by_cases e : j = k
        · subst e; exact h
        · exact Hall.out j hj (by omega) : ∀ j (hj : j < L.length), j < k + 1 → unfairV L[j] = false))
      have Hx : Hid (unfairV L[k] = !(!L[k].name.toList.isEmpty && (cleanB L[k].name && cleanB L[k].value))) := Lib.hid rfl
      clear hS
      have Hc1 := Lib.hid (cleanR_any L[k].name wr (by unfold maxLen; omega))
      have Hc2 := Lib.hid (cleanR_any L[k].value wr (by unfold maxLen; omega))
      generalize cleanB L[k].name = b1 at *
      generalize cleanB L[k].value = b2 at *
      generalize unfairV L[k] = uf at *
      generalize L[k] = x at *
      have hlti : (k : Int) < (L.length : Int) := by omega
      clear hz
      cases he : x.name.toList.isEmpty with
      | true =>
        have Hb2 := Lib.hid (Hbad.out (by rw [Hx.out, he]; rfl))
        go_wp2_with fail
        go_ret
        exact ⟨ret_bool (by rw [Hm.out, Hb2.out]; rfl), Hw.out⟩
      | false =>
        cases b1 with
        | false =>
          have Hb2 := Lib.hid (Hbad.out (by rw [Hx.out, he]; rfl))
          go_wp2_with fail
          refine Hc1.out.mono ?_
          rintro e w3 ⟨rfl, rfl⟩
          go_wp2_with fail
          go_ret
          exact ⟨ret_bool (by rw [Hm.out, Hb2.out]; rfl), Hw.out⟩
        | true =>
          cases b2 with
          | false =>
            have Hb2 := Lib.hid (Hbad.out (by rw [Hx.out, he]; rfl))
            go_wp2_with fail
            refine Hc1.out.mono ?_
            rintro e w3 ⟨rfl, rfl⟩
            go_wp2_with fail
            refine Hc2.out.mono ?_
            rintro e w3 ⟨rfl, rfl⟩
            go_wp2_with fail
            go_ret
            exact ⟨ret_bool (by rw [Hm.out, Hb2.out]; rfl), Hw.out⟩
          | true =>
            have Hg2 := Lib.hid (Hgood.out (by rw [Hx.out, he]; rfl))
            go_wp2_with fail
            refine Hc1.out.mono ?_
            rintro e w3 ⟨rfl, rfl⟩
            go_wp2_with fail
            refine Hc2.out.mono ?_
            rintro e w3 ⟨rfl, rfl⟩
            go_wp2_with fail
            go_roundw
            case rel => exact ⟨k + 1, by omega, by go_num, Hg2.out, by first | rfl | trivial⟩
            case measure => simp [intOf]; omega
    · obtain rfl : k = L.length := by omega
      have Hun := Lib.hid (any_fair (fun j hj => Hall.out j hj hj))
      rw [Hun.out] at Hm
      clear Hall Hsz
      simp only [Bool.not_false, Bool.true_and] at Hm
      clear hltk hk Hun
      by_cases k1 : hc0 = 196608
      · have Hk2 := Lib.hid (Hk.out.trans (if_pos k1))
        subst k1
        clear Hk
        go_wp2_with fail
        all_goals
          go_ret
          refine ⟨ret_bool ?_, Hw.out⟩
          rw [Hm.out, Hk2.out]
          simp_all [bne]
      · have g1 : (hc0 == 196608) = false := by simpa using k1
        by_cases k2 : hc0 = 80877103
        · have Hk2 := Lib.hid (Hk.out.trans ((if_neg k1).trans (if_pos k2)))
          subst k2
          clear Hk k1
          go_wp2_with fail
          all_goals
            go_ret
            refine ⟨ret_bool ?_, Hw.out⟩
            rw [Hm.out, Hk2.out]
            simp_all [bne]
        · have g2 : (hc0 == 80877103) = false := by simpa using k2
          by_cases k3 : hc0 = 80877102
          · have Hk2 := Lib.hid (Hk.out.trans ((if_neg k1).trans ((if_neg k2).trans (if_pos k3))))
            subst k3
            clear Hk k1 k2
            have Hr1 := Lib.hid (rightR_any hc1 4 wr)
            have Hr2 := Lib.hid (rightR_any hc2 4 wr)
            generalize rightB hc1 4 = r1 at *
            generalize rightB hc2 4 = r2 at *
            by_cases hp : hc1 = 0
            · subst hp
              by_cases hn0 : (L.length : Int) = 0
              · have hnn : ((L.length : Int) == 0) = true := by simpa using hn0
                rw [hnn] at Hk2
                clear hn0
                by_cases q1 : (0 : Int) ≤ 0
                · rw [decide_eq_true q1] at Hk2
                  by_cases q2 : 0 ≤ hc2
                  · rw [decide_eq_true q2] at Hk2
                    cases r1 with
                    | false =>
                      go_wp2_with fail
                      refine Hr1.out.mono ?_
                      rintro e w3 ⟨rfl, rfl⟩
                      go_wp2_with fail
                      go_ret
                      exact ⟨ret_bool (by rw [Hm.out, Hk2.out]; simp), Hw.out⟩
                    | true =>
                      go_wp2_with fail
                      refine Hr1.out.mono ?_
                      rintro e w3 ⟨rfl, rfl⟩
                      go_wp2_with fail
                      refine Hr2.out.mono ?_
                      rintro e w3 ⟨rfl, rfl⟩
                      go_wp2_with fail
                      go_ret
                      exact ⟨ret_bool (by rw [Hm.out, Hk2.out]; simp), Hw.out⟩
                  · rw [decide_eq_false q2] at Hk2
                    go_wp2_with fail
                    all_goals
                      go_ret
                      exact ⟨ret_bool (by rw [Hm.out, Hk2.out]; simp), Hw.out⟩
                · exact absurd (Int.le_refl 0) q1
              · have hnn : ((L.length : Int) == 0) = false := by simpa using hn0
                rw [hnn] at Hk2
                clear hn0
                go_wp2_with fail
                all_goals
                  go_ret
                  exact ⟨ret_bool (by rw [Hm.out, Hk2.out]; simp), Hw.out⟩
            · have hpb : (hc1 == 0) = false := by simpa using hp
              clear hp
              by_cases hn0 : (L.length : Int) = 0
              · have hnn : ((L.length : Int) == 0) = true := by simpa using hn0
                rw [hnn] at Hk2
                clear hn0
                by_cases q1 : 0 ≤ hc1
                · rw [decide_eq_true q1] at Hk2
                  by_cases q2 : 0 ≤ hc2
                  · rw [decide_eq_true q2] at Hk2
                    cases r1 with
                    | false =>
                      go_wp2_with fail
                      refine Hr1.out.mono ?_
                      rintro e w3 ⟨rfl, rfl⟩
                      go_wp2_with fail
                      go_ret
                      exact ⟨ret_bool (by rw [Hm.out, Hk2.out]; simp), Hw.out⟩
                    | true =>
                      go_wp2_with fail
                      refine Hr1.out.mono ?_
                      rintro e w3 ⟨rfl, rfl⟩
                      go_wp2_with fail
                      refine Hr2.out.mono ?_
                      rintro e w3 ⟨rfl, rfl⟩
                      go_wp2_with fail
                      go_ret
                      exact ⟨ret_bool (by rw [Hm.out, Hk2.out]; simp), Hw.out⟩
                  · rw [decide_eq_false q2] at Hk2
                    go_wp2_with fail
                    all_goals
                      go_ret
                      exact ⟨ret_bool (by rw [Hm.out, Hk2.out]; simp), Hw.out⟩
                · rw [decide_eq_false q1] at Hk2
                  go_wp2_with fail
                  all_goals
                    go_ret
                    exact ⟨ret_bool (by rw [Hm.out, Hk2.out]; simp), Hw.out⟩
              · have hnn : ((L.length : Int) == 0) = false := by simpa using hn0
                rw [hnn] at Hk2
                clear hn0
                go_wp2_with fail
                all_goals
                  go_ret
                  exact ⟨ret_bool (by rw [Hm.out, Hk2.out]; simp), Hw.out⟩
          · have g3 : (hc0 == 80877102) = false := by simpa using k3
            have Hk2 := Lib.hid (Hk.out.trans ((if_neg k1).trans ((if_neg k2).trans (if_neg k3))))
            clear Hk k1 k2 k3
            go_wp2_with fail
            all_goals
              go_ret
              exact ⟨ret_bool (by rw [Hm.out, Hk2.out]), Hw.out⟩

end Go.Proofs.Ytjfhpafaopeogaa
