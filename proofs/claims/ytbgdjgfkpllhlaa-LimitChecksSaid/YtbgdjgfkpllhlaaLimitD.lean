/-
  The contract of remudaref35.Check: whether settings may be, by the document.
-/
import Derived.Test.YtbgdjgfkpllhlaaLimitC
namespace Go.Proofs.Ytbgdjgfkpllhlaa
open Go.RowKit

theorem in_any (n lo hi : Int) (w : World) :
    Calls Try.prog 33 #[.int .i64 n, .int .i64 lo, .int .i64 hi] w fun e w' => e = .returned (.bool (Bnd.ok ⟨n, lo, hi⟩)) ∧ w = w' := by
  rw [show Bnd.ok ⟨n, lo, hi⟩ = (decide (lo ≤ n) && decide (n ≤ hi)) from rfl]
  go_enter Try.func33, Try.ntmps33
  go_wp2
  all_goals go_ret
  all_goals refine ⟨ret_bool ?_, rfl⟩
  all_goals simp_all
  all_goals omega

theorem fairB_parts (x : PairL) (h : fairB x = true) : x.name.toList.isEmpty = false ∧ x.name.size ≤ 100 ∧ x.value.size ≤ 100 ∧ cleanB x.name = true ∧ cleanB x.value = true := by
  unfold fairB at h
  simp only [Bool.and_eq_true, Bool.not_eq_true', decide_eq_true_eq] at h
  exact ⟨h.1.1.1, h.1.1.2.1, h.1.1.2.2, h.1.2, h.2⟩

set_option maxHeartbeats 2000000 in
theorem checkR_any (s c t m b q : Int) (p : Option Addr) (xs : List PairL) (cap : Nat) (w : World) (B : Nat) (hB : B ≤ w.heap.size) (hx : SliceR 2 PairR B w [.slice p xs.length cap] xs) :
    Calls Try.prog 18 #[.agg #[.int .i64 s, .int .i64 c, .int .i64 t, .int .i64 m, .int .i64 b, .int .i64 q, .slice p xs.length cap]] w fun e w' =>
      e = .returned (.int .i64 (checkV s c t m b q xs)) ∧ Below w.heap.size w w' := by
  have Hx := Lib.hid hx
  clear hx
  have hbox : Below w.heap.size w (w.alloc (.cells #[.int .i64 s, .int .i64 c, .int .i64 t, .int .i64 m, .int .i64 b, .int .i64 q, .slice p xs.length cap] 34)) := (Below.refl _ _).alloc (Nat.le_refl _) _
  have Hbox := Lib.hid hbox
  clear hbox
  by_cases hall : Bnd.ok ⟨s, 1, 8⟩ = true ∧ Bnd.ok ⟨c, 1, 64⟩ = true ∧ Bnd.ok ⟨t, 1, 64⟩ = true ∧ Bnd.ok ⟨m, 64, 65536⟩ = true
  · obtain ⟨h1, h2, h3, h4⟩ := hall
    have hm : 64 ≤ m ∧ m ≤ 65536 := by
      rw [show Bnd.ok ⟨m, 64, 65536⟩ = (decide (64 ≤ m) && decide (m ≤ 65536)) from rfl] at h4
      simpa using h4
    by_cases hall2 : Bnd.ok ⟨b, m + 1, 131072⟩ = true ∧ Bnd.ok ⟨q, 6, 256⟩ = true ∧ xs.length ≤ 16
    · obtain ⟨h5, h6, h7⟩ := hall2
      have hV : checkV s c t m b q xs = if xs.all fairB = true then 0 else 1 := by
        unfold checkV
        have e5 : (decide (m + 1 ≤ b) && decide (b ≤ 131072)) = true := h5
        have e6 : m + 1 ≤ b ∧ b ≤ 131072 := by simpa using e5
        have e7 : (bnds s c t m b q xs.length).all Bnd.ok = true := by
          simp only [bnds, List.all_cons, h1, h2, h3, h4, h6, List.all_nil]
          simp [Bnd.ok]
          omega
        have e8 : b ≠ m := by omega
        simp [e7, e8]
      have H1 := Lib.hid h1
      have H2 := Lib.hid h2
      have H3 := Lib.hid h3
      have H4 := Lib.hid h4
      have H5 := Lib.hid h5
      have H6 := Lib.hid h6
      have HV := Lib.hid hV
      clear h1 h2 h3 h4 h5 h6 hV
      go_enter Try.func18, Try.ntmps18
      go_wp2_with (first | (go_at_call 33; refine (in_any _ _ _ _).mono ?_; rintro e w2 ⟨rfl, rfl⟩; first | rw [H1.out] | rw [H2.out] | rw [H3.out] | rw [H4.out] | rw [H5.out] | rw [H6.out]))
      generalize hw0 : w.alloc (.cells #[.int .i64 s, .int .i64 c, .int .i64 t, .int .i64 m, .int .i64 b, .int .i64 q, .slice p xs.length cap] 34) = w0
      have c6 : w0.cell? ⟨w.heap.size, 6, none⟩ = some (.slice p xs.length cap) := by rw [← hw0]; simp
      have hs0 : w0.heap.size = w.heap.size + 1 := by rw [← hw0]; simp
      have hb0 : Below w.heap.size w w0 := by rw [← hw0]; exact Hbox.out
      have C6 := Lib.hid c6
      have Hb0 := Lib.hid hb0
      have hs0' : w.heap.size + 1 ≤ w0.heap.size := by omega
      clear c6 hb0 hw0 hs0 Hbox
      go_loopw [3, 4] (fun i _ wr => ∃ k : Nat, k ≤ xs.length ∧ i = .int .i64 k ∧ (∀ j x, j < k → xs[j]? = some x → fairB x = true) ∧ Below (w.heap.size + 1) w0 wr) (fun i _ _ => xs.length - (intOf i).toNat)
      case atStart => exact ⟨0, Nat.zero_le _, rfl, fun j x h => by omega, Below.refl _ _⟩
      case round =>
        obtain ⟨k, hk, rfl, hall, hbw⟩ := hrel
        have Hall := Lib.hid hall
        have hsz := hbw.size
        have c6 : wr.cell? ⟨w.heap.size, 6, none⟩ = some (.slice p xs.length cap) := (hbw.cell (p := ⟨w.heap.size, 6, none⟩) (by show w.heap.size < _; omega)).trans C6.out
        have Hbw := Lib.hid hbw
        clear hall hbw
        by_cases hlt : k < xs.length
        · obtain ⟨p', c', h1, hlc, hcm, h4⟩ := SliceR.stays PairR.stays B w wr _ _ Hx.out ((Hb0.out.mono hB).trans (Hbw.out.mono (by omega)))
          simp only [List.cons.injEq, Value.slice.injEq, and_true] at h1
          obtain ⟨rfl, h9, rfl⟩ := h1
          clear h9
          obtain ⟨b', o, es, rfl, hbB, hel, hcell, rfl, hn1, hv1⟩ := h4 k xs[k] (List.getElem?_eq_getElem hlt)
          have c0 := hcell 0 _ rfl
          have c1 := hcell 1 _ rfl
          rw [Nat.add_zero] at c0
          clear hcell h4 hel
          have hx : xs[k]? = some xs[k] := List.getElem?_eq_getElem hlt
          generalize xs[k] = x at c0 c1 hx hn1 hv1
          obtain ⟨xn, xv⟩ := x
          have Hx2 := Lib.hid hx
          clear hx
          unfold maxLen at hcm hn1 hv1
          by_cases hf : fairB ⟨xn, xv⟩ = true
          · obtain ⟨f1, f2, f3, f4, f5⟩ := fairB_parts _ hf
            dsimp only at f1 f2 f3 f4 f5
            have Hf := Lib.hid hf
            have F4 := Lib.hid f4
            have F5 := Lib.hid f5
            have f1' : xn.toList ≠ [] := by intro e; rw [e] at f1; cases f1
            have f2' : (xn.size : Int) ≤ 100 := by omega
            have f3' : (xv.size : Int) ≤ 100 := by omega
            clear hf f4 f5
            go_wp2_with (first | (go_at_call 34; refine (cleanR_any _ _ (by unfold maxLen; omega)).mono ?_; rintro e w2 ⟨rfl, rfl⟩; first | rw [F4.out] | rw [F5.out]))
            go_roundw
            case rel => exact ⟨k + 1, by omega, by go_num, fun j x hj hjx => by
              by_cases e : j = k
              · subst e
                rw [Hx2.out] at hjx
                cases hjx
                exact Hf.out
              · exact Hall.out j x (by omega) hjx, Hbw.out.trans ((Below.refl _ _).alloc (by omega) _)⟩
            case measure => simp [intOf]; omega
          · have hf' : (!xn.toList.isEmpty && (decide (xn.size ≤ 100) && decide (xv.size ≤ 100)) && cleanB xn && cleanB xv) = false := by simpa [fairB] using hf
            have hV1 : checkV s c t m b q xs = 1 := by
              rw [HV.out, if_neg]
              intro ha
              exact hf (List.all_eq_true.1 ha _ (List.mem_of_getElem? Hx2.out))
            have Hf := Lib.hid hf'
            have HV1 := Lib.hid hV1
            clear hf hf' hV1
            go_wp2_with (first | (go_at_call 34; refine (cleanR_any _ _ (by unfold maxLen; omega)).mono ?_; rintro e w2 ⟨rfl, rfl⟩))
            case roundEnd =>
              exfalso
              have h := Hf.out
              simp_all
              omega
            all_goals
              go_ret
              exact ⟨ret_int HV1.out.symm, (Hb0.out.trans (Hbw.out.mono (by omega))).trans ((Below.refl _ _).alloc (by omega) _)⟩
        · go_wp2
          go_ret
          refine ⟨ret_int ?_, Hb0.out.trans (Hbw.out.mono (by omega))⟩
          rw [HV.out, if_pos]
          rw [List.all_eq_true]
          intro x hx
          obtain ⟨j, hj, rfl⟩ := List.getElem_of_mem hx
          exact Hall.out j _ (by omega) (List.getElem?_eq_getElem hj)
    · have hV : checkV s c t m b q xs = 1 := by
        unfold checkV
        rw [if_neg]
        rintro ⟨ha, hne, _⟩
        apply hall2
        simp only [bnds, List.all_cons, Bool.and_eq_true] at ha
        obtain ⟨_, _, _, _, k5, k6, k7, _⟩ := ha
        refine ⟨?_, k6, ?_⟩
        · rw [show Bnd.ok ⟨b, m, 131072⟩ = (decide (m ≤ b) && decide (b ≤ 131072)) from rfl] at k5
          rw [show Bnd.ok ⟨b, m + 1, 131072⟩ = (decide (m + 1 ≤ b) && decide (b ≤ 131072)) from rfl]
          simp at k5 ⊢; omega
        · rw [show Bnd.ok ⟨(xs.length : Int), 0, 16⟩ = (decide (0 ≤ (xs.length : Int)) && decide ((xs.length : Int) ≤ 16)) from rfl] at k7
          simp at k7; omega
      rw [hV]
      have H1 := Lib.hid h1
      have H2 := Lib.hid h2
      have H3 := Lib.hid h3
      have H4 := Lib.hid h4
      clear h1 h2 h3 h4 hV
      generalize h5 : Bnd.ok ⟨b, m + 1, 131072⟩ = o5 at hall2
      generalize h6 : Bnd.ok ⟨q, 6, 256⟩ = o6 at hall2
      have H5 := Lib.hid h5
      have H6 := Lib.hid h6
      clear h5 h6
      have Hno := Lib.hid hall2
      clear hall2
      cases o5
      · go_enter Try.func18, Try.ntmps18
        go_wp2_with (first | (go_at_call 33; refine (in_any _ _ _ _).mono ?_; rintro e w2 ⟨rfl, rfl⟩; first | rw [H1.out] | rw [H2.out] | rw [H3.out] | rw [H4.out] | rw [H5.out] | rw [H6.out]))
        go_ret
        exact ⟨rfl, Hbox.out⟩
      · cases o6
        · go_enter Try.func18, Try.ntmps18
          go_wp2_with (first | (go_at_call 33; refine (in_any _ _ _ _).mono ?_; rintro e w2 ⟨rfl, rfl⟩; first | rw [H1.out] | rw [H2.out] | rw [H3.out] | rw [H4.out] | rw [H5.out] | rw [H6.out]))
          go_ret
          exact ⟨rfl, Hbox.out⟩
        · have hl : 16 < xs.length := by
            have := Hno.out
            simp at this
            exact this
          go_enter Try.func18, Try.ntmps18
          go_wp2_with (first | (go_at_call 33; refine (in_any _ _ _ _).mono ?_; rintro e w2 ⟨rfl, rfl⟩; first | rw [H1.out] | rw [H2.out] | rw [H3.out] | rw [H4.out] | rw [H5.out] | rw [H6.out]))
          go_ret
          exact ⟨rfl, Hbox.out⟩
  · have hV : checkV s c t m b q xs = 1 := by
      unfold checkV
      rw [if_neg]
      rintro ⟨ha, _⟩
      apply hall
      simp only [bnds, List.all_cons, Bool.and_eq_true] at ha
      exact ⟨ha.1, ha.2.1, ha.2.2.1, ha.2.2.2.1⟩
    rw [hV]
    clear hV
    generalize h1 : Bnd.ok ⟨s, 1, 8⟩ = o1 at hall
    generalize h2 : Bnd.ok ⟨c, 1, 64⟩ = o2 at hall
    generalize h3 : Bnd.ok ⟨t, 1, 64⟩ = o3 at hall
    generalize h4 : Bnd.ok ⟨m, 64, 65536⟩ = o4 at hall
    have H1 := Lib.hid h1
    have H2 := Lib.hid h2
    have H3 := Lib.hid h3
    have H4 := Lib.hid h4
    clear h1 h2 h3 h4
    have hc : o1 = false ∨ (o1 = true ∧ o2 = false) ∨ (o1 = true ∧ o2 = true ∧ o3 = false) ∨ (o1 = true ∧ o2 = true ∧ o3 = true ∧ o4 = false) := by
      cases o1 <;> cases o2 <;> cases o3 <;> cases o4 <;> simp_all
    clear hall
    rcases hc with rfl | ⟨rfl, rfl⟩ | ⟨rfl, rfl, rfl⟩ | ⟨rfl, rfl, rfl, rfl⟩
    all_goals
      go_enter Try.func18, Try.ntmps18
      go_wp2_with (first | (go_at_call 33; refine (in_any _ _ _ _).mono ?_; rintro e w2 ⟨rfl, rfl⟩; first | rw [H1.out] | rw [H2.out] | rw [H3.out] | rw [H4.out]))
      go_ret
      exact ⟨rfl, Hbox.out⟩

end Go.Proofs.Ytbgdjgfkpllhlaa
