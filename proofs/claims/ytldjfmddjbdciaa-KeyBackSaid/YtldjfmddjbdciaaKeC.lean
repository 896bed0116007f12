/-
  Statements as keys (layer 12): Of, the program's.
-/
import Derived.Test.YtldjfmddjbdciaaKeB
import Derived.Test.YtldjfmddjbdciaaPackB
namespace Go.Proofs.Ytldjfmddjbdciaa
open Go.RowKit
set_option linter.unusedVariables false
set_option linter.unusedSimpArgs false


set_option maxRecDepth 100000 in
set_option maxHeartbeats 4000000 in
theorem keyOf_any (S : Nat → Prop) (s : StV) (p : Option Addr) (c : Nat) (w : World) (h : SliceS 1 IntU S w [.slice p s.oids.length c] s.oids) (hs : s.text.size ≤ 100000) (ho : s.oids.length ≤ 100000) :
    Calls Try.prog 14 #[stArg s p c] w fun e w' => e = .returned (.string (keyV s)) ∧ Below w.heap.size w w' := by
  have H0 := Lib.hid (St1.start h)
  have HC : Hid (∀ w1 : World, St1 w w1 s p c → ∀ i, w1.cell? ⟨w.heap.size, i, none⟩ = (#[.string s.text, .slice p s.oids.length c] : Array Value)[i]?) := Lib.hid (fun w1 H => H.b.cell)
  have HF := Lib.hid (fun (w0 : World) (H : St1 w w0 s p c) => fair_any _ s p c w0 H.l)
  have HP := Lib.hid (fun (w0 : World) => put_any none [] 0 (s.text.size : Int) 4 w0 (by simp) (BytesIn.nil w0 none))
  have Hv : Hid (keyV s = if fairK s = true then strOf (keyB s) else ⟨#[]⟩) := Lib.hid rfl
  have Hkb : Hid (keyB s = numsK (putV [] s.text.size 4 ++ s.text.data.toList) s.oids s.oids.length) := Lib.hid (by rw [numsK_all]; rfl)
  have Hpl : Hid ((putV [] (s.text.size : Int) 4).length ≤ 4) := Lib.hid (by have := putV_len4 [] (s.text.size : Int) 4; simpa using this)
  have Hsz : Hid (s.text.data.toList.length ≤ 100000) := Lib.hid (by rw [← size_data]; exact hs)
  generalize keyV s = kv at *
  generalize fairK s = fv at *
  generalize keyB s = kb at *
  generalize putV [] (s.text.size : Int) 4 = P at *
  obtain ⟨st, so⟩ := s
  clear h hs
  unfold stArg at *
  dsimp only at *
  go_enter Try.func14, Try.ntmps14
  go_upto_region 1 with (fail)
  generalize w.alloc (.cells #[.string st, .slice p so.length c] 24) = w1 at *
  have c1 := HC.out w1 H0.out
  have HF1 := Lib.hid (HF.out w1 H0.out)
  go_wp2_with fail
  refine HF1.out.mono ?_
  rintro e w2 ⟨rfl, hb⟩
  have H2 := Lib.hid (H0.out.step hb)
  have c2 := HC.out w2 H2.out
  clear hb c1 HF1 HF H0
  cases fv with
  | false =>
    go_wp2_with fail
    go_ret
    exact ⟨by rw [Hv.out]; rfl, H2.out.bel⟩
  | true =>
    have HP2 := Lib.hid (HP.out w2)
    go_wp2_with fail
    refine HP2.out.mono ?_
    rintro e w3 ⟨v3, rfl, ho3, hb3⟩
    have H3 := Lib.hid (H2.out.step hb3)
    have Ho3 : Hid (OwnBR (w.heap.size + 1) w3 v3 P) := Lib.hid (OwnR.base (OwnBR.of ho3) (by have := H2.out.b.lt; omega))
    have c3 := HC.out w3 H3.out
    clear ho3 hb3 c2 HP2 HP H2
    have hz3 : w.heap.size + 1 ≤ w3.heap.size := H3.out.b.lt
    go_upto_region 5 with (at_builtin; refine step_appendStr _ rfl (.tmp 13) (.tmp 15) rfl (w.heap.size + 1) v3 P rfl Ho3.out st rfl (by have := Hpl.out; have := Hsz.out; omega) hz3 ?_; intro v4 w4 ho4 hg4 hn4; have H4 := Lib.hid (H3.out.touch (Touch.of_row hg4) (fun j e => by have := (Ho3.out.row j e.symm).1; omega)); have Ho4 := Lib.hid ho4; clear ho4 hg4 hn4 c3 Ho3)
    have hz4 := H4.out.b.lt
    have Hb0 : Hid (OwnBR (w.heap.size + 1) w4 v4 (numsK (P ++ st.data.toList) so 0)) := Lib.hid (by rw [numsK_zero]; exact Ho4.out)
    have Hln := Lib.hid (fun k hk => numsK_len (P ++ st.data.toList) so k hk)
    have Hl0 : Hid ((P ++ st.data.toList).length ≤ 200000) := Lib.hid (by rw [List.length_append]; have := Hpl.out; have := Hsz.out; omega)
    clear Ho4 Hpl Hsz
    have c4 := HC.out w4 H4.out
    go_wp2_with fail
    clear c4
    go_loopw [3, 20] (fun v i wr => ∃ k : Nat, k ≤ so.length ∧ i = .int .i64 k ∧ OwnBR (w.heap.size + 1) wr v (numsK (P ++ st.data.toList) so k) ∧ St1 w wr ⟨st, so⟩ p c) (fun _ i _ => so.length - (intOf i).toNat)
    case atStart => exact ⟨0, Nat.zero_le _, rfl, Hb0.out, H4.out⟩
    case round =>
      obtain ⟨k, hk, rfl, ho, hst⟩ := hrel
      have Ho := Lib.hid ho
      have Hst := Lib.hid hst
      have hsz := hst.b.lt
      have hlk : (numsK (P ++ st.data.toList) so k).length ≤ 1000000 := by have := Hln.out k hk; have := Hl0.out; omega
      obtain ⟨p5, k5, hv5, -, -, q5, -⟩ := ho.slice
      subst hv5
      by_cases hltk : k < so.length
      · obtain ⟨b, o, rfl, hS, hbl, c0⟩ := int_at hst.l hltk
        have Hstep := Lib.hid (numsK_succ (b := P ++ st.data.toList) hltk)
        have Hp5 := Lib.hid (put_any p5 (numsK (P ++ st.data.toList) so k) k5 so[k] 4 wr (by omega) q5)
        rw [← Hstep.out] at Hp5
        clear ho hst hS q5 Hstep
        generalize so[k] = x at *
        generalize (numsK (P ++ st.data.toList) so k).length = n5 at *
        have hlti : (k : Int) < (so.length : Int) := by omega
        go_wp2_with fail
        refine Hp5.out.mono ?_
        rintro e w6 ⟨v6, rfl, ho6, hb6⟩
        have Ho6 : Hid (OwnBR (w.heap.size + 1) w6 v6 (numsK (P ++ st.data.toList) so (k + 1))) := Lib.hid (OwnR.base (OwnBR.of ho6) (by omega))
        have H6 := Lib.hid (Hst.out.step hb6)
        clear ho6 hb6 Hp5 c0
        go_wp2_with fail
        go_roundw
        case rel => exact ⟨k + 1, by omega, by go_num, Ho6.out, H6.out⟩
        case measure => simp [intOf]; omega
      · obtain rfl : k = so.length := by omega
        have hcv : (convert 38 9 (.slice p5 (numsK (P ++ st.data.toList) so so.length).length k5)).run Try.prog wr = .ok (.string (strOf (numsK (P ++ st.data.toList) so so.length))) wr := q5.convert k5 _ _ _ Try.underlying38 Try.underlying5 Try.underlying9
        have Hkv : Hid (kv = strOf (numsK (P ++ st.data.toList) so so.length)) := Lib.hid (by rw [Hv.out, if_pos (by first | rfl | trivial), Hkb.out])
        generalize (numsK (P ++ st.data.toList) so so.length).length = n5 at *
        generalize strOf (numsK (P ++ st.data.toList) so so.length) = rs at *
        clear ho hst q5
        go_wp2_with fail
        go_ret
        exact ⟨by rw [Hkv.out]; rfl, Hst.out.bel⟩

end Go.Proofs.Ytldjfmddjbdciaa
