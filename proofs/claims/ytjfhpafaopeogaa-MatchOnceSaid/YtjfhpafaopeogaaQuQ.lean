/-
  The document's queue (layer 21): Skip, Pop.
-/
import Derived.Test.YtjfhpafaopeogaaQuP
namespace Go.Proofs.Ytjfhpafaopeogaa
open Go.RowKit
set_option linter.unusedVariables false
set_option linter.unusedSimpArgs false

theorem ahead_no (P : EnV → Bool) : ∀ (L : List EnV) (k : Nat) (hk : k < L.length), k < ahead P L → P L[k] = false
  | [], k, hk, _ => by simp at hk
  | x :: L, 0, hk, h => by
    unfold ahead at h
    rw [List.takeWhile_cons] at h
    split at h
    · rename_i hx
      simpa using hx
    · simp at h
  | x :: L, k + 1, hk, h => by
    unfold ahead at h
    rw [List.takeWhile_cons] at h
    split at h
    · have := ahead_no P L k (by simpa using hk) (by unfold ahead; simpa using h)
      simpa using this
    · simp at h
theorem ahead_yes (P : EnV → Bool) : ∀ (L : List EnV) (k : Nat) (hk : k < L.length), k = ahead P L → P L[k] = true
  | [], k, hk, _ => by simp at hk
  | x :: L, 0, hk, h => by
    unfold ahead at h
    rw [List.takeWhile_cons] at h
    split at h
    · simp at h
    · rename_i hx
      simpa using hx
  | x :: L, k + 1, hk, h => by
    unfold ahead at h
    rw [List.takeWhile_cons] at h
    split at h
    · have := ahead_yes P L k (by simpa using hk) (by unfold ahead; simpa using h)
      simpa using this
    · simp at h

/-- What Skip hands out stays. -/
theorem rskip_out {B sb n0 n c : Nat} {E : Nat → Prop} {L : List EnV} {v : Value} {p : Option Addr} {w4 : World} (hE : ¬ E sb) (hno : rowOf v ≠ some sb) (hsb : sb < n0) (hn2 : ∀ k, rowOf (.slice p n c) = some k → rowOf (.slice none 0 0) = some k ∨ n0 ≤ k) (ho : OwnEn B (fun k => (E k ∨ rowOf v = some k) ∧ k < n0) w4 (.slice p n c) L) (u : Value) :
    SliceS 8 EnS (fun k => (((E k ∨ rowOf v = some k) ∧ k < n0) ∨ n0 ≤ k) ∧ k ≠ sb) (w4.setCell ⟨sb, 0, none⟩ u) [.slice p n c] L := by
  have hT : Touch (fun i => i = sb) w4 (w4.setCell ⟨sb, 0, none⟩ u) := (Touch.refl (fun i => i = sb) w4).setCell (x := ⟨sb, 0, none⟩) (fun _ => rfl) _
  have hrow0 : ∀ k, rowOf (.slice p n c) = some k → n0 ≤ k := fun k hk => by
    rcases hn2 k hk with e' | e'
    · simp [rowOf] at e'
    · exact e'
  have hrow : ∀ k, rowOf (.slice p n c) = some k → k ≠ sb := fun k hk e => by have := hrow0 k hk; omega
  have hns : ∀ k, (E k ∨ rowOf v = some k) ∧ k < n0 → k ≠ sb := fun k hk e => by rw [e] at hk; exact hk.1.elim hE hno
  have h2 := ho.touch (S' := fun k => (((E k ∨ rowOf v = some k) ∧ k < n0) ∨ n0 ≤ k) ∧ k ≠ sb) EnS.still hT hrow (fun k _ hk _ => ⟨⟨.inl hk, hns k hk⟩, hns k hk⟩)
  obtain ⟨p', c', e, hs⟩ := h2.slice EnS.still (S' := fun k => (((E k ∨ rowOf v = some k) ∧ k < n0) ∨ n0 ≤ k) ∧ k ≠ sb) (fun _ _ h => h) (fun k hk => ⟨.inr (hrow0 k hk), hrow k hk⟩)
  rw [e]
  exact hs

set_option maxRecDepth 100000 in
set_option maxHeartbeats 4000000 in
theorem rSkip_strong (B sb : Nat) (E : Nat → Prop) (L : List EnV) (most : Nat) (v : Value) (w : World) (h : QO 88 B w sb E L most v) (hBw : B ≤ w.heap.size) :
    Calls Try.prog 79 #[.pointer (some ⟨sb, 0, none⟩)] w fun e w' => ∃ p n c, e = .returned (.slice p n c) ∧ SliceS 8 EnS (fun k => (((E k ∨ rowOf v = some k) ∧ k < w.heap.size) ∨ w.heap.size ≤ k) ∧ k ≠ sb) w' [.slice p n c] (L.take (ahead isSync L)) ∧ OpN 88 B sb E (L.drop (ahead isSync L)) most v w w' := by
  obtain ⟨pv, cv, rfl, _⟩ := h.slice
  have hc := h.blk.cell
  have hlim := h.lim
  have hlen := h.len
  have hsl := h.blk.lt
  have H := Lib.hid h
  have HS := Lib.hid (h.src.weak EnS.still (S' := fun k => (E k ∨ rowOf (.slice pv L.length cv) = some k) ∧ k < w.heap.size) (fun k hk hS => ⟨hS, hk⟩))
  obtain ⟨_, hlc, hcm⟩ := HS.out.len
  have hN := ahead_le isSync L
  have Hno := Lib.hid (ahead_no isSync L)
  have Hyes := Lib.hid (ahead_yes isSync L)
  unfold maxLen at hcm
  clear h
  generalize ahead isSync L = N at *
  go_enter Try.func79, Try.ntmps79
  go_wp2_with fail
  go_loopw [3] (fun i wr => ∃ k : Nat, k ≤ N ∧ i = .int .i64 k ∧ wr = w) (fun i _ => N - (intOf i).toNat)
  case atStart => exact ⟨0, Nat.zero_le _, rfl, rfl⟩
  case round =>
    obtain ⟨k, hk, rfl, rfl⟩ := hrel
    have hwk : IntKind.i64.wrap ((k : Int) + 1) = (k : Int) + 1 := by rw [IntKind.wrap_i64]; omega
    by_cases hlt : k < N
    · have hkl : k < L.length := by omega
      obtain ⟨b, o, a, rfl, hS, hbl, hL, c0, c1, c2, c3, c4, c5, c6, c7⟩ := en_at HS.out hkl
      have hk8 : (L[k].kind == 8) = false := Hno.out k hkl hlt
      have hk8' : (L[k].kind != 8) = true := by simp [bne, hk8]
      clear c1 c2 c3 c4 c5 c6 c7 hL hS
      generalize L[k].kind = xk at *
      have hkli : (k : Int) < (L.length : Int) := by omega
      go_wp2_with fail
      go_roundw
      case rel => exact ⟨k + 1, by omega, by go_num, by simp⟩
      case measure => simp [intOf]; omega
    · obtain rfl : k = N := by omega
      have HT1 := Lib.hid ((HS.out.take' k cv hN (by omega) (by unfold maxLen; omega)).weak EnS.still (S' := fun j => ((E j ∨ rowOf (.slice pv L.length cv) = some j) ∧ j < wr.heap.size) ∧ rowOf (.slice none 0 0) ≠ some j) (fun j _ hj => ⟨hj, by simp [rowOf]⟩))
      have hkli : (k : Int) ≤ (L.length : Int) := by omega
      have hklc : (k : Int) ≤ (cv : Int) := by omega
      by_cases hck : cv = k
      · subst hck
        have e0 : L.length - cv = 0 := by omega
        have e1 : L.drop cv = [] := List.drop_eq_nil_of_le (by omega)
        have HD1 : Hid (SliceS 8 EnS (fun j => ((E j ∨ rowOf (.slice pv L.length cv) = some j) ∧ j < wr.heap.size) ∧ rowOf (.slice none 0 0) ≠ some j) wr [.slice pv 0 0] (L.drop cv)) := Lib.hid (by rw [e1]; exact SliceS.empty _ _ (by simp [maxLen]))
        have hlc0 : ¬ (cv : Int) < (L.length : Int) := by omega
        have He0 := Lib.hid e0
        clear e0 e1
        go_wp2_with (first
          | (at_builtin; refine step_appendEn _ rfl (.const (.slice none 0 0)) (.tmp 30) rfl B (fun k => (E k ∨ rowOf (.slice pv L.length cv) = some k) ∧ k < wr.heap.size) (.slice none 0 0) [] rfl (OwnS.empty _) pv cv cv (L.take cv) rfl HT1.out (by simp; omega) hBw ?_; intro v2 w2 ho2 hg2 hn2; have hb2 := Below.of_row hg2 (Nat.le_refl wr.heap.size) (fun k hk => by simp [rowOf] at hk); obtain ⟨p2, c2, hv2, _⟩ := ho2.slice EnS.still (S' := fun _ => True) (fun _ _ _ => trivial) (fun _ _ => trivial); subst hv2; have Ho2 := Lib.hid ho2; have Hb2 := Lib.hid hb2; have Hn2 := Lib.hid hn2; have HD2 := Lib.hid (HD1.out.below EnS.still hb2); have hc2 := (H.out.still hb2).blk.cell; clear ho2 hg2 hn2 hb2)
          | (at_builtin; refine step_appendEn _ rfl (.const (.slice none 0 0)) (.tmp 38) rfl B (fun k => (E k ∨ rowOf (.slice pv L.length cv) = some k) ∧ k < wr.heap.size) (.slice none 0 0) [] rfl (OwnS.empty _) pv 0 0 (L.drop cv) rfl HD2.out (by simp; omega) (by have := Hb2.out.size; omega) ?_; intro v4 w4 ho4 hg4 hn4; obtain ⟨p4, c4, hv4, _⟩ := ho4.slice EnS.still (S' := fun _ => True) (fun _ _ _ => trivial) (fun _ _ => trivial); subst hv4; have hzz := Hb2.out.size; have hr4 : ∀ j, rowOf (.slice p4 ([] ++ L.drop cv).length c4) = some j → w2.heap.size ≤ j := (fun j hj => by rcases hn4 j hj with e | e; (· simp [rowOf] at e); (· exact e)); have hb24 : Below w2.heap.size w2 w4 := Below.of_row hg4 (Nat.le_refl _) (fun k hk => by simp [rowOf] at hk); have hb4 : Below wr.heap.size wr w4 := Hb2.out.trans (hb24.mono hzz); have hpe := H.out.renew hb4 ho4 (fun j hj => by have := hr4 j hj; omega) (fun k _ hE => hE.1.elim .inl (fun e => .inr (.inl e))) (fun hE => hE.1.elim H.out.noE H.out.no) (fun x hx => H.out.small x (List.mem_of_mem_drop (by simpa using hx))) (by simp; omega); have hc4 := hpe.1.cell; have hf4 := hpe.1.frozen; have Ho4 := Lib.hid (Ho2.out.below' EnS.still hb24); have HP := Lib.hid hpe.2; have HR4 := Lib.hid (show ∀ j, rowOf (.slice p4 ([] ++ L.drop cv).length c4) = some j → wr.heap.size ≤ j from fun j hj => by have := hr4 j hj; omega); clear ho4 hg4 hn4 hpe hr4 hb4 hb24))
        go_ret
        have hP := HP.out
        have hR := HR4.out
        have hO := rskip_out H.out.noE H.out.no (by have := Hb2.out.size; omega) Hn2.out Ho4.out (.slice p4 ([] ++ L.drop cv).length c4)
        simp only [List.nil_append, List.length_drop, List.length_take] at hP hR hO
        rw [He0.out] at hP hR hO
        rw [Nat.min_eq_left hN] at hO
        exact ⟨_, _, _, rfl, hO, _, hP.1, hR, hP.2⟩
      · have HD1 := Lib.hid ((HS.out.dropAny (by omega) k hN).weak EnS.still (S' := fun j => ((E j ∨ rowOf (.slice pv L.length cv) = some j) ∧ j < wr.heap.size) ∧ rowOf (.slice none 0 0) ≠ some j) (fun j _ hj => ⟨hj, by simp [rowOf]⟩))
        have hck' : ¬ k = cv := fun e => hck e.symm
        by_cases hkl : k < L.length
        · obtain ⟨b, o, a, rfl, hS, hbl, hL, c0, c1, c2, c3, c4, c5, c6, c7⟩ := en_at HS.out hkl
          have hk8 : (L[k].kind == 8) = true := Hyes.out k hkl rfl
          have hk8' : (L[k].kind != 8) = false := by simp [bne, hk8]
          clear c1 c2 c3 c4 c5 c6 c7 hL hS
          generalize L[k].kind = xk at *
          have hkli : (k : Int) < (L.length : Int) := by omega
          have HD1' := Lib.hid (show SliceS 8 EnS (fun j => ((E j ∨ rowOf (.slice (some ⟨b, o, none⟩) L.length cv) = some j) ∧ j < wr.heap.size) ∧ rowOf (.slice none 0 0) ≠ some j) wr [.slice (some ⟨b, o + k * 8, none⟩) (L.length - k) (cv - k)] (L.drop k) by simpa [Addr.add_lit] using HD1.out)
          clear HD1
          have HD1 := HD1'
          go_wp2_with (first
            | (at_builtin; refine step_appendEn _ rfl (.const (.slice none 0 0)) (.tmp 30) rfl B (fun k => (E k ∨ rowOf (.slice (some ⟨b, o, none⟩) L.length cv) = some k) ∧ k < wr.heap.size) (.slice none 0 0) [] rfl (OwnS.empty _) (some ⟨b, o, none⟩) k cv (L.take k) rfl HT1.out (by simp; omega) hBw ?_; intro v2 w2 ho2 hg2 hn2; have hb2 := Below.of_row hg2 (Nat.le_refl wr.heap.size) (fun k hk => by simp [rowOf] at hk); obtain ⟨p2, c2, hv2, _⟩ := ho2.slice EnS.still (S' := fun _ => True) (fun _ _ _ => trivial) (fun _ _ => trivial); subst hv2; have Ho2 := Lib.hid ho2; have Hb2 := Lib.hid hb2; have Hn2 := Lib.hid hn2; have HD2 := Lib.hid (HD1.out.below EnS.still hb2); have hc2 := (H.out.still hb2).blk.cell; clear ho2 hg2 hn2 hb2)
            | (at_builtin; refine step_appendEn _ rfl (.const (.slice none 0 0)) (.tmp 38) rfl B (fun k => (E k ∨ rowOf (.slice (some ⟨b, o, none⟩) L.length cv) = some k) ∧ k < wr.heap.size) (.slice none 0 0) [] rfl (OwnS.empty _) (some ⟨b, o + k * 8, none⟩) (L.length - k) (cv - k) (L.drop k) rfl HD2.out (by simp; omega) (by have := Hb2.out.size; omega) ?_; intro v4 w4 ho4 hg4 hn4; obtain ⟨p4, c4, hv4, _⟩ := ho4.slice EnS.still (S' := fun _ => True) (fun _ _ _ => trivial) (fun _ _ => trivial); subst hv4; have hzz := Hb2.out.size; have hr4 : ∀ j, rowOf (.slice p4 ([] ++ L.drop k).length c4) = some j → w2.heap.size ≤ j := (fun j hj => by rcases hn4 j hj with e | e; (· simp [rowOf] at e); (· exact e)); have hb24 : Below w2.heap.size w2 w4 := Below.of_row hg4 (Nat.le_refl _) (fun k hk => by simp [rowOf] at hk); have hb4 : Below wr.heap.size wr w4 := Hb2.out.trans (hb24.mono hzz); have hpe := H.out.renew hb4 ho4 (fun j hj => by have := hr4 j hj; omega) (fun k _ hE => hE.1.elim .inl (fun e => .inr (.inl e))) (fun hE => hE.1.elim H.out.noE H.out.no) (fun x hx => H.out.small x (List.mem_of_mem_drop (by simpa using hx))) (by simp; omega); have hc4 := hpe.1.cell; have hf4 := hpe.1.frozen; have Ho4 := Lib.hid (Ho2.out.below' EnS.still hb24); have HP := Lib.hid hpe.2; have HR4 := Lib.hid (show ∀ j, rowOf (.slice p4 ([] ++ L.drop k).length c4) = some j → wr.heap.size ≤ j from fun j hj => by have := hr4 j hj; omega); clear ho4 hg4 hn4 hpe hr4 hb4 hb24))
          go_ret
          have hP := HP.out
          have hR := HR4.out
          have hO := rskip_out H.out.noE H.out.no (by have := Hb2.out.size; omega) Hn2.out Ho4.out (.slice p4 ([] ++ L.drop k).length c4)
          simp only [List.nil_append, List.length_drop, List.length_take] at hP hR hO
          rw [Nat.min_eq_left hN] at hO
          exact ⟨_, _, _, rfl, hO, _, hP.1, hR, hP.2⟩
        · have hkln : ¬ (k : Int) < (L.length : Int) := by omega
          go_wp2_with (first
            | (at_builtin; refine step_appendEn _ rfl (.const (.slice none 0 0)) (.tmp 30) rfl B (fun k => (E k ∨ rowOf (.slice pv L.length cv) = some k) ∧ k < wr.heap.size) (.slice none 0 0) [] rfl (OwnS.empty _) pv k cv (L.take k) rfl HT1.out (by simp; omega) hBw ?_; intro v2 w2 ho2 hg2 hn2; have hb2 := Below.of_row hg2 (Nat.le_refl wr.heap.size) (fun k hk => by simp [rowOf] at hk); obtain ⟨p2, c2, hv2, _⟩ := ho2.slice EnS.still (S' := fun _ => True) (fun _ _ _ => trivial) (fun _ _ => trivial); subst hv2; have Ho2 := Lib.hid ho2; have Hb2 := Lib.hid hb2; have Hn2 := Lib.hid hn2; have HD2 := Lib.hid (HD1.out.below EnS.still hb2); have hc2 := (H.out.still hb2).blk.cell; clear ho2 hg2 hn2 hb2)
            | (at_builtin; refine step_appendEn _ rfl (.const (.slice none 0 0)) (.tmp 38) rfl B (fun k => (E k ∨ rowOf (.slice pv L.length cv) = some k) ∧ k < wr.heap.size) (.slice none 0 0) [] rfl (OwnS.empty _) (Option.map (fun x => x.add (k * 8)) pv) (L.length - k) (cv - k) (L.drop k) rfl HD2.out (by simp; omega) (by have := Hb2.out.size; omega) ?_; intro v4 w4 ho4 hg4 hn4; obtain ⟨p4, c4, hv4, _⟩ := ho4.slice EnS.still (S' := fun _ => True) (fun _ _ _ => trivial) (fun _ _ => trivial); subst hv4; have hzz := Hb2.out.size; have hr4 : ∀ j, rowOf (.slice p4 ([] ++ L.drop k).length c4) = some j → w2.heap.size ≤ j := (fun j hj => by rcases hn4 j hj with e | e; (· simp [rowOf] at e); (· exact e)); have hb24 : Below w2.heap.size w2 w4 := Below.of_row hg4 (Nat.le_refl _) (fun k hk => by simp [rowOf] at hk); have hb4 : Below wr.heap.size wr w4 := Hb2.out.trans (hb24.mono hzz); have hpe := H.out.renew hb4 ho4 (fun j hj => by have := hr4 j hj; omega) (fun k _ hE => hE.1.elim .inl (fun e => .inr (.inl e))) (fun hE => hE.1.elim H.out.noE H.out.no) (fun x hx => H.out.small x (List.mem_of_mem_drop (by simpa using hx))) (by simp; omega); have hc4 := hpe.1.cell; have hf4 := hpe.1.frozen; have Ho4 := Lib.hid (Ho2.out.below' EnS.still hb24); have HP := Lib.hid hpe.2; have HR4 := Lib.hid (show ∀ j, rowOf (.slice p4 ([] ++ L.drop k).length c4) = some j → wr.heap.size ≤ j from fun j hj => by have := hr4 j hj; omega); clear ho4 hg4 hn4 hpe hr4 hb4 hb24))
          go_ret
          have hP := HP.out
          have hR := HR4.out
          have hO := rskip_out H.out.noE H.out.no (by have := Hb2.out.size; omega) Hn2.out Ho4.out (.slice p4 ([] ++ L.drop k).length c4)
          simp only [List.nil_append, List.length_drop, List.length_take] at hP hR hO
          rw [Nat.min_eq_left hN] at hO
          exact ⟨_, _, _, rfl, hO, _, hP.1, hR, hP.2⟩

theorem rSkip_any (B sb : Nat) (E : Nat → Prop) (L : List EnV) (most : Nat) (v : Value) (w : World) (h : QO 88 B w sb E L most v) (hBw : B ≤ w.heap.size) :
    Calls Try.prog 79 #[.pointer (some ⟨sb, 0, none⟩)] w fun e w' => ∃ p n c, e = .returned (.slice p n c) ∧ SliceS 8 EnS (fun _ => True) w' [.slice p n c] (L.take (ahead isSync L)) ∧ OpR 88 B sb E (L.drop (ahead isSync L)) most v w w' := by
  refine (rSkip_strong B sb E L most v w h hBw).mono ?_
  rintro e w' ⟨p, n, c, rfl, hl, v', hq, hr, hT⟩
  exact ⟨p, n, c, rfl, hl.weak EnS.still (fun _ _ _ => trivial), v', hq, fun k hk => .inr (hr k hk), hT.mono (fun _ _ e => .inl e)⟩

end Go.Proofs.Ytjfhpafaopeogaa
