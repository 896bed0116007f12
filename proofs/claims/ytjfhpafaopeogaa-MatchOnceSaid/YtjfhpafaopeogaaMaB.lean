/-
  What match takes without a reply: Flush, of the document (layer 22).
-/
import Derived.Test.YtjfhpafaopeogaaMaA
namespace Go.Proofs.Ytjfhpafaopeogaa
open Go.RowKit
set_option linter.unusedVariables false
set_option linter.unusedSimpArgs false

set_option maxRecDepth 100000 in
set_option maxHeartbeats 4000000 in
theorem rflush_any (B sb : Nat) (E : Nat → Prop) (L : List EnV) (most : Nat) (v : Value) (w : World) (h : QO 88 B w sb E L most v) (hB : B ≤ w.heap.size) :
    Calls Try.prog 40 #[.pointer (some ⟨sb, 0, none⟩)] w fun e w' => ∃ vo, e = .returned vo ∧ OwnEn w.heap.size (fun j => ((E j ∧ j < w.heap.size) ∨ rowOf v = some j ∨ w.heap.size ≤ j) ∧ j ≠ sb) w' vo (L.take (ahead notSyn L)) ∧ OpM 88 B sb E (L.drop (ahead notSyn L)) most v w w' := by
  have H0 := Lib.hid (fun p => FlI.start h p)
  have hsb := h.blk.lt
  have Hn := Lib.hid (And.intro h.noE (And.intro h.no (fun j hj => (h.own.row j hj).2 : ∀ j, rowOf v = some j → j < w.heap.size)))
  have hlen : L.length ≤ 4096 := Nat.le_trans h.len h.lim
  clear h
  obtain ⟨S, hS⟩ : ∃ S : Nat → Prop, S = (fun j => ((E j ∧ j < w.heap.size) ∨ rowOf v = some j ∨ w.heap.size ≤ j) ∧ j ≠ sb) := ⟨_, rfl⟩
  rw [← hS]
  have HS := Lib.hid (show ∀ j, S j ↔ ((E j ∧ j < w.heap.size) ∨ rowOf v = some j ∨ w.heap.size ≤ j) ∧ j ≠ sb from fun j => by rw [hS])
  clear hS
  go_enter Try.func40, Try.ntmps40
  go_wp2_with fail
  go_loopw [3] (fun u wr => ∃ k : Nat, k ≤ ahead notSyn L ∧ OwnEn w.heap.size S wr u (L.take k) ∧ FlI 88 B sb E (L.drop k) most v w wr u) (fun u _ => L.length - lenV u)
  case atStart => exact ⟨0, Nat.zero_le _, OwnS.empty _, H0.out _⟩
  case round =>
    obtain ⟨k, hk, ho, hm⟩ := hrel
    have hal := ahead_le notSyn L
    have Hk := Lib.hid hk
    have Ho := Lib.hid ho
    have hz := hm.size
    have HM := Lib.hid hm
    obtain ⟨E1, v1, hq1, hE1, hr1, hT1, hu1⟩ := hm
    have HF := Lib.hid (And.intro hE1 (And.intro hr1 (And.intro hT1 hu1)))
    have HQ1 := Lib.hid hq1
    obtain ⟨p3, c3, hv3, _⟩ := ho.slice EnS.still (S' := fun _ => True) (fun _ _ _ => trivial) (fun _ _ => trivial)
    obtain ⟨n3, hn3⟩ : ∃ n, (L.take k).length = n := ⟨_, rfl⟩
    rw [hn3] at hv3
    have Hv3 := Lib.hid hv3
    have Hn3 := Lib.hid (show n3 = k by rw [← hn3, List.length_take]; omega)
    clear hv3
    have Hrow := Lib.hid ho.row
    have hq := hq1.blk.cell
    obtain ⟨pq, cq, hvq, hsq⟩ := hq1.slice
    obtain ⟨_, hlq, hmq⟩ := hsq.len
    unfold maxLen at hmq
    rw [hvq] at hq
    have Hsq := Lib.hid hsq
    clear hE1 hr1 hT1 hu1 ho H0 hk hn3 hq1 hvq hsq
    by_cases hlt : k < L.length
    · have Hdr : Hid (L.drop k = L[k] :: L.drop (k + 1)) := Lib.hid (List.drop_eq_getElem_cons hlt)
      have Htk : Hid (L.take (k + 1) = L.take k ++ [L[k]]) := Lib.hid (by rw [List.take_succ_eq_append_getElem hlt])
      have Hgo := Lib.hid (ahead_go notSyn L k hlt Hk.out)
      have Hat := Lib.hid (ahead_at notSyn L k hlt Hk.out)
      have hsq := Hsq.out
      rw [Hdr.out] at hsq hq hlq
      generalize L[k] = x at *
      obtain ⟨b, o, a, rfl, hS0, hbl, hL, c0, c1, c2, c3', c4, c5, c6, c7⟩ := en_at hsq (k := 0) (by simp)
      simp only [List.getElem_cons_zero, Nat.zero_mul, Nat.add_zero] at c0
      clear c1 c2 c3' c4 c5 c6 c7 hL hS0 hsq Hsq
      have hl0 : (0 : Int) < ((x :: L.drop (k + 1)).length : Int) := by simp
      generalize (x :: L.drop (k + 1)).length = nq at *
      cases hxk : (x.kind == 10) with
      | true =>
        have Hn1 := Lib.hid (Hgo.out (by simp [notSyn, hxk]))
        have hq2 := HQ1.out
        rw [Hdr.out] at hq2
        have Hp := Lib.hid (rPop_strong B sb _ _ (L.drop (k + 1)) most v1 wr hq2 (by omega))
        obtain ⟨xk, xh, xf, xd, xg, xb, xc, xr⟩ := x
        clear hq2
        dsimp only at c0 hxk
        go_wp2_with fail
        refine Hp.out.mono ?_
        rintro e w3 ⟨⟨pg, cg, pb, cb, pc, cc, pr, cr⟩, rfl, hl3, v3, hq3, hr3, hT3⟩
        unfold enArg
        dsimp only at hl3 ⊢
        have hz3 := hT3.size
        have HQ3 := Lib.hid hq3
        have HR3 := Lib.hid hr3
        have HT3 := Lib.hid hT3
        have hk3 : ∀ j, (E1 j ∨ rowOf v1 = some j) ∧ j < wr.heap.size ∧ j ≠ sb → S j ∧ rowOf u3 ≠ some j := fun j hj => by
          refine ⟨(HS.out j).2 ⟨?_, hj.2.2⟩, fun e => ?_⟩
          · rcases hj.1 with e | e
            · rcases HF.out.1 j e with e | e | e
              · exact .inl e
              · exact .inr (.inl e)
              · exact .inr (.inr e.1)
            · rcases HF.out.2.1 j e with e' | e'
              · exact .inr (.inl e')
              · exact .inr (.inr e')
          · rcases hj.1 with e' | e'
            · exact (HF.out.2.2.2 j e).1 e'
            · exact (HF.out.2.2.2 j e).2 e'
        have Hl3 := Lib.hid (hl3.keep (S' := fun j => S j ∧ rowOf u3 ≠ some j) (Kept.mono w3 (fun j _ hj => hk3 j hj)))
        have Ho3 := Lib.hid (OwnS.touch EnS.still (S' := S) Ho.out hT3 (fun k hk => by have := (Hrow.out k hk).1; omega) (fun k _ hk _ => ⟨hk, ((HS.out k).1 hk).2⟩))
        clear hl3 hq3 hr3 hT3 Hp hk3 hq c0
        have hal3 : Below w3.heap.size w3 (w3.alloc (.cells #[.int .i64 xk, .bool xh, .string xf, .string xd, .slice pg xg.length cg, .slice pb xb.length cb, .slice pc xc.length cc, .slice pr xr.length cr] 52)) := (Below.refl _ _).alloc (Nat.le_refl _) _
        have Hl4 := Lib.hid (Hl3.out.keep (Kept.all hal3))
        have Ho4 := Lib.hid (Ho3.out.below' EnS.still hal3)
        have Hal3 := Lib.hid hal3
        have hz4 : w3.heap.size + 1 = (w3.alloc (.cells #[.int .i64 xk, .bool xh, .string xf, .string xd, .slice pg xg.length cg, .slice pb xb.length cb, .slice pc xc.length cc, .slice pr xr.length cr] 52)).heap.size := by simp
        have HE4 : Hid (Blk (w3.alloc (.cells #[.int .i64 xk, .bool xh, .string xf, .string xd, .slice pg xg.length cg, .slice pb xb.length cb, .slice pc xc.length cc, .slice pr xr.length cr] 52)) w3.heap.size 52 #[.int .i64 xk, .bool xh, .string xf, .string xd, .slice pg xg.length cg, .slice pb xb.length cb, .slice pc xc.length cc, .slice pr xr.length cr]) := Lib.hid (Blk.new _ _ _)
        have he4 := HE4.out.cell
        clear hal3 Hl3 Ho3 HE4
        go_upto_region 4 with (fail)
        generalize w3.alloc (.cells #[.int .i64 xk, .bool xh, .string xf, .string xd, .slice pg xg.length cg, .slice pb xb.length cb, .slice pc xc.length cc, .slice pr xr.length cr] 52) = w4 at *
        have hal4 : Below w4.heap.size w4 (w4.alloc (.cells #[.int .i64 xk, .bool xh, .string xf, .string xd, .slice pg xg.length cg, .slice pb xb.length cb, .slice pc xc.length cc, .slice pr xr.length cr] 52)) := (Below.refl _ _).alloc (Nat.le_refl _) _
        have Hrow4 := Lib.hid Ho4.out.row
        have Hnw := Lib.hid (new1En (S := S) (v := u3) (x := ⟨xk, xh, xf, xd, xg, xb, xc, xr⟩) (a := ⟨pg, cg, pb, cb, pc, cc, pr, cr⟩) (w := w4) Hl4.out ((HS.out _).2 ⟨.inr (.inr (by omega)), by omega⟩) (fun e => by have := (Hrow4.out _ e).2; omega))
        have Ho5 := Lib.hid (Ho4.out.below' EnS.still hal4)
        have Hal5 := Lib.hid (Hal3.out.trans (hal4.mono (by omega)))
        have hwz : w.heap.size ≤ (w4.alloc (.cells #[.int .i64 xk, .bool xh, .string xf, .string xd, .slice pg xg.length cg, .slice pb xb.length cb, .slice pc xc.length cc, .slice pr xr.length cr] 52)).heap.size := by simp; omega
        clear hal4
        dsimp only at Hnw
        go_wp2_with (at_builtin; refine step_appendEn _ rfl (.tmp 27) (.tmp 29) rfl w.heap.size S u3 (L.take k) rfl Ho5.out (some ⟨w4.heap.size, 0, none⟩) 1 1 [⟨xk, xh, xf, xd, xg, xb, xc, xr⟩] rfl Hnw.out (by simp; omega) hwz ?_; intro v5 w5 ho5 hg5 hn5; have Ho5 := Lib.hid ho5; have HN5 := Lib.hid (FlI.next (u := u3) HF.out.1 HQ1.out HF.out.2.1 HF.out.2.2.1 HF.out.2.2.2 hsb Hn.out.2.2 (Below.refl _ _) HQ3.out HR3.out HT3.out Hal5.out hg5 hn5 Hrow.out); clear ho5 hg5 hn5)
        go_roundw
        case rel => exact ⟨k + 1, Hn1.out, by rw [Htk.out]; exact Ho5.out, HN5.out⟩
        case measure =>
          obtain ⟨p5, c5, e5, _⟩ := Ho5.out.slice EnS.still (S' := fun _ => True) (fun _ _ _ => trivial) (fun _ _ => trivial)
          rw [e5, Hv3.out]
          have := Hn3.out
          simp [lenV]
          omega
      | false =>
        have Hn1 := Lib.hid (Hat.out (by simp [notSyn, hxk]))
        go_wp2_with fail
        have hv3 := Hv3.out
        subst hv3
        go_ret
        have hN := Hn1.out
        rw [hN]
        exact ⟨_, rfl, Ho.out, HM.out.done (Below.refl _ _) hsb Hn.out.1 Hn.out.2.1⟩
    · have hkl : k = L.length := by have := Hk.out; omega
      have hN : ahead notSyn L = k := by have := Hk.out; omega
      have HN := Lib.hid hN
      have hd : (L.drop k).length = 0 := by rw [List.length_drop]; omega
      rw [hd] at hq hlq
      clear hN hd Hsq
      go_wp2_with fail
      have hv3 := Hv3.out
      subst hv3
      go_ret
      rw [HN.out]
      exact ⟨_, rfl, Ho.out, HM.out.done (Below.refl _ _) hsb Hn.out.1 Hn.out.2.1⟩

end Go.Proofs.Ytjfhpafaopeogaa
