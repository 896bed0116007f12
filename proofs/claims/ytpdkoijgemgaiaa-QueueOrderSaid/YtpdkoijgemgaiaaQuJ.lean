/-
  The walk of QueueOrder (layer 21).
-/
import Derived.Test.YtpdkoijgemgaiaaQuH
import Derived.StillTailTactics
namespace Go.Proofs.Ytpdkoijgemgaiaa
open Go.RowKit
set_option linter.unusedVariables false
set_option linter.unusedSimpArgs false

theorem mid_push {L : List EnV} {a n : Nat} (hn : n ≤ a) (ha : a < L.length) : (L.take (a + 1)).drop n = (L.take a).drop n ++ [L[a]] := by
  rw [List.take_succ_eq_append_getElem ha, List.drop_append_of_le_length (by rw [List.length_take]; omega)]
theorem mid_pop {L : List EnV} {a n : Nat} (hn : n < a) (ha : a ≤ L.length) : (L.take a).drop n = L[n]'(by omega) :: (L.take a).drop (n + 1) := by
  rw [List.drop_eq_getElem_cons (by rw [List.length_take]; omega), List.getElem_take]
theorem mid_len {L : List EnV} {a n : Nat} (ha : a ≤ L.length) : ((L.take a).drop n).length = a - n := by
  rw [List.length_drop, List.length_take]; omega
theorem mid_nil {L : List EnV} {a : Nat} (ha : a ≤ L.length) : (L.take a).drop a = [] := List.eq_nil_of_length_eq_zero (by rw [mid_len ha]; omega)

theorem opensS_bools : OpensS Try.prog 41 (SliceS 1 BoolS) := opensS_slice Try.underlying41 (by kernel_rfl) (by omega) (opensS_bool Try.underlying4)

/-- The loop's state. -/
def OrdI (w : World) (sb : Nat) (L : List EnV) (a n : Nat) (wr : World) : Prop :=
  ∃ E v, QO 30 w.heap.size wr sb E ((L.take a).drop n) 100 v ∧ Below w.heap.size w wr

theorem OrdI.step {w wr w' : World} {sb a n : Nat} {L : List EnV} (h : OrdI w sb L a n wr) (hb : Below wr.heap.size wr w') : OrdI w sb L a n w' := by
  obtain ⟨E, v, hq, h2⟩ := h
  exact ⟨E, v, hq.still hb, h2.trans (hb.mono h2.size)⟩

set_option maxRecDepth 100000 in
set_option maxHeartbeats 10000000 in
theorem quOrder_any (p q : Option Addr) (n0 m0 c d : Nat) (L : List EnV) (bs : List Bool) (w : World) (hx : SliceS 8 EnS (fun k => k < w.heap.size) w [.slice p n0 c] L) (hy : SliceS 1 BoolS (fun k => k < w.heap.size) w [.slice q m0 d] bs) :
    Calls Try.prog 4 #[.slice p n0 c, .slice q m0 d] w fun e w' => e = .returned (.bool true) ∧ Below w.heap.size w w' := by
  obtain ⟨rfl, hlc, hcm⟩ := hx.len
  obtain ⟨rfl, hmd, hdm⟩ := hy.len
  unfold maxLen at hcm hdm
  have Haw := Lib.hid quAwake
  have HEn := Lib.hid (entries_any _ p _ c L 60 w hx)
  have Hx := Lib.hid hx
  have Hy := Lib.hid hy
  have Hnew : Hid (∀ w0, Calls Try.prog 24 #[.int .i64 100] w0 fun e w' =>
      e = .returned (.tuple #[.pointer (some ⟨w0.heap.size, 0, none⟩), .int .i64 0]) ∧ QO 30 w0.heap.size w' w0.heap.size (fun _ => False) [] 100 (.slice none 0 0) ∧ Below w0.heap.size w0 w') := Lib.hid (fun w0 => qNew_ok 100 w0 (by omega) (by omega))
  clear hx hy
  go_enter Try.func4, Try.ntmps4
  go_wp2_with fail
  refine HEn.out.mono ?_
  rintro e w1 ⟨b, rfl, hf, hb1⟩
  have HB1 := Lib.hid hb1
  clear hb1
  cases b with
  | false =>
    clear hf
    go_wp2_with (go_at_call 22; refine (Haw.out _).mono ?_; rintro e w2 ⟨rfl, hb⟩)
    go_ret
    exact ⟨rfl, HB1.out.trans (hb.mono HB1.out.size)⟩
  | true =>
    obtain ⟨hl60, hfew⟩ := hf rfl
    have Hfew : Hid (∀ x ∈ L, EnSmall x) := Lib.hid (fun x hx => (hfew x hx).small)
    clear hf hfew
    by_cases hm : (200 : Int) < (bs.length : Int)
    · go_wp2_with (go_at_call 22; refine (Haw.out _).mono ?_; rintro e w2 ⟨rfl, hb⟩)
      go_ret
      exact ⟨rfl, HB1.out.trans (hb.mono HB1.out.size)⟩
    · go_wp2_with fail
      refine (Hnew.out _).mono ?_
      rintro e w2 ⟨rfl, hq2, hb2⟩
      have hsl := hq2.blk.lt
      have hz12 := HB1.out.size
      have HI : Hid (OrdI w w1.heap.size L 0 0 w2) := Lib.hid ⟨_, _, ⟨hq2.blk, hq2.own.base hz12, hz12, hq2.no, hq2.noE, (fun x hx => by simp at hx), (by simp), hq2.lim⟩, HB1.out.trans (hb2.mono hz12)⟩
      have hsb : w.heap.size ≤ w1.heap.size := hz12
      clear hq2 hb2 HEn Hnew HB1 hz12 hsl
      generalize w1.heap.size = sb at *
      go_wp2_with fail
      go_loopw [7, 8, 34] (fun va vn vi wr => ∃ k a n : Nat, k ≤ bs.length ∧ n ≤ a ∧ a ≤ L.length ∧ va = .int .i64 a ∧ vn = .int .i64 n ∧ vi = .int .i64 k ∧ OrdI w sb L a n wr) (fun _ _ vi _ => bs.length - (intOf vi).toNat)
      case atStart => exact ⟨0, 0, 0, Nat.zero_le _, Nat.le_refl _, Nat.zero_le _, rfl, rfl, rfl, HI.out⟩
      case round =>
        clear HI
        obtain ⟨k, a, n, hk, hna, haL, rfl, rfl, rfl, E, v, hq, hb⟩ := hrel
        have HQ := Lib.hid hq
        have HB := Lib.hid hb
        have hbs := hb.size
        have hwk : IntKind.i64.wrap ((k : Int) + 1) = (k : Int) + 1 := by rw [IntKind.wrap_i64]; omega
        clear hq hb
        by_cases hlt : k < bs.length
        · obtain ⟨qb, qo, cs, rfl, _, hqb, _, hcb, hr⟩ := (((SliceS.still BoolS.still) _ _ _ _ _ _ Hy.out (Kept.all HB.out) : SliceS 1 BoolS (fun k => k < w.heap.size) wr _ bs)).elem (by omega) k bs[k] (List.getElem?_eq_getElem hlt)
          unfold BoolS at hr
          subst hr
          have hc0 := hcb 0 _ rfl
          rw [Nat.mul_one, Nat.add_zero] at hc0
          clear hcb
          have hlti : (k : Int) < (bs.length : Int) := by omega
          generalize bs[k] = pop at *
          by_cases hpush : pop = false ∧ a < L.length
          · obtain ⟨rfl, hal⟩ := hpush
            obtain ⟨b, o, ap, rfl, hS, hbl, hL, c0, c1, c2, c3, c4, c5, c6, c7⟩ := en_at (Hx.out.below EnS.still HB.out) hal
            have Hm := Lib.hid (mid_push hna hal)
            have Hsm := Lib.hid (Hfew.out _ (List.getElem_mem hal))
            have HLL := Lib.hid hL
            clear hL hS
            generalize L[a] = x at *
            have hali : (a : Int) < (L.length : Int) := by omega
            have hwa : IntKind.i64.wrap ((a : Int) + 1) = (a : Int) + 1 := by rw [IntKind.wrap_i64]; omega
            have Hlen : Hid (((L.take a).drop n).length + 1 ≤ 100) := Lib.hid (by rw [mid_len haL]; omega)
            go_wp2_with fail
            have hal1 : Below wr.heap.size wr (wr.alloc (.cells #[.int .i64 x.kind, .bool x.hide, .string x.frm, .string x.dst, .slice ap.pg x.good.length ap.cg, .slice ap.pb x.bad.length ap.cb, .slice ap.pc x.cache.length ap.cc, .slice ap.pr x.reply.length ap.cr] 26)) := (Below.refl _ _).alloc (Nat.le_refl _) _
            have hs1 : SliceS 8 EnS (fun _ => True) (wr.alloc (.cells #[.int .i64 x.kind, .bool x.hide, .string x.frm, .string x.dst, .slice ap.pg x.good.length ap.cg, .slice ap.pb x.bad.length ap.cb, .slice ap.pc x.cache.length ap.cc, .slice ap.pr x.reply.length ap.cr] 26)) [.slice (some ⟨wr.heap.size, 0, none⟩) 1 1] [x] :=
              SliceS.new1 (S := fun k => k < w.heap.size) EnS.still wr 26 #[.int .i64 x.kind, .bool x.hide, .string x.frm, .string x.dst, .slice ap.pg x.good.length ap.cg, .slice ap.pb x.bad.length ap.cb, .slice ap.pc x.cache.length ap.cc, .slice ap.pr x.reply.length ap.cr] x ⟨ap, rfl, HLL.out⟩ rfl (fun _ _ _ => trivial) trivial
            have hq1 := HQ.out.still hal1
            have hz1 : wr.heap.size + 1 = (wr.alloc (.cells #[.int .i64 x.kind, .bool x.hide, .string x.frm, .string x.dst, .slice ap.pg x.good.length ap.cg, .slice ap.pb x.bad.length ap.cb, .slice ap.pc x.cache.length ap.cc, .slice ap.pr x.reply.length ap.cr] 26)).heap.size := by simp
            have hB1 := HB.out.trans (hal1.mono hbs)
            generalize wr.alloc (.cells #[.int .i64 x.kind, .bool x.hide, .string x.frm, .string x.dst, .slice ap.pg x.good.length ap.cg, .slice ap.pb x.bad.length ap.cb, .slice ap.pc x.cache.length ap.cc, .slice ap.pr x.reply.length ap.cr] 26) = w5 at *
            refine (qPush_ok w.heap.size sb E _ _ [x] 100 v _ 1 1 w5 hq1 hs1 (fun y hy => by rw [List.mem_singleton.1 hy]; exact Hsm.out) Hlen.out (by omega) (by omega)).mono ?_
            rintro e w6 ⟨rfl, v6, hq6, hr6, hT6⟩
            rw [← Hm.out] at hq6
            have HI : Hid (OrdI w sb L (a + 1) n w6) := Lib.hid ⟨_, _, hq6, hB1.trans (hq1.below hT6 (by omega))⟩
            clear hq6 hr6 hT6 hq1 hs1 hB1 hal1 HQ HB hz1 c0 c1 c2 c3 c4 c5 c6 c7 HLL Hm Hlen
            go_wp2_with fail
            go_roundw
            case rel => exact ⟨k + 1, a + 1, n, by omega, by omega, by omega, by go_num, rfl, by go_num, HI.out⟩
            case measure => simp [intOf]; omega
          · have hpop : pop = true ∨ (pop = false ∧ a = L.length) := by
              cases pop with
              | true => exact .inl rfl
              | false => exact .inr ⟨rfl, by have : ¬ a < L.length := fun h => hpush ⟨rfl, h⟩; omega⟩
            have Hx' := Lib.hid (Hx.out.below EnS.still HB.out)
            by_cases hna' : n < a
            · have hnl : n < L.length := by omega
              obtain ⟨b, o, ap, rfl, hS, hbl, hL, c0, c1, c2, c3, c4, c5, c6, c7⟩ := en_at Hx'.out hnl
              have Hm := Lib.hid (mid_pop hna' haL)
              have HLL := Lib.hid hL
              clear hL
              generalize L[n] = x at *
              have HQ' : Hid (QO 30 w.heap.size wr sb E (x :: (L.take a).drop (n + 1)) 100 v) := Lib.hid (by rw [← Hm.out]; exact HQ.out)
              have hnai : (n : Int) < (a : Int) := by omega
              have hwn : IntKind.i64.wrap ((n : Int) + 1) = (n : Int) + 1 := by rw [IntKind.wrap_i64]; omega
              clear HQ hpush
              rcases hpop with rfl | ⟨rfl, rfl⟩
              all_goals
                go_wp2_with fail
                refine (qPop_some w.heap.size sb E x _ 100 v wr HQ'.out (by omega)).mono ?_
                rintro e w3 ⟨a3, v3, rfl, hl3, hq3, hr3, hT3⟩
                have hB3 := HB.out.trans (HQ'.out.belowS hT3 (by omega))
                have HI0 : Hid (OrdI w sb L _ (n + 1) w3) := Lib.hid ⟨_, _, hq3, hB3⟩
                have hz3 := hT3.size
                have HLL3 : EnL (fun k => k < w.heap.size) w3 x ap := HLL.out.keep (Kept.touch hT3 (fun j _ hj => ⟨hj, by omega⟩))
                have HA3 : ∀ ob, OrdI w sb L _ (n + 1) (w3.alloc ob) := fun ob => ⟨_, _, hq3.still ((Below.refl _ _).alloc (Nat.le_refl _) ob), hB3.alloc hB3.size _⟩
                have HSm : ∀ w0, Below w3.heap.size w3 w0 → Calls Try.prog 25 #[enArg x a3, enArg x ap] w0 fun e w' => e = .returned (.bool true) ∧ Below w0.heap.size w0 w' := fun w0 h0 => by
                  have := qSame_any _ _ x x a3 ap w0 (hl3.keep (Kept.all h0)) (HLL3.keep (Kept.all h0))
                  rw [enEq_self] at this
                  exact this
                have HS := Lib.hid HSm
                have HA := Lib.hid HA3
                have HC : Hid (∀ w0, Below w3.heap.size w3 w0 → ∀ jj, w0.cell? ⟨b, jj, none⟩ = wr.cell? ⟨b, jj, none⟩) := Lib.hid (fun w0 h0 jj => (h0.cell (p := ⟨b, jj, none⟩) (by show b < _; omega)).trans (hT3.cell (x := ⟨b, jj, none⟩) hbl (fun e => by have : b < w.heap.size := hS; have e' : b = sb := e; omega)))
                obtain ⟨pg3, cg3, pb3, cb3, pc3, cc3, pr3, cr3⟩ := a3
                obtain ⟨xk, xh, xf, xd, xg, xb, xc, xr⟩ := x
                obtain ⟨pg, cg, pb, cb, pc, cc, pr, cr⟩ := ap
                unfold enArg at HS ⊢
                dsimp only at *
                clear hl3 hq3 hr3 hT3 hB3 HLL3 HA3 HSm HQ' HB HLL Hm HI0 hc0
                go_upto_region 15 with (fail)
                have hbal : Below w3.heap.size w3 (w3.alloc (.cells #[.int .i64 xk, .bool xh, .string xf, .string xd, .slice pg3 xg.length cg3, .slice pb3 xb.length cb3, .slice pc3 xc.length cc3, .slice pr3 xr.length cr3] 26)) := (Below.refl _ _).alloc (Nat.le_refl _) _
                have HI := Lib.hid (HA.out (.cells #[.int .i64 xk, .bool xh, .string xf, .string xd, .slice pg3 xg.length cg3, .slice pb3 xb.length cb3, .slice pc3 xc.length cc3, .slice pr3 xr.length cr3] 26))
                have hb4 := (Blk.new w3 26 #[.int .i64 xk, .bool xh, .string xf, .string xd, .slice pg3 xg.length cg3, .slice pb3 xb.length cb3, .slice pc3 xc.length cc3, .slice pr3 xr.length cr3]).cell
                have hcc := HC.out _ hbal
                rw [← hcc] at c0 c1 c2 c3 c4 c5 c6 c7
                have HBal := Lib.hid hbal
                clear hbal hcc HC HA
                generalize w3.alloc (.cells #[.int .i64 xk, .bool xh, .string xf, .string xd, .slice pg3 xg.length cg3, .slice pb3 xb.length cb3, .slice pc3 xc.length cc3, .slice pr3 xr.length cr3] 26) = w4 at *
                have HS4 : Hid (∀ w0, Below w4.heap.size w4 w0 → _) := Lib.hid (fun w0 h0 => HS.out w0 (HBal.out.trans (h0.mono HBal.out.size)))
                clear HS HBal
                go_still_tail 13, (by kernel_rfl)
                change wpList _ _ _ _ _ w4.drew
                have HSd := Lib.hid (HS4.out w4.drew (below_dropN (Below.refl _ _) (Nat.le_refl _)))
                have Hbd : Hid (Below w4.heap.size w4 w4.drew) := Lib.hid (below_dropN (Below.refl _ _) (Nat.le_refl _))
                generalize w4.drew = w5 at *
                clear c0 c1 c2 c3 c4 c5 c6 c7 hb4 HS4
                go_wp2_with (go_at_call 25; refine HSd.out.mono ?_; rintro e w6 ⟨rfl, hb6⟩; have HI5 := Lib.hid ((HI.out.step Hbd.out).step hb6); clear hb6)
                all_goals
                  go_roundw
                  case rel => exact ⟨k + 1, _, n + 1, by omega, by omega, by omega, by go_num, rfl, by go_num, HI5.out⟩
                  case measure => simp [intOf]; omega
            · obtain rfl : n = a := by omega
              have HQ' : Hid (QO 30 w.heap.size wr sb E [] 100 v) := Lib.hid (by rw [← mid_nil haL]; exact HQ.out)
              have HPop : Hid (Calls Try.prog 16 #[.pointer (some ⟨sb, 0, none⟩)] wr fun e w' => e = .returned (.tuple #[enArg enZero enZeroP, .bool false]) ∧ Below wr.heap.size wr w') :=
                Lib.hid (qPop_none _ wr (qLen_any _ _ _ _ _ _ _ _ (HQ'.out.still ((Below.refl _ _).alloc (Nat.le_refl _) _))))
              have HI : Hid (OrdI w sb L n n wr) := Lib.hid ⟨_, _, HQ.out, HB.out⟩
              clear HQ HQ' HB hpush
              unfold enArg enZero enZeroP at HPop
              dsimp only [List.length_nil] at HPop
              have hnn : ¬ (n : Int) < (n : Int) := by omega
              rcases hpop with rfl | ⟨rfl, rfl⟩
              all_goals
                go_wp2_with fail
                refine HPop.out.mono ?_
                rintro e w3 ⟨rfl, hb3⟩
                have HI3 := Lib.hid (HI.out.step (hb3.alloc hb3.size (.cells #[.int .i64 0, .bool false, .string ⟨#[]⟩, .string ⟨#[]⟩, .slice none 0 0, .slice none 0 0, .slice none 0 0, .slice none 0 0] 26)))
                clear hb3
                go_upto_region 15 with (fail)
                generalize w3.alloc _ = w4 at *
                go_quiet (fail)
                all_goals
                  go_wp2_with fail
                  go_roundw
                  case rel => exact ⟨k + 1, _, _, by omega, Nat.le_refl _, by omega, by go_num, rfl, rfl, HI3.out.step (bel_drewN _ _ _ (Nat.le_refl _))⟩
                  case measure => simp [intOf]; omega
        · obtain rfl : k = bs.length := by omega
          have Hlen := Lib.hid (qLen_any _ _ _ _ _ _ _ _ HQ.out)
          rw [mid_len haL] at Hlen
          have hsub : ((a - n : Nat) : Int) = (a : Int) - (n : Int) := by omega
          have hws : IntKind.i64.wrap ((a : Int) - (n : Int)) = (a : Int) - (n : Int) := by rw [IntKind.wrap_i64]; omega
          rw [hsub] at Hlen
          clear hsub
          go_wp2_with fail
          refine Hlen.out.mono ?_
          rintro e w3 ⟨rfl, rfl⟩
          go_wp2_with fail
          refine (Haw.out _).mono ?_
          rintro e w4 ⟨rfl, hb4⟩
          have HB4 := Lib.hid (HB.out.trans (hb4.mono hbs))
          clear hb4
          go_wp2_with fail
          go_ret
          exact ⟨rfl, HB4.out⟩

end Go.Proofs.Ytpdkoijgemgaiaa
