/-
  The walk of RingOrder (layer 36).
-/
import Derived.Test.YthdafefhcdlkbaaRingH
import Derived.Test.YthdafefhcdlkbaaBytesEqual
namespace Go.Proofs.Ythdafefhcdlkbaa
open Go.RowKit

set_option maxRecDepth 100000 in
set_option maxHeartbeats 4000000 in
theorem ringOrder_walk (a : Nat) (ha : a < 256) (p : Option Addr) (c : Nat) (xs : List DoL) (w : World) (hx : SliceR 3 DoR w.heap.size w [.slice p xs.length c] xs) :
    Calls Try.prog 5 #[.int .u8 (a : Int), .slice p xs.length c] w fun e w' => e = .returned (.bool true) ∧ Below w.heap.size w w' := by
  have Hx := Lib.hid hx
  obtain ⟨p', c', h1, hlc, hcm, hh⟩ := hx
  clear hh
  simp only [List.cons.injEq, Value.slice.injEq, and_true] at h1
  obtain ⟨rfl, h9, rfl⟩ := h1
  clear h9
  unfold maxLen at hcm
  go_enter Try.func5, Try.ntmps5
  go_wp2_with fail
  rw [show (1 : Int) + (a : Int) = ((1 + a : Nat) : Int) from by omega]
  obtain ⟨most, hmost⟩ : ∃ most, most = 1 + a := ⟨_, rfl⟩
  rw [← hmost]
  have hm1 : 1 ≤ most := by omega
  have hm2 : most ≤ 256 := by omega
  refine (ringNew_yes most w (by omega) (by omega)).mono ?_
  rintro e w1 ⟨rfl, h1, ht1⟩
  have Hst := Lib.hid (show St w.heap.size w1 w.heap.size w.heap.size [] most (.slice none 0 0) (.slice none 0 0) [] [] from
    ⟨h1, OwnB.none _ _, OwnB.none _ _, Nat.le_refl _, Nat.le_refl _, (by simp [Value.ownBlock]), (by simp [Value.ownBlock]), (by simp [Value.ownBlock]), rfl⟩)
  have Hb1 := Lib.hid (ht1.below (Nat.le_refl _) (fun k h => h.elim))
  have hs1 := ht1.size
  clear h1 ht1
  go_wp2_with fail
  go_loopw [7, 8, 9, 10, 26] (fun vi vo _ _ i wr => ∃ k : Nat, k ≤ xs.length ∧ k ≤ 100 ∧ i = .int .i64 k ∧ ∃ g L li lo, St w.heap.size wr w.heap.size g L most vi vo li lo ∧ li.length ≤ 500 * k ∧ Below w.heap.size w wr) (fun _ _ _ _ i _ => xs.length - (intOf i).toNat)
  case atStart => exact ⟨0, Nat.zero_le _, by omega, rfl, _, _, _, _, Hst.out, by simp, Hb1.out⟩
  case round =>
    obtain ⟨k, hk, hk100, rfl, g, L, li, lo, hst, hli, hbw⟩ := hrel
    have hsz := hbw.size
    have hLi : lo.length + L.length ≤ 500 * k := by
      have := congrArg List.length hst.all
      rw [List.length_append] at this
      omega
    have hrl := hst.ring.lt
    have hgl := hst.ring.ltg
    have hLm : L.length ≤ most := by
      obtain ⟨v, bs, a', _, _, _, h3, h4, _⟩ := hst.ring
      have := h4.1
      omega
    have Hst := Lib.hid hst
    have Hbw := Lib.hid hbw
    clear hst hbw
    by_cases hlt : k < xs.length
    · obtain ⟨p', c', h1, _, _, h4⟩ := SliceR.stays DoR.stays _ w wr _ _ Hx.out Hbw.out
      simp only [List.cons.injEq, Value.slice.injEq, and_true] at h1
      obtain ⟨rfl, h9, rfl⟩ := h1
      clear h9
      obtain ⟨b', o, es, rfl, hbB, hel, hcell, v, rfl, pb, cb, hv, hl1, hl2, hin, hin2⟩ := h4 k xs[k] (List.getElem?_eq_getElem hlt)
      simp only [List.cons.injEq, and_true] at hv
      subst hv
      have c0 := hcell 0 _ rfl
      have c1 := hcell 1 _ rfl
      have c2 := hcell 2 _ rfl
      rw [Nat.add_zero] at c0
      clear hcell h4 hel
      generalize xs[k] = x at c0 c1 c2 hl1 hl2 hin hin2
      obtain ⟨xt, xn, xb⟩ := x
      dsimp only at c0 c1 c2 hl1 hl2 hin hin2
      unfold maxLen at hl2
      have Hin := Lib.hid hin
      have Hin2 := Lib.hid hin2
      clear hin hin2
      by_cases h100 : k < 100
      · by_cases h500 : xb.length ≤ 500
        · cases xt
          · go_wp2_with fail
            have Hst2 := Lib.hid (Hst.out.still ((Touch.refl _ _).alloc (.cells #[.bool false, .int .i64 xn, .slice pb xb.length cb] 39)))
            have Hb2 := Lib.hid (Hbw.out.trans ((Below.refl _ _).alloc (by omega) (.cells #[.bool false, .int .i64 xn, .slice pb xb.length cb] 39)))
            have Hbd := Lib.hid (Blk.new wr 39 #[.bool false, .int .i64 xn, .slice pb xb.length cb])
            have Hinw := Lib.hid (Hin.out.alloc (.cells #[.bool false, .int .i64 xn, .slice pb xb.length cb] 39))
            generalize wr.alloc (.cells #[.bool false, .int .i64 xn, .slice pb xb.length cb] 39) = w2 at Hst2 Hb2 Hbd Hinw ⊢
            have hs2 := Hb2.out.size
            clear c0 c1 c2 Hin
            by_cases hfit : L.length + xb.length ≤ most
            · refine (put_ok w.heap.size g L most pb xb cb _ Hst2.out.ring hfit hl1 (by unfold maxLen; exact hl2) Hinw.out (fun hne x hx => by have h1 := Hin2.out hne x hx; have h2 := Hst2.out.gB; exact ⟨by omega, by omega⟩)).mono ?_
              rintro e w3 ⟨rfl, g4, hr3, hg3, ht3⟩
              have hd3 := (ht3.blk Hbd.out (by omega)).cell
              have Hin3 := Lib.hid (ht3.bytesIn Hinw.out (fun hne x hx => by have h1 := Hin2.out hne x hx; have h2 := Hst2.out.gB; omega))
              have Hr3 := Lib.hid hr3
              have Hg3 := Lib.hid hg3
              have Ht3 := Lib.hid ht3
              have Hi3 := Lib.hid (Hst2.out.i.touch ht3 (fun k hk e => by have h1 := Hst2.out.ni k hk; omega))
              have Hb3 := Lib.hid (Hb2.out.trans (ht3.below hs2 (fun k e => by have h2 := Hst2.out.gB; omega)))
              have hs3 := Hb3.out.size
              clear hr3 hg3 ht3 Hst Hbw Hb2 Hbd Hinw Hin2
              go_wp2_with (at_builtin; refine step_appendB' _ rfl (.tmp 52) (.tmp 54) rfl w.heap.size u7 li rfl Hi3.out pb xb xb.length cb rfl rfl Hin3.out (by omega) hs3 ?_; intro vi4 w4 hi4 hg4 hn4; have Hst4 := Lib.hid (Hst2.out.put xb Hr3.out Hg3.out hs2 Ht3.out hg4 hi4 hn4); have Hb4 := Lib.hid (Hb3.out.trans ((Touch.of_grown hg4).below hs3 (fun k e => (Hi3.out.lt k e.symm).1))); have hs4 := Hb4.out.size; clear hi4 hg4 hn4 Hst2 Hb3 Hi3 Hr3 Ht3 Hg3 Hin3 hd3; generalize L ++ xb = L4 at Hst4)
              have hL4 := Hst4.out.ring.len
              refine (ringLen_any w.heap.size g4 L4 most _ Hst4.out.ring).mono ?_
              rintro e w5 ⟨rfl, rfl⟩
              go_wp2_with fail
              refine (ringRoom_any w.heap.size g4 L4 most _ Hst4.out.ring).mono ?_
              rintro e w5 ⟨rfl, ht5⟩
              have Hst5 := Lib.hid (Hst4.out.still ht5)
              have Hb5 := Lib.hid (Hb4.out.trans (ht5.below hs4 (fun k e => e.elim)))
              have hs5 := Hb5.out.size
              clear ht5 Hst4 Hb4
              go_wp2_with fail
              refine (ringRoom_any w.heap.size g4 L4 most _ Hst5.out.ring).mono ?_
              rintro e w6 ⟨rfl, ht6⟩
              have Hst6 := Lib.hid (Hst5.out.still ht6)
              have Hb6 := Lib.hid (Hb5.out.trans (ht6.below hs5 (fun k e => e.elim)))
              clear ht6 Hst5 Hb5
              go_wp2_with fail
              go_roundw
              case rel => exact ⟨k + 1, by omega, by omega, by go_num, g4, L4, _, _, Hst6.out, by first | omega | (simp only [List.length_append]; omega), Hb6.out⟩
              case measure => simp [intOf]; omega
            · refine (put_full w.heap.size g L most pb xb cb _ Hst2.out.ring (by omega) (by unfold maxLen; omega)).mono ?_
              rintro e w3 ⟨rfl, ht3⟩
              have Hst4 := Lib.hid (Hst2.out.still ht3)
              have Hb4 := Lib.hid (Hb2.out.trans (ht3.below hs2 (fun k e => e.elim)))
              have hs4 := Hb4.out.size
              clear ht3 Hst2 Hb2 Hst Hbw Hbd Hinw Hin2
              go_wp2_with fail
              have hL := Hst4.out.ring.len
              refine (ringLen_any w.heap.size g L most _ Hst4.out.ring).mono ?_
              rintro e w5 ⟨rfl, rfl⟩
              go_wp2_with fail
              refine (ringRoom_any w.heap.size g L most _ Hst4.out.ring).mono ?_
              rintro e w5 ⟨rfl, ht5⟩
              have Hst5 := Lib.hid (Hst4.out.still ht5)
              have Hb5 := Lib.hid (Hb4.out.trans (ht5.below hs4 (fun k e => e.elim)))
              have hs5 := Hb5.out.size
              clear ht5 Hst4 Hb4
              go_wp2_with fail
              refine (ringRoom_any w.heap.size g L most _ Hst5.out.ring).mono ?_
              rintro e w6 ⟨rfl, ht6⟩
              have Hst6 := Lib.hid (Hst5.out.still ht6)
              have Hb6 := Lib.hid (Hb5.out.trans (ht6.below hs5 (fun k e => e.elim)))
              clear ht6 Hst5 Hb5
              go_wp2_with fail
              go_roundw
              case rel => exact ⟨k + 1, by omega, by omega, by go_num, g, L, _, _, Hst6.out, by omega, Hb6.out⟩
              case measure => simp [intOf]; omega
          · go_wp2_with fail
            have Hst2 := Lib.hid (Hst.out.still ((Touch.refl _ _).alloc (.cells #[.bool true, .int .i64 xn, .slice pb xb.length cb] 39)))
            have Hb2 := Lib.hid (Hbw.out.trans ((Below.refl _ _).alloc (by omega) (.cells #[.bool true, .int .i64 xn, .slice pb xb.length cb] 39)))
            have Hbd := Lib.hid (Blk.new wr 39 #[.bool true, .int .i64 xn, .slice pb xb.length cb])
            have Hinw := Lib.hid (Hin.out.alloc (.cells #[.bool true, .int .i64 xn, .slice pb xb.length cb] 39))
            generalize wr.alloc (.cells #[.bool true, .int .i64 xn, .slice pb xb.length cb] 39) = w2 at Hst2 Hb2 Hbd Hinw ⊢
            have hs2 := Hb2.out.size
            clear c0 c1 c2 Hin
            clear Hbd Hinw Hin2
            refine (take_any w.heap.size g L most xn _ Hst2.out.ring).mono ?_
            rintro e w3 ⟨kk, pp, hkk, rfl, hin3, hlen3, hr3, ht3⟩
            have hkl : kk ≤ L.length := by omega
            have Hin3 := Lib.hid hin3
            have Hlen3 := Lib.hid hlen3
            have Hr3 := Lib.hid hr3
            have Ht3 := Lib.hid ht3
            have Ho3 := Lib.hid (Hst2.out.o.touch ht3 (fun k hk => (Hst2.out.no k hk).1))
            have Hb3 := Lib.hid (Hb2.out.trans (ht3.below hs2 (fun k e => by omega)))
            have hs3 := Hb3.out.size
            clear hkk hin3 hlen3 hr3 ht3 Hst Hbw Hb2
            go_wp2_with (at_builtin; refine step_appendB' _ rfl (.tmp 41) (.tmp 45) rfl w.heap.size u8 lo rfl Ho3.out pp (L.take kk) kk kk Hlen3.out rfl Hin3.out (by rw [Hlen3.out]; omega) hs3 ?_; intro vo4 w4 ho4 hg4 hn4; have Hst4 := Lib.hid (Hst2.out.take kk Hr3.out Ht3.out hg4 ho4 hn4); have Hb4 := Lib.hid (Hb3.out.trans ((Touch.of_grown hg4).below hs3 (fun k e => (Ho3.out.lt k e.symm).1))); have hs4 := Hb4.out.size; clear ho4 hg4 hn4 Hst2 Hb3 Ho3 Hr3 Ht3 Hin3; generalize L.drop kk = L4 at Hst4)
            have hL4 := Hst4.out.ring.len
            refine (ringLen_any w.heap.size g L4 most _ Hst4.out.ring).mono ?_
            rintro e w5 ⟨rfl, rfl⟩
            go_wp2_with fail
            refine (ringRoom_any w.heap.size g L4 most _ Hst4.out.ring).mono ?_
            rintro e w5 ⟨rfl, ht5⟩
            have Hst5 := Lib.hid (Hst4.out.still ht5)
            have Hb5 := Lib.hid (Hb4.out.trans (ht5.below hs4 (fun k e => e.elim)))
            have hs5 := Hb5.out.size
            clear ht5 Hst4 Hb4
            go_wp2_with fail
            refine (ringRoom_any w.heap.size g L4 most _ Hst5.out.ring).mono ?_
            rintro e w6 ⟨rfl, ht6⟩
            have Hst6 := Lib.hid (Hst5.out.still ht6)
            have Hb6 := Lib.hid (Hb5.out.trans (ht6.below hs5 (fun k e => e.elim)))
            clear ht6 Hst5 Hb5
            go_wp2_with fail
            go_roundw
            case rel => exact ⟨k + 1, by omega, by omega, by go_num, g, L4, _, _, Hst6.out, by first | omega | (simp only [List.length_append]; omega), Hb6.out⟩
            case measure => simp [intOf]; omega
        · go_wp2_with fail
          have Hst2 := Lib.hid (Hst.out.still ((Touch.refl _ _).alloc (.cells #[.bool xt, .int .i64 xn, .slice pb xb.length cb] 39)))
          have Hb2 := Lib.hid (Hbw.out.trans ((Below.refl _ _).alloc (by omega) (.cells #[.bool xt, .int .i64 xn, .slice pb xb.length cb] 39)))
          generalize wr.alloc (.cells #[.bool xt, .int .i64 xn, .slice pb xb.length cb] 39) = w2 at Hst2 Hb2 ⊢
          clear c0 c1 c2 Hin Hin2 hl1 hl2 h500
          have hs2 := Hb2.out.size
          have hl2 : lo.length + L.length ≤ 50000 := by omega
          clear Hst Hbw hrl hgl hsz hli hLi
          refine (ringLen_any w.heap.size g L most _ Hst2.out.ring).mono ?_
          rintro e w3 ⟨rfl, rfl⟩
          go_wp2_with fail
          refine (take_any w.heap.size g L most (L.length : Int) _ Hst2.out.ring).mono ?_
          rintro e w3 ⟨kk, pp, hkk, rfl, hin3, hlen3, hr3, ht3⟩
          have hkl : kk = L.length := by omega
          subst hkl
          rw [List.take_length] at hin3
          have Hin3 := Lib.hid hin3
          have Ht3 := Lib.hid ht3
          have Ho3 := Lib.hid (Hst2.out.o.touch ht3 (fun k hk => (Hst2.out.no k hk).1))
          have Hi3 := Lib.hid (Hst2.out.i.touch ht3 (fun k hk => (Hst2.out.ni k hk).1))
          have Hnio := Lib.hid Hst2.out.nio
          have Hall := Lib.hid Hst2.out.all
          have Hb3 := Lib.hid (Hb2.out.trans (ht3.below hs2 (fun k e => by omega)))
          have hs3 := Hb3.out.size
          clear hkk hlen3 hin3 hr3 ht3 Hst2
          go_wp2_with (at_builtin; refine step_appendB' _ rfl (.tmp 71) (.tmp 75) rfl w.heap.size u8 lo rfl Ho3.out pp L L.length L.length rfl rfl Hin3.out (by omega) hs3 ?_; intro vo4 w4 ho4 hg4 hn4; rw [← Hall.out] at ho4; have hT4 := Touch.of_grown hg4; have Hi4 := Lib.hid (Hi3.out.touch hT4 (fun k hk e => Hnio.out k hk e.symm)); have Hb4 := Lib.hid (Hb3.out.trans (hT4.below hs3 (fun k e => (Ho3.out.lt k e.symm).1))); have hs4 := Hb4.out.size; obtain ⟨pi, ci, rfl, hi1, hi2, hi3⟩ := Hi4.out.slice; obtain ⟨po, co, rfl, ho1, ho2, ho3⟩ := ho4.slice; have Hbi := Lib.hid hi3; have Hbo := Lib.hid ho3; clear hi3 ho3 ho4 hg4 hn4 hT4 Hi4 Hi3 Ho3 Hin3 Hnio Hb3)
          refine (equal_any pi po li li ci co _ Hbi.out Hbo.out).mono ?_
          rintro e w5 ⟨rfl, rfl⟩
          rw [beq_self_eq_true]
          go_wp2_with fail
          refine (awake_yes _).mono ?_
          rintro e w5 ⟨rfl, ht5⟩
          have Hb5 := Lib.hid (Hb4.out.trans (ht5.below hs4 (fun k e => e.elim)))
          clear ht5
          go_wp2
          go_ret
          exact ⟨rfl, Hb5.out⟩
      · go_wp2_with fail
        have Hst2 := Lib.hid (Hst.out.still ((Touch.refl _ _).alloc (.cells #[.bool xt, .int .i64 xn, .slice pb xb.length cb] 39)))
        have Hb2 := Lib.hid (Hbw.out.trans ((Below.refl _ _).alloc (by omega) (.cells #[.bool xt, .int .i64 xn, .slice pb xb.length cb] 39)))
        generalize wr.alloc (.cells #[.bool xt, .int .i64 xn, .slice pb xb.length cb] 39) = w2 at Hst2 Hb2 ⊢
        clear c0 c1 c2 Hin Hin2 hl1 hl2
        have hs2 := Hb2.out.size
        have hl2 : lo.length + L.length ≤ 50000 := by omega
        clear Hst Hbw hrl hgl hsz hli hLi
        refine (ringLen_any w.heap.size g L most _ Hst2.out.ring).mono ?_
        rintro e w3 ⟨rfl, rfl⟩
        go_wp2_with fail
        refine (take_any w.heap.size g L most (L.length : Int) _ Hst2.out.ring).mono ?_
        rintro e w3 ⟨kk, pp, hkk, rfl, hin3, hlen3, hr3, ht3⟩
        have hkl : kk = L.length := by omega
        subst hkl
        rw [List.take_length] at hin3
        have Hin3 := Lib.hid hin3
        have Ht3 := Lib.hid ht3
        have Ho3 := Lib.hid (Hst2.out.o.touch ht3 (fun k hk => (Hst2.out.no k hk).1))
        have Hi3 := Lib.hid (Hst2.out.i.touch ht3 (fun k hk => (Hst2.out.ni k hk).1))
        have Hnio := Lib.hid Hst2.out.nio
        have Hall := Lib.hid Hst2.out.all
        have Hb3 := Lib.hid (Hb2.out.trans (ht3.below hs2 (fun k e => by omega)))
        have hs3 := Hb3.out.size
        clear hkk hlen3 hin3 hr3 ht3 Hst2
        go_wp2_with (at_builtin; refine step_appendB' _ rfl (.tmp 71) (.tmp 75) rfl w.heap.size u8 lo rfl Ho3.out pp L L.length L.length rfl rfl Hin3.out (by omega) hs3 ?_; intro vo4 w4 ho4 hg4 hn4; rw [← Hall.out] at ho4; have hT4 := Touch.of_grown hg4; have Hi4 := Lib.hid (Hi3.out.touch hT4 (fun k hk e => Hnio.out k hk e.symm)); have Hb4 := Lib.hid (Hb3.out.trans (hT4.below hs3 (fun k e => (Ho3.out.lt k e.symm).1))); have hs4 := Hb4.out.size; obtain ⟨pi, ci, rfl, hi1, hi2, hi3⟩ := Hi4.out.slice; obtain ⟨po, co, rfl, ho1, ho2, ho3⟩ := ho4.slice; have Hbi := Lib.hid hi3; have Hbo := Lib.hid ho3; clear hi3 ho3 ho4 hg4 hn4 hT4 Hi4 Hi3 Ho3 Hin3 Hnio Hb3)
        refine (equal_any pi po li li ci co _ Hbi.out Hbo.out).mono ?_
        rintro e w5 ⟨rfl, rfl⟩
        rw [beq_self_eq_true]
        go_wp2_with fail
        refine (awake_yes _).mono ?_
        rintro e w5 ⟨rfl, ht5⟩
        have Hb5 := Lib.hid (Hb4.out.trans (ht5.below hs4 (fun k e => e.elim)))
        clear ht5
        go_wp2
        go_ret
        exact ⟨rfl, Hb5.out⟩
    · go_wp2_with fail
      have Hst2 := Hst
      have Hb2 := Hbw
      have hs2 := Hb2.out.size
      have hl2 : lo.length + L.length ≤ 50000 := by omega
      clear Hst Hbw hrl hgl hsz hli hLi
      refine (ringLen_any w.heap.size g L most _ Hst2.out.ring).mono ?_
      rintro e w3 ⟨rfl, rfl⟩
      go_wp2_with fail
      refine (take_any w.heap.size g L most (L.length : Int) _ Hst2.out.ring).mono ?_
      rintro e w3 ⟨kk, pp, hkk, rfl, hin3, hlen3, hr3, ht3⟩
      have hkl : kk = L.length := by omega
      subst hkl
      rw [List.take_length] at hin3
      have Hin3 := Lib.hid hin3
      have Ht3 := Lib.hid ht3
      have Ho3 := Lib.hid (Hst2.out.o.touch ht3 (fun k hk => (Hst2.out.no k hk).1))
      have Hi3 := Lib.hid (Hst2.out.i.touch ht3 (fun k hk => (Hst2.out.ni k hk).1))
      have Hnio := Lib.hid Hst2.out.nio
      have Hall := Lib.hid Hst2.out.all
      have Hb3 := Lib.hid (Hb2.out.trans (ht3.below hs2 (fun k e => by omega)))
      have hs3 := Hb3.out.size
      clear hkk hlen3 hin3 hr3 ht3 Hst2
      go_wp2_with (at_builtin; refine step_appendB' _ rfl (.tmp 71) (.tmp 75) rfl w.heap.size u8 lo rfl Ho3.out pp L L.length L.length rfl rfl Hin3.out (by omega) hs3 ?_; intro vo4 w4 ho4 hg4 hn4; rw [← Hall.out] at ho4; have hT4 := Touch.of_grown hg4; have Hi4 := Lib.hid (Hi3.out.touch hT4 (fun k hk e => Hnio.out k hk e.symm)); have Hb4 := Lib.hid (Hb3.out.trans (hT4.below hs3 (fun k e => (Ho3.out.lt k e.symm).1))); have hs4 := Hb4.out.size; obtain ⟨pi, ci, rfl, hi1, hi2, hi3⟩ := Hi4.out.slice; obtain ⟨po, co, rfl, ho1, ho2, ho3⟩ := ho4.slice; have Hbi := Lib.hid hi3; have Hbo := Lib.hid ho3; clear hi3 ho3 ho4 hg4 hn4 hT4 Hi4 Hi3 Ho3 Hin3 Hnio Hb3)
      refine (equal_any pi po li li ci co _ Hbi.out Hbo.out).mono ?_
      rintro e w5 ⟨rfl, rfl⟩
      rw [beq_self_eq_true]
      go_wp2_with fail
      refine (awake_yes _).mono ?_
      rintro e w5 ⟨rfl, ht5⟩
      have Hb5 := Lib.hid (Hb4.out.trans (ht5.below hs4 (fun k e => e.elim)))
      clear ht5
      go_wp2
      go_ret
      exact ⟨rfl, Hb5.out⟩

theorem ringOrder_read (a : Int) (hw : (Lit.int .u8 a).wf = true) (p : Option Addr) (n c : Nat) (xs : List DoL) (w : World) (hx : SliceR 3 DoR w.heap.size w [.slice p n c] xs) :
    Calls Try.prog 5 #[.int .u8 a, .slice p n c] w fun e w' => e = .returned (.bool true) ∧ Below w.heap.size w w' := by
  obtain ⟨p', c', h1, _⟩ := id hx
  simp only [List.cons.injEq, Value.slice.injEq, and_true] at h1
  obtain ⟨rfl, rfl, rfl⟩ := h1
  have hb := byte_of_wf hw
  obtain ⟨m, rfl⟩ := Int.eq_ofNat_of_zero_le hb.1
  exact ringOrder_walk m (by omega) p c xs w hx

end Go.Proofs.Ythdafefhcdlkbaa
