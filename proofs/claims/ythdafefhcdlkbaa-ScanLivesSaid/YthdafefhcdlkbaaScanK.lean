/-
  The walk of ScanLives (layer 3): the loop.
-/
import Derived.Test.YthdafefhcdlkbaaScanJ
namespace Go.Proofs.Ythdafefhcdlkbaa
open Go.RowKit

theorem St3.drew {B : Nat} {w : World} {sb g : Nat} {L : List UInt8} {bad : Bool} {xb gx : Nat} {E : List UInt8} (h : St3 B w sb g L bad xb gx E) : St3 B w.drew sb g L bad xb gx E := h.still ((Touch.refl _ _).drew)

set_option maxRecDepth 100000 in
set_option maxHeartbeats 4000000 in
theorem scanLives_walk (p : Option Addr) (l : List UInt8) (c : Nat) (q : Option Addr) (m d : Nat) (xs : List DoN) (w : World) (hx : BytesR w.heap.size w [.slice p l.length c] l) (hy : SliceR 2 DoNR w.heap.size w [.slice q m d] xs) :
    Calls Try.prog 10 #[.slice p l.length c, .slice q m d] w fun e w' => e = .returned (.bool true) ∧ Below w.heap.size w w' := by
  obtain ⟨p', c', h1, hlc, hcm, hin, hinB⟩ := hx
  simp only [List.cons.injEq, Value.slice.injEq, and_true] at h1
  obtain ⟨rfl, -, rfl⟩ := h1
  have Hy := Lib.hid hy
  obtain ⟨q', d', h1, hld, hdm, hh⟩ := hy
  clear hh
  simp only [List.cons.injEq, Value.slice.injEq, and_true] at h1
  obtain ⟨rfl, rfl, rfl⟩ := h1
  unfold maxLen at hcm hdm
  have Hin := Lib.hid hin
  clear hin hinB
  by_cases hbig : 2000 < l.length ∨ 200 < xs.length
  · have hb' : 2000 < l.length ∨ (l.length ≤ 2000 ∧ 200 < xs.length) := by omega
    clear hbig
    rcases hb' with hb | ⟨hb, hb2⟩
    all_goals
      go_enter Try.func10, Try.ntmps10
      go_wp2_with fail
      refine (scanAwake _).mono ?_
      rintro e w3 ⟨rfl, ht3⟩
      have Ht3 := Lib.hid ht3
      clear ht3
      go_wp2
      go_ret
      exact ⟨rfl, Ht3.out.below (Nat.le_refl _) (fun k e => e.elim)⟩
  · have hl : l.length ≤ 2000 := by omega
    have hsz : xs.length ≤ 200 := by omega
    clear hbig
    go_enter Try.func10, Try.ntmps10
    go_wp2_with fail
    refine (scanNew_any p l c w (by omega) Hin.out).mono ?_
    rintro e w1 ⟨sb, g, rfl, h1, hsb, hg, ht1⟩
    have H1 := Lib.hid h1
    have hsl := h1.lt
    have Hgl : Hid (l ≠ [] → g < w1.heap.size) := Lib.hid h1.ltg
    have Hb1 := Lib.hid (ht1.below (Nat.le_refl _) (fun k e => e.elim))
    have Hin1 := Lib.hid (Hin.out.below (ht1.below (Nat.le_refl _) (fun k e => e.elim)))
    have hs1 := ht1.size
    clear h1 ht1
    go_wp2_with fail
    refine (refSNew_any p l c w1 (by omega) Hin1.out).mono ?_
    rintro e w2 ⟨xb, gx, rfl, h2, hxb, hgx, ht2⟩
    have Hst := Lib.hid (show St3 w.heap.size w2 sb g l false xb gx l from
      ⟨H1.out.touch ht2 (fun e => e) (fun _ e => e), h2, fun _ => rfl, (by simp), hsb, by omega, by omega, fun hne => by have := Hgl.out hne; omega, fun _ => by omega, hl, hl⟩)
    have Hb2 := Lib.hid (Hb1.out.trans (ht2.below hs1 (fun k e => e.elim)))
    clear h2 ht2 H1 Hgl Hb1 Hin1 hsl hsb hg hs1 hxb hgx
    go_wp2_with fail
    go_loopw [8, 9, 25] (fun _ _ i wr => ∃ k : Nat, k ≤ xs.length ∧ i = .int .i64 k ∧ ∃ L bad E, St3 w.heap.size wr sb g L bad xb gx E ∧ Below w.heap.size w wr) (fun _ _ i _ => xs.length - (intOf i).toNat)
    case atStart => exact ⟨0, Nat.zero_le _, rfl, _, _, _, Hst.out, Hb2.out⟩
    case round =>
      clear Hst Hb2
      obtain ⟨k, hk, rfl, L, bad, E, hst, hbw⟩ := hrel
      have hsw := hbw.size
      have hsl := hst.scan.lt
      have hxl := hst.ref.lt
      have hn1 := hst.n1
      have hsB := hst.sB
      have hxB := hst.xB
      have hlL := hst.lL
      have hlE := hst.lE
      have Hst := Lib.hid hst
      have Hbw := Lib.hid hbw
      clear hst hbw
      by_cases hlt : k < xs.length
      · obtain ⟨p', c', h1, _, _, h4⟩ := SliceR.stays DoNR.stays _ w wr _ _ Hy.out Hbw.out
        simp only [List.cons.injEq, Value.slice.injEq, and_true] at h1
        obtain ⟨rfl, h9, rfl⟩ := h1
        clear h9
        obtain ⟨b', o, es, rfl, hbB, hel, hcell, hes⟩ := h4 k xs[k] (List.getElem?_eq_getElem hlt)
        unfold DoNR at hes
        subst hes
        have c0 := hcell 0 _ rfl
        have c1 := hcell 1 _ rfl
        rw [Nat.add_zero] at c0
        clear hcell h4 hel
        generalize xs[k] = x at c0 c1
        obtain ⟨xo, xn⟩ := x
        dsimp only at c0 c1
        by_cases h0 : xo = 0
        · subst h0
          go_wp2_with fail
          have Hst2 := Lib.hid (Hst.out.still ((Touch.refl _ _).alloc (.cells #[.int .i64 0, .int .i64 xn] 63)))
          have Hb2 := Lib.hid (Hbw.out.trans ((Below.refl _ _).alloc (by omega) (.cells #[.int .i64 0, .int .i64 xn] 63)))
          have Hbd := Lib.hid (Blk.new wr 63 #[.int .i64 0, .int .i64 xn])
          generalize wr.alloc (.cells #[.int .i64 0, .int .i64 xn] 63) = w2 at Hst2 Hb2 Hbd ⊢
          have hs2 := Hb2.out.size
          have hd2 : ∀ i, w2.cell? ⟨wr.heap.size, i, none⟩ = (#[.int .i64 0, .int .i64 xn] : Array Value)[i]? := Hbd.out.cell
          clear c0 c1
          go_region_held3 (fun w' => ∀ i, w'.cell? ⟨wr.heap.size, i, none⟩ = (#[.int .i64 0, .int .i64 xn] : Array Value)[i]?)
            (first | exact hd2 | exact hd3 | exact hd4 | go_keep)
            (first
              | (go_at_call 30; refine (scanNum_any sb g L bad xn _ Hst2.out.drew.scan).mono ?_; rintro e w3 ⟨rfl, hs3, ht3⟩; have ht23 := ((Touch.refl (fun i => i = sb) w2).drew).trans ht3; have Hs3 := Lib.hid hs3; have Hx3 := Lib.hid (Hst2.out.ref1 ht23); have Hbd3 := Lib.hid (ht23.blk Hbd.out (by omega)); have hd3 := Hbd3.out.cell; have Hb3 := Lib.hid (Hb2.out.trans (ht23.below hs2 (fun k e => by omega))); clear hs3 ht3 ht23)
              | (go_at_call 39; refine (refSNum_any xb gx E bad xn _ Hx3.out).mono ?_; rintro e w4 ⟨rfl, hr4, ht4⟩; rw [(Hst2.out.num xn).1] at hr4; rw [(Hst2.out.num xn).2]; have hs3 := Hb3.out.size; have Hst4 := Lib.hid (Hst2.out.step (numOk L bad xn) xn.toNat Hs3.out hr4 numOk_bad ht4); have hd4 := (ht4.blk Hbd3.out (by omega)).cell; have Hb4 := Lib.hid (Hb3.out.trans (ht4.below hs3 (fun k e => by omega))); clear hr4 ht4 hd3))
          generalize nx (numOk L bad xn) (L.drop xn.toNat) [] = L4 at Hst4
          generalize nx (numOk L bad xn) (E.drop xn.toNat) E = E4 at Hst4
          generalize (!numOk L bad xn) = bad4 at Hst4
          clear Hst Hbw Hst2 Hb2 Hbd Hbd3 Hb3 Hx3 Hs3 hd2 hlL hlE
          obtain ⟨pv, cv, hbv, -⟩ := id Hst4.out.ref
          have hxc4 : ∀ i, w4.cell? ⟨xb, i, none⟩ = (#[.slice pv E4.length cv, .bool bad4] : Array Value)[i]? := hbv.cell
          clear hbv
          have Hb4d : Hid (Below w.heap.size w w4.drew) := Lib.hid (Hb4.out.trans (((Touch.refl (fun _ => False) w4).drew).below Hb4.out.size (fun k e => e.elim)))
          go_wp2_with fail
          go_region_held3 (fun w' => ∀ i, w'.cell? ⟨xb, i, none⟩ = (#[.slice pv E4.length cv, .bool bad4] : Array Value)[i]?)
            (first | exact hxc4 | go_keep)
            (first
              | (go_at_call 33; refine (scanLeft_any sb g L4 bad4 _ Hst4.out.drew.scan).mono ?_; rintro e w5 ⟨rfl, rfl⟩)
              | (go_at_call 42; refine (refSLeft_any xb gx E4 bad4 _ Hst4.out.drew.ref).mono ?_; rintro e w5 ⟨rfl, rfl⟩; rw [Hst4.out.left])
              | (go_at_call 34; refine (scanBad_any sb g L4 bad4 _ Hst4.out.drew.scan).mono ?_; rintro e w5 ⟨rfl, rfl⟩)
              | (go_at_call 35; refine (scanDone_any sb g L4 bad4 _ Hst4.out.drew.scan).mono ?_; rintro e w5 ⟨rfl, rfl⟩)
              | (go_at_call 43; refine (refSDone_any xb gx E4 bad4 _ Hst4.out.drew.ref).mono ?_; rintro e w5 ⟨rfl, rfl⟩; rw [Hst4.out.done]))
          go_wp2_with fail
          go_roundw
          case rel => exact ⟨k + 1, by omega, by go_num, L4, bad4, E4, Hst4.out.drew, Hb4d.out⟩
          case measure => simp [intOf]; omega
        · by_cases h1 : xo = 1
          · subst h1
            clear h0
            go_wp2_with fail
            have Hst2 := Lib.hid (Hst.out.still ((Touch.refl _ _).alloc (.cells #[.int .i64 1, .int .i64 xn] 63)))
            have Hb2 := Lib.hid (Hbw.out.trans ((Below.refl _ _).alloc (by omega) (.cells #[.int .i64 1, .int .i64 xn] 63)))
            have Hbd := Lib.hid (Blk.new wr 63 #[.int .i64 1, .int .i64 xn])
            generalize wr.alloc (.cells #[.int .i64 1, .int .i64 xn] 63) = w2 at Hst2 Hb2 Hbd ⊢
            have hs2 := Hb2.out.size
            have hd2 : ∀ i, w2.cell? ⟨wr.heap.size, i, none⟩ = (#[.int .i64 1, .int .i64 xn] : Array Value)[i]? := Hbd.out.cell
            clear c0 c1
            clear hd2
            go_wp2_with fail
            refine (scanText_any sb g L bad _ Hst2.out.scan).mono ?_
            rintro e w3 ⟨rfl, hs3, ht23⟩
            have Hs3 := Lib.hid hs3
            have Hx3 := Lib.hid (Hst2.out.ref1 ht23)
            have Hb3 := Lib.hid (Hb2.out.trans (ht23.below hs2 (fun k e => by omega)))
            clear hs3 ht23
            go_wp2_with fail
            refine (refSText_full xb gx E bad _ Hx3.out (by omega)).mono ?_
            rintro e w4 ⟨rfl, hr4, ht4⟩
            obtain ⟨htx1, htx2, htx3⟩ := Hst2.out.text
            rw [htx1] at hr4
            rw [htx2]
            have hr5 : RefS w4 xb gx (nx (textOk L bad) (E.drop ((Lib.indexByte L 0).toNat + 1)) E) (!textOk L bad) := by
              cases hok : textOk L bad
              · rw [hok] at hr4; exact hr4
              · rw [hok, htx3 hok] at hr4; exact hr4
            have hs3 := Hb3.out.size
            have Hst4 := Lib.hid (Hst2.out.step (textOk L bad) ((Lib.indexByte L 0).toNat + 1) Hs3.out hr5 textOk_bad ht4)
            have Hb4 := Lib.hid (Hb3.out.trans (ht4.below hs3 (fun k e => by omega)))
            generalize textV L bad = tv
            generalize nx (textOk L bad) (L.drop ((Lib.indexByte L 0).toNat + 1)) [] = L4 at Hst4
            generalize nx (textOk L bad) (E.drop ((Lib.indexByte L 0).toNat + 1)) E = E4 at Hst4
            generalize (!textOk L bad) = bad4 at Hst4
            clear Hst Hbw Hst2 Hb2 Hbd Hb3 Hx3 Hs3 hlL hlE hr4 hr5 ht4 htx1 htx2 htx3 hs3
            obtain ⟨pv, cv, hbv, -⟩ := id Hst4.out.ref
            have hxc4 : ∀ i, w4.cell? ⟨xb, i, none⟩ = (#[.slice pv E4.length cv, .bool bad4] : Array Value)[i]? := hbv.cell
            clear hbv
            have Hb4d : Hid (Below w.heap.size w w4.drew) := Lib.hid (Hb4.out.trans (((Touch.refl (fun _ => False) w4).drew).below Hb4.out.size (fun k e => e.elim)))
            go_wp2_with fail
            go_region_held3 (fun w' => ∀ i, w'.cell? ⟨xb, i, none⟩ = (#[.slice pv E4.length cv, .bool bad4] : Array Value)[i]?)
              (first | exact hxc4 | go_keep)
              (first
                | (go_at_call 33; refine (scanLeft_any sb g L4 bad4 _ Hst4.out.drew.scan).mono ?_; rintro e w5 ⟨rfl, rfl⟩)
                | (go_at_call 42; refine (refSLeft_any xb gx E4 bad4 _ Hst4.out.drew.ref).mono ?_; rintro e w5 ⟨rfl, rfl⟩; rw [Hst4.out.left])
                | (go_at_call 34; refine (scanBad_any sb g L4 bad4 _ Hst4.out.drew.scan).mono ?_; rintro e w5 ⟨rfl, rfl⟩)
                | (go_at_call 35; refine (scanDone_any sb g L4 bad4 _ Hst4.out.drew.scan).mono ?_; rintro e w5 ⟨rfl, rfl⟩)
                | (go_at_call 43; refine (refSDone_any xb gx E4 bad4 _ Hst4.out.drew.ref).mono ?_; rintro e w5 ⟨rfl, rfl⟩; rw [Hst4.out.done]))
            go_wp2_with fail
            go_roundw
            case rel => exact ⟨k + 1, by omega, by go_num, L4, bad4, E4, Hst4.out.drew, Hb4d.out⟩
            case measure => simp [intOf]; omega
          · have Hx0 := Lib.hid h0
            go_wp2_with fail
            have Hst2 := Lib.hid (Hst.out.still ((Touch.refl _ _).alloc (.cells #[.int .i64 xo, .int .i64 xn] 63)))
            have Hb2 := Lib.hid (Hbw.out.trans ((Below.refl _ _).alloc (by omega) (.cells #[.int .i64 xo, .int .i64 xn] 63)))
            have Hbd := Lib.hid (Blk.new wr 63 #[.int .i64 xo, .int .i64 xn])
            generalize wr.alloc (.cells #[.int .i64 xo, .int .i64 xn] 63) = w2 at Hst2 Hb2 Hbd ⊢
            have hs2 := Hb2.out.size
            have hd2 : ∀ i, w2.cell? ⟨wr.heap.size, i, none⟩ = (#[.int .i64 xo, .int .i64 xn] : Array Value)[i]? := Hbd.out.cell
            clear c0 c1
            go_region_held3 (fun w' => ∀ i, w'.cell? ⟨wr.heap.size, i, none⟩ = (#[.int .i64 xo, .int .i64 xn] : Array Value)[i]?)
              (first | exact hd2 | exact hd3 | exact hd4 | go_keep)
              (first
                | (go_at_call 32; refine (scanTake_any sb g L bad xn _ Hst2.out.drew.scan (by omega)).mono ?_; rintro e w3 ⟨v3, rfl, ho3, hs3, ht3⟩; obtain ⟨pp, cc, rfl, _, _, hin3⟩ := ho3.slice; have ht23 := ((Touch.refl (fun i => i = sb) w2).drew).trans ht3; have Hs3 := Lib.hid hs3; have Ho3 := Lib.hid ho3; have Hx3 := Lib.hid (Hst2.out.ref1 ht23); have Hbd3 := Lib.hid (ht23.blk Hbd.out (by omega)); have hd3 := Hbd3.out.cell; have Hb3 := Lib.hid (Hb2.out.trans (ht23.below hs2 (fun k e => by omega))); have hxl2 := Hst2.out.ref.lt; clear hs3 ht3 ht23 ho3 hin3)
                | (go_at_call 41; refine (refSTake_any xb gx E bad xn _ Hx3.out (by omega)).mono ?_; rintro e w4 ⟨v4, rfl, ho4, hr4, ht4⟩; rw [(Hst2.out.take xn).1] at hr4; rw [(Hst2.out.take xn).2] at ho4; obtain ⟨po, co, rfl, _, _, hin4⟩ := ho4.slice; have hs3 := Hb3.out.size; obtain ⟨pp', cc', epp, _, _, hin3⟩ := (Ho3.out.touch ht4 (fun k hk e => by have h1 := (Ho3.out.lt k hk).1; have h3 : w2.drew.heap.size = w2.heap.size := rfl; omega)).slice; simp only [Value.slice.injEq] at epp; obtain ⟨rfl, -, rfl⟩ := epp; have Hin3 := Lib.hid hin3; have Hin4 := Lib.hid hin4; have Hst4 := Lib.hid (Hst2.out.step (takeOk L bad xn) xn.toNat Hs3.out hr4 takeOk_bad ht4); have hd4 := (ht4.blk Hbd3.out (by omega)).cell; have Hb4 := Lib.hid (Hb3.out.trans (ht4.below hs3 (fun k e => by omega))); clear hr4 ht4 ho4 hin3 hin4 hd3)
                | (go_at_call 18; refine (equal_any pp po _ _ cc co _ Hin3.out Hin4.out).mono ?_; rintro e w5 ⟨rfl, rfl⟩; rw [beq_self_eq_true]))
            generalize nx (takeOk L bad xn) (L.drop xn.toNat) [] = L4 at Hst4
            generalize nx (takeOk L bad xn) (E.drop xn.toNat) E = E4 at Hst4
            generalize (!takeOk L bad xn) = bad4 at Hst4
            generalize takeV L bad xn = tv at *
            clear Hst Hbw Hst2 Hb2 Hbd Hbd3 Hb3 Hx3 Hs3 Ho3 Hin3 Hin4 hd2 hlL hlE Hx0 h0 h1
            obtain ⟨pv, cv, hbv, -⟩ := id Hst4.out.ref
            have hxc4 : ∀ i, w4.cell? ⟨xb, i, none⟩ = (#[.slice pv E4.length cv, .bool bad4] : Array Value)[i]? := hbv.cell
            clear hbv
            have Hb4d : Hid (Below w.heap.size w w4.drew) := Lib.hid (Hb4.out.trans (((Touch.refl (fun _ => False) w4).drew).below Hb4.out.size (fun k e => e.elim)))
            go_wp2_with fail
            go_region_held3 (fun w' => ∀ i, w'.cell? ⟨xb, i, none⟩ = (#[.slice pv E4.length cv, .bool bad4] : Array Value)[i]?)
              (first | exact hxc4 | go_keep)
              (first
                | (go_at_call 33; refine (scanLeft_any sb g L4 bad4 _ Hst4.out.drew.scan).mono ?_; rintro e w5 ⟨rfl, rfl⟩)
                | (go_at_call 42; refine (refSLeft_any xb gx E4 bad4 _ Hst4.out.drew.ref).mono ?_; rintro e w5 ⟨rfl, rfl⟩; rw [Hst4.out.left])
                | (go_at_call 34; refine (scanBad_any sb g L4 bad4 _ Hst4.out.drew.scan).mono ?_; rintro e w5 ⟨rfl, rfl⟩)
                | (go_at_call 35; refine (scanDone_any sb g L4 bad4 _ Hst4.out.drew.scan).mono ?_; rintro e w5 ⟨rfl, rfl⟩)
                | (go_at_call 43; refine (refSDone_any xb gx E4 bad4 _ Hst4.out.drew.ref).mono ?_; rintro e w5 ⟨rfl, rfl⟩; rw [Hst4.out.done]))
            go_wp2_with fail
            go_roundw
            case rel => exact ⟨k + 1, by omega, by go_num, L4, bad4, E4, Hst4.out.drew, Hb4d.out⟩
            case measure => simp [intOf]; omega
      · go_wp2_with fail
        refine (scanAwake _).mono ?_
        rintro e w3 ⟨rfl, ht3⟩
        have Ht3 := Lib.hid ht3
        clear ht3
        go_wp2
        go_ret
        exact ⟨rfl, Hbw.out.trans (Ht3.out.below hsw (fun k e => e.elim))⟩

end Go.Proofs.Ythdafefhcdlkbaa
