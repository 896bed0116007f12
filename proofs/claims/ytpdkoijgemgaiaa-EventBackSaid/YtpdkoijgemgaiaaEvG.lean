/-
  The contracts of the document's Parse, and of the statements' own helpers (layer 42).
-/
import Derived.Test.YtpdkoijgemgaiaaEvF
namespace Go.Proofs.Ytpdkoijgemgaiaa
open Go.RowKit

def OneR (w : World) (l : List UInt8) (e : Ending) (w' : World) : Prop :=
  Below w.heap.size w w' ∧
  ((firstL l = none ∧ ∃ a b d q m f z, e = .returned (.tuple #[.agg #[.int .i64 a, .int .i64 b, .int .i64 d, .slice q m f], .int .i64 z, .bool false])) ∨
   (∃ x, ∃ z : Nat, ∃ q f, firstL l = some (x, l.drop z) ∧ z ≤ l.length ∧ e = .returned (.tuple #[evArg x q f, .int .i64 (z : Int), .bool true]) ∧ BytesS (fun k => w.heap.size ≤ k) w' [.slice q x.bytes.length f] x.bytes))

theorem one_any (S : Nat → Prop) (p : Option Addr) (l : List UInt8) (c : Nat) (w : World) (hx : BytesS S w [.slice p l.length c] l) (hl : l.length ≤ 1000000000) :
    Calls Try.prog 89 #[.slice p l.length c] w fun e w' => OneR w l e w' := by
  obtain ⟨-, hlc, hcm, hin⟩ := hx.parts
  by_cases h8 : l.length < 8
  · have Hend : firstL l = none := by unfold firstL; rw [if_pos h8]
    refine (one_short p l.length c w h8).mono ?_
    rintro e w' ⟨hb, he⟩
    exact ⟨hb, .inl ⟨Hend, he⟩⟩
  · have h8' : 8 ≤ l.length := by omega
    have hfl := firstL_eq h8
    obtain ⟨b, o, rfl⟩ := hin.addr (by omega)
    obtain ⟨hg1, hg2, hn0, hn1, hs0, hs1⟩ := first_parts h8' rfl rfl
    have hc0 := hin.cellAt 0 (by omega)
    have hc1 := hin.cellAt 1 (by omega)
    rw [Nat.add_zero] at hc0
    by_cases hs : (l.length : Int) - 8 < be ((l.drop 6).take 2)
    · rw [if_pos hs] at hfl
      refine (one_long ⟨b, o, none⟩ l c _ _ w hin h8' hlc hcm hg1 hg2 (by omega)).mono ?_
      rintro e w' ⟨hb, he⟩
      exact ⟨hb, .inl ⟨hfl, he⟩⟩
    · rw [if_neg hs] at hfl
      obtain ⟨m, hm⟩ := Int.eq_ofNat_of_zero_le hs0
      rw [hm] at hfl hs hg2
      rw [Int.toNat_natCast] at hfl
      refine (one_ok b o l c _ m _ _ _ w hin h8' hlc hcm hg1 hg2 (by omega) hl hc0 hc1 (u8_bd _).2 (u8_bd _).2 rfl).mono ?_
      rintro e w' ⟨hb, q, f, rfl, h1⟩
      refine ⟨hb, ?_⟩
      by_cases hok : evOk ((l.getD 0 0).toNat) ((l.getD 1 0).toNat) (be ((l.drop 2).take 4)) ((l.drop 8).take m).length = true
      · rw [if_pos hok] at hfl
        rw [hok]
        exact .inr ⟨_, 8 + m, q, f, hfl, by omega, rfl, h1⟩
      · rw [if_neg hok] at hfl
        have hok' : evOk ((l.getD 0 0).toNat) ((l.getD 1 0).toNat) (be ((l.drop 2).take 4)) ((l.drop 8).take m).length = false := by simpa using hok
        rw [hok']
        exact .inl ⟨hfl, _, _, _, _, _, _, _, rfl⟩

theorem parseL_nil : parseL [] = [] := parseL_none (by unfold firstL; simp)

/-- What is behind the first z bytes, as a slice. -/
theorem cutEnd {S : Nat → Prop} {w : World} {b o : Nat} {l : List UInt8} {d z : Nat} (h : BytesS S w [.slice (some ⟨b, o, none⟩) l.length d] l) (hz : z ≤ l.length) :
    (z = d → BytesS S w [.slice (some ⟨b, o, none⟩) (l.drop z).length 0] (l.drop z)) ∧ (¬ z = d → BytesS S w [.slice (some ⟨b, o + z, none⟩) (l.drop z).length (d - z)] (l.drop z)) := by
  have hp := h.parts
  exact ⟨fun e => BytesS.tail S w _ l z (by omega), fun _ => h.cut z hz⟩

set_option maxRecDepth 100000 in
set_option maxHeartbeats 4000000 in
theorem parseR_any (S : Nat → Prop) (p : Option Addr) (l : List UInt8) (c : Nat) (w : World) (hx : BytesS S w [.slice p l.length c] l) (hl : l.length ≤ 1000000000) :
    Calls Try.prog 40 #[.slice p l.length c] w fun e w' => ∃ v, e = .returned v ∧ OwnE w.heap.size w' v (parseL l) ∧ Below w.heap.size w w' := by
  have Hx := Lib.hid (hx.weak (S' := fun k => k < w.heap.size) (fun k hk _ => hk))
  clear hx
  go_enter Try.func40, Try.ntmps40
  go_wp2_with fail
  go_loopw [0, 3] (fun bv v wr => ∃ q l' d evs, bv = .slice q l'.length d ∧ BytesS (fun k => k < w.heap.size) wr [.slice q l'.length d] l' ∧ OwnE w.heap.size wr v evs ∧ evs ++ parseL l' = parseL l ∧ evs.length + l'.length ≤ l.length ∧ Below w.heap.size w wr) (fun bv _ _ => lenV bv)
  case atStart => exact ⟨p, l, c, [], rfl, Hx.out, OwnS.empty _, rfl, by simp, Below.refl _ _⟩
  case round =>
    obtain ⟨q, l', d, evs, rfl, hq, ho, he, hlen, hb⟩ := hrel
    have hbs := hb.size
    have hpq := hq.parts
    have Hq := Lib.hid hq
    have Ho := Lib.hid ho
    have He := Lib.hid he
    have Hb := Lib.hid hb
    clear hq he hb
    by_cases h0 : 0 < l'.length
    · have h0i : (0 : Int) < (l'.length : Int) := by omega
      obtain ⟨qb, qo, rfl⟩ := hpq.2.2.2.addr h0
      have hld := hpq.2.1
      have hdm := hpq.2.2.1
      unfold maxLen at hdm
      clear hpq ho
      go_wp2_with fail
      refine (one_any _ _ l' d wr Hq.out (by omega)).mono ?_
      rintro e w1 ⟨hb1, hr⟩
      have hs1 := hb1.size
      have Hb1 := Lib.hid (Hb.out.trans (hb1.mono hbs))
      rcases hr with ⟨hn, a, b, d', q1, m1, f1, z, rfl⟩ | ⟨x, z, q1, f1, hsome, hz, rfl, hxb⟩
      · have Hfin : Hid (parseL l = evs) := Lib.hid (by rw [← He.out, parseL_none hn, List.append_nil])
        have Ho1 := Lib.hid (Ho.out.below EvS.still hb1)
        clear hn hb1
        obtain ⟨pv, cv, rfl, _⟩ := Ho1.out.slice EvS.still (S' := fun _ => True) (fun _ _ _ => trivial) (fun _ _ => trivial)
        go_wp2
        go_ret
        exact ⟨_, rfl, by rw [Hfin.out]; exact Ho1.out.below EvS.still ((Below.refl _ _).alloc (Nat.le_refl _) _), Hb1.out.alloc Hb1.out.size _⟩
      · have hrl := firstL_len hsome
        have Hp : Hid ((evs ++ [x]) ++ parseL (l'.drop z) = parseL l) := Lib.hid (by rw [← He.out, parseL_some hsome, List.append_assoc]; rfl)
        have Hxb := Lib.hid (hxb.weak (S' := fun k => wr.heap.size ≤ k ∨ k < w.heap.size) (fun k _ h => .inl h))
        have Hrb := Lib.hid (Hq.out.below hb1)
        have hb1' := hb1
        have Ho1 := Lib.hid (Ho.out.below EvS.still hb1')
        have Hdl := Lib.hid (show (l'.drop z).length = l'.length - z from List.length_drop)
        rw [Hdl.out] at hrl
        unfold evArg
        obtain ⟨xk, xo, xn, xb⟩ := x
        dsimp only at Hxb ⊢
        clear hsome hxb hb1 hb1'
        have hal : Below w1.heap.size w1 (w1.alloc (.cells #[.int .i64 xk, .int .i64 xo, .int .i64 xn, .slice q1 xb.length f1] 85)) := (Below.refl _ _).alloc (Nat.le_refl _) _
        have hal2 : Below w1.heap.size w1 ((w1.alloc (.cells #[.int .i64 xk, .int .i64 xo, .int .i64 xn, .slice q1 xb.length f1] 85)).alloc (.cells #[.int .i64 xk, .int .i64 xo, .int .i64 xn, .slice q1 xb.length f1] 85)) := hal.alloc (by simp) _
        have Hn : Hid (SliceS 4 EvS (fun k => True ∧ rowOf u3 ≠ some k) ((w1.alloc (.cells #[.int .i64 xk, .int .i64 xo, .int .i64 xn, .slice q1 xb.length f1] 85)).alloc (.cells #[.int .i64 xk, .int .i64 xo, .int .i64 xn, .slice q1 xb.length f1] 85)) [.slice (some ⟨w1.heap.size + 1, 0, none⟩) 1 1] [⟨xk, xo, xn, xb⟩]) :=
          Lib.hid (by have := new1E (x := ⟨xk, xo, xn, xb⟩) Ho.out (show wr.heap.size ≤ (w1.alloc (.cells #[.int .i64 xk, .int .i64 xo, .int .i64 xn, .slice q1 xb.length f1] 85)).heap.size by simp; omega) (Hxb.out.below hal); rw [show (w1.alloc (.cells #[.int .i64 xk, .int .i64 xo, .int .i64 xn, .slice q1 xb.length f1] 85)).heap.size = w1.heap.size + 1 by simp] at this; exact this)
        have Ho2 := Lib.hid (Ho1.out.below EvS.still hal2)
        have Hrb2 := Lib.hid (Hrb.out.below hal2)
        have Hb2 := Lib.hid (Hb1.out.trans (hal2.mono Hb1.out.size))
        clear hal hal2
        by_cases hzd : z = d
        · subst hzd
          go_wp2_with (at_builtin; refine step_appendE _ rfl (.tmp 18) (.tmp 20) rfl w.heap.size u3 evs rfl Ho2.out (some ⟨w1.heap.size + 1, 0, none⟩) ⟨xk, xo, xn, xb⟩ rfl Hn.out (by omega) Hb2.out.size ?_; intro v4 w4 ho4 hg4 hn4; have Ho4 := Lib.hid ho4; have hT4 := Touch.of_row hg4; have Hb4 := Lib.hid (Hb2.out.trans (Below.of_row hg4 Hb2.out.size (fun k hk => (Ho2.out.row k hk).1))); have Hrb4 := Lib.hid (BytesS.still _ (fun k => k < w.heap.size) _ _ _ _ Hrb2.out (Kept.touch hT4 (fun k _ hs => ⟨hs, fun e => by have := (Ho2.out.row k e.symm).1; omega⟩))); clear ho4 hg4 hn4 hT4)
          go_roundw
          case rel => exact ⟨_, l'.drop z, _, _, by rw [Hdl.out, show l'.length - z = 0 from by omega], (cutEnd Hrb4.out hz).1 rfl, Ho4.out, Hp.out, by rw [Hdl.out]; simp; omega, Hb4.out⟩
          case measure => simp [lenV]; omega
        · have hzd2 : ¬ d = z := fun e => hzd e.symm
          go_wp2_with (at_builtin; refine step_appendE _ rfl (.tmp 18) (.tmp 20) rfl w.heap.size u3 evs rfl Ho2.out (some ⟨w1.heap.size + 1, 0, none⟩) ⟨xk, xo, xn, xb⟩ rfl Hn.out (by omega) Hb2.out.size ?_; intro v4 w4 ho4 hg4 hn4; have Ho4 := Lib.hid ho4; have hT4 := Touch.of_row hg4; have Hb4 := Lib.hid (Hb2.out.trans (Below.of_row hg4 Hb2.out.size (fun k hk => (Ho2.out.row k hk).1))); have Hrb4 := Lib.hid (BytesS.still _ (fun k => k < w.heap.size) _ _ _ _ Hrb2.out (Kept.touch hT4 (fun k _ hs => ⟨hs, fun e => by have := (Ho2.out.row k e.symm).1; omega⟩))); clear ho4 hg4 hn4 hT4)
          go_roundw
          case rel => exact ⟨_, l'.drop z, _, _, by rw [Hdl.out], (cutEnd Hrb4.out hz).2 hzd, Ho4.out, Hp.out, by rw [Hdl.out]; simp; omega, Hb4.out⟩
          case measure => simp [lenV]; omega
    · have hl0 : l' = [] := List.eq_nil_of_length_eq_zero (by omega)
      subst hl0
      have Hfin : Hid (parseL l = evs) := Lib.hid (by rw [← He.out, parseL_nil, List.append_nil])
      obtain ⟨pv, cv, rfl, _⟩ := ho.slice EvS.still (S' := fun _ => True) (fun _ _ _ => trivial) (fun _ _ => trivial)
      clear hpq ho
      go_wp2
      go_ret
      exact ⟨_, rfl, by rw [Hfin.out]; exact Ho.out, Hb.out⟩

/-- Two lists of the same events are the same. -/
theorem same_evs (S S' : Nat → Prop) (p q : Option Addr) (n m c d : Nat) (xs : List EvV) (w : World) (hx : SliceS 4 EvS S w [.slice p n c] xs) (hy : SliceS 4 EvS S' w [.slice q m d] xs) :
    Calls Try.prog 38 #[.slice p n c, .slice q m d] w fun e w' => e = .returned (.bool true) ∧ Below w.heap.size w w' := by
  have Hx := Lib.hid hx
  have Hy := Lib.hid hy
  obtain ⟨p', c', css, h1, hlc, hcm, _, _⟩ := hx
  simp only [List.cons.injEq, Value.slice.injEq, and_true] at h1
  obtain ⟨rfl, rfl, rfl⟩ := h1
  obtain ⟨q', d', dss, h1, hld, hdm, _, _⟩ := hy
  simp only [List.cons.injEq, Value.slice.injEq, and_true] at h1
  obtain ⟨rfl, rfl, rfl⟩ := h1
  unfold maxLen at hcm hdm
  go_enter Try.func38, Try.ntmps38
  go_wp2_with fail
  go_loopw [5, 13] (fun _ i wr => ∃ k : Nat, k ≤ xs.length ∧ i = .int .i64 k ∧ Below w.heap.size w wr) (fun _ i _ => xs.length - (intOf i).toNat)
  case atStart => exact ⟨0, Nat.zero_le _, rfl, Below.refl _ _⟩
  case round =>
    obtain ⟨k, hk, rfl, hb⟩ := hrel
    have hbs := hb.size
    have Hb := Lib.hid hb
    clear hb
    by_cases hlt : k < xs.length
    · obtain ⟨b, o, cs, rfl, _, hbl, _, hc, q1, d1, rfl, hr⟩ := Hx.out.elem (by omega) k xs[k] (List.getElem?_eq_getElem hlt)
      obtain ⟨b', o', cs', rfl, _, hbl', _, hc', q2, d2, rfl, hr'⟩ := Hy.out.elem (by omega) k xs[k] (List.getElem?_eq_getElem hlt)
      have Hr := Lib.hid (hr.below Hb.out)
      have Hr' := Lib.hid (hr'.below Hb.out)
      have hf : ∀ j, wr.cell? ⟨b, o + k * 4 + j, none⟩ = w.cell? ⟨b, o + k * 4 + j, none⟩ := fun j => Hb.out.cell (p := ⟨b, o + k * 4 + j, none⟩) hbl
      have hf' : ∀ j, wr.cell? ⟨b', o' + k * 4 + j, none⟩ = w.cell? ⟨b', o' + k * 4 + j, none⟩ := fun j => Hb.out.cell (p := ⟨b', o' + k * 4 + j, none⟩) hbl'
      have c0 := (hf 0).trans (hc 0 _ rfl)
      have c1 := (hf 1).trans (hc 1 _ rfl)
      have c2 := (hf 2).trans (hc 2 _ rfl)
      have c3 := (hf 3).trans (hc 3 _ rfl)
      have e0 := (hf' 0).trans (hc' 0 _ rfl)
      have e1 := (hf' 1).trans (hc' 1 _ rfl)
      have e2 := (hf' 2).trans (hc' 2 _ rfl)
      have e3 := (hf' 3).trans (hc' 3 _ rfl)
      rw [Nat.add_zero] at c0 e0
      have Hs := Lib.hid (evSame_self xs[k])
      clear hc hf hr hc' hf' hr'
      generalize xs[k] = x at c0 c1 c2 c3 e0 e1 e2 e3 Hr Hr' Hs
      have Hsm := Lib.hid (fun w0 (h1 : BytesIn w0 q1 x.bytes) (h2 : BytesIn w0 q2 x.bytes) => evSameR_any x x q1 q2 d1 d2 w0 h1 h2)
      obtain ⟨xk, xo, xn, xb⟩ := x
      unfold evArg at Hsm
      dsimp only at c0 c1 c2 c3 e0 e1 e2 e3 Hr Hr' Hsm
      have hlti : (k : Int) < (xs.length : Int) := by omega
      go_wp2_with fail
      go_region_held3 (fun w' => (w'.cell? ⟨b, o + k * 4, none⟩ = some (.int .i64 xk) ∧ w'.cell? ⟨b, o + k * 4 + 1, none⟩ = some (.int .i64 xo) ∧ w'.cell? ⟨b, o + k * 4 + 2, none⟩ = some (.int .i64 xn) ∧ w'.cell? ⟨b, o + k * 4 + 3, none⟩ = some (.slice q1 xb.length d1)) ∧
          (w'.cell? ⟨b', o' + k * 4, none⟩ = some (.int .i64 xk) ∧ w'.cell? ⟨b', o' + k * 4 + 1, none⟩ = some (.int .i64 xo) ∧ w'.cell? ⟨b', o' + k * 4 + 2, none⟩ = some (.int .i64 xn) ∧ w'.cell? ⟨b', o' + k * 4 + 3, none⟩ = some (.slice q2 xb.length d2)))
        (first | exact ⟨⟨c0, c1, c2, c3⟩, e0, e1, e2, e3⟩ | exact hS1 | go_keep)
        ((go_at_call 63; refine (Hsm.out _ (Hr.out.parts.2.2.2.drewN 1) (Hr'.out.parts.2.2.2.drewN 1)).mono ?_; rintro e w1 ⟨rfl, hb1⟩; rw [Hs.out]; have hb2 := below_ofDrew hb1; have Hb2 := Lib.hid (Hb.out.trans (hb2.mono hbs)); have hS1 := (show (w1.cell? ⟨b, o + k * 4, none⟩ = some (.int .i64 xk) ∧ w1.cell? ⟨b, o + k * 4 + 1, none⟩ = some (.int .i64 xo) ∧ w1.cell? ⟨b, o + k * 4 + 2, none⟩ = some (.int .i64 xn) ∧ w1.cell? ⟨b, o + k * 4 + 3, none⟩ = some (.slice q1 xb.length d1)) ∧
          (w1.cell? ⟨b', o' + k * 4, none⟩ = some (.int .i64 xk) ∧ w1.cell? ⟨b', o' + k * 4 + 1, none⟩ = some (.int .i64 xo) ∧ w1.cell? ⟨b', o' + k * 4 + 2, none⟩ = some (.int .i64 xn) ∧ w1.cell? ⟨b', o' + k * 4 + 3, none⟩ = some (.slice q2 xb.length d2)) from
          ⟨⟨(hb2.cell (p := ⟨b, o + k * 4, none⟩) (by show b < _; omega)).trans c0, (hb2.cell (p := ⟨b, o + k * 4 + 1, none⟩) (by show b < _; omega)).trans c1, (hb2.cell (p := ⟨b, o + k * 4 + 2, none⟩) (by show b < _; omega)).trans c2, (hb2.cell (p := ⟨b, o + k * 4 + 3, none⟩) (by show b < _; omega)).trans c3⟩,
           (hb2.cell (p := ⟨b', o' + k * 4, none⟩) (by show b' < _; omega)).trans e0, (hb2.cell (p := ⟨b', o' + k * 4 + 1, none⟩) (by show b' < _; omega)).trans e1, (hb2.cell (p := ⟨b', o' + k * 4 + 2, none⟩) (by show b' < _; omega)).trans e2, (hb2.cell (p := ⟨b', o' + k * 4 + 3, none⟩) (by show b' < _; omega)).trans e3⟩); clear hb1 hb2))
      clear c0 c1 c2 c3 e0 e1 e2 e3 hS1
      go_wp2_with fail
      go_roundw
      case rel => exact ⟨k + 1, by omega, by go_num, Hb2.out⟩
      case measure => simp [intOf]; omega
    · go_wp2
      go_ret
      exact ⟨rfl, Hb.out⟩

end Go.Proofs.Ytpdkoijgemgaiaa
