/-
  Messages of clients (layer 6): the program's writer: list, row.
-/
import Derived.Test.YtldjfmddjbdciaaFoN
namespace Go.Proofs.Ytldjfmddjbdciaa
open Go.RowKit
set_option linter.unusedVariables false
set_option linter.unusedSimpArgs false

theorem wrN_fresh {w0 w : World} {v u : Value} (h : ∀ k, rowOf u = some k → w.heap.size ≤ k) (hs : w0.heap.size ≤ w.heap.size) : wrN w0 v u := fun k e => .inr (by have := h k e; omega)

/-- A number is put and stored: what it leaves. -/
theorem WrO.put {B wb : Nat} {w w1 : World} {v u : Value} {l l' : List UInt8} (h : WrO B w wb v l) (hB : B ≤ w.heap.size) (ho : OwnB w.heap.size w1 u l') (hb : Below w.heap.size w w1) :
    WrO B (w1.setCell ⟨wb, 0, none⟩ u) wb u l' ∧ (∀ k, rowOf u = some k → w.heap.size ≤ k) ∧ Touch (fun k => k = wb) w (w1.setCell ⟨wb, 0, none⟩ u) := by
  have ho' := OwnBR.of ho
  have hlt := h.b.lt
  have hn : rowOf u ≠ some wb := fun e => by have := (ho'.row _ e).1; omega
  have h1 := h.below hb
  have h2 : WrO B w1 wb v l := h1
  refine ⟨?_, fun k e => (ho'.row k e).1, (Touch.of_below (p := fun k => k = wb) hb).setCell (x := ⟨wb, 0, none⟩) (fun _ => rfl) _⟩
  exact h2.store (OwnR.base ho' hB) hn

set_option maxRecDepth 100000 in
set_option maxHeartbeats 4000000 in
theorem wlist_any (B wb : Nat) (v : Value) (l : List UInt8) (S : Nat → Prop) (p : Option Addr) (n c : Nat) (xs : List Int) (z : Int) (zn : Nat) (hz : (zn : Int) = z) (w : World) (h : WrO B w wb v l) (hB : B ≤ w.heap.size) (hx : SliceS 1 IntU S w [.slice p n c] xs) (hS : ∀ k, k < w.heap.size → S k → k ≠ wb)
    (hl : l.length ≤ 10000000) (hxl : xs.length ≤ 100000) :
    Calls Try.prog 51 #[.pointer (some ⟨wb, 0, none⟩), .slice p n c, .int .i64 z] w (WrR B w wb v (listB l xs zn)) := by
  subst hz
  obtain ⟨rfl, hlc, hcm⟩ := hx.len
  unfold maxLen at hcm
  have H := Lib.hid h
  have Hx := Lib.hid hx
  have HS := Lib.hid hS
  have Hall := Lib.hid (listP_all l xs zn)
  have Hlen := Lib.hid (fun k hk => listP_len l xs zn k hk)
  have hwl := h.b.lt
  obtain ⟨p0, c0', hv0, -, -, q0, -⟩ := h.own.slice
  subst hv0
  have Hp := Lib.hid (put_any p0 l c0' (xs.length : Int) 2 w (by omega) q0)
  have hcw := h.b.cell
  clear h hx hS q0
  generalize hnl : l.length = nl at *
  have Hnl := Lib.hid hnl
  clear hnl
  go_enter Try.func51, Try.ntmps51
  go_wp2_with fail
  refine Hp.out.mono ?_
  rintro e w1 ⟨v1, rfl, ho1, hb1⟩
  have HP1 := Lib.hid (H.out.put hB ho1 hb1)
  obtain ⟨n1, p1, c1, hv1⟩ : ∃ n p c, v1 = .slice p n c := (by obtain ⟨p, c, h, _⟩ := (OwnBR.of ho1).slice; exact ⟨_, p, c, h⟩)
  subst hv1
  have hb1' := (H.out.below hb1).b
  have hc1 := hb1'.cell
  have hf1 := hb1'.frozen
  clear ho1 hb1 hb1' Hp hcw
  go_upto_region 1 with fail
  have HW1 : Hid (WrO B (w1.setCell ⟨wb, 0, none⟩ (.slice p1 n1 c1)) wb (.slice p1 n1 c1) (listP l xs zn 0)) := Lib.hid HP1.out.1
  have HN1 := Lib.hid HP1.out.2.1
  have HT1 := Lib.hid HP1.out.2.2
  clear HP1 hc1 hf1
  generalize w1.setCell ⟨wb, 0, none⟩ (.slice p1 n1 c1) = w2 at *
  have hz2 := HT1.out.size
  go_wp2_with fail
  go_loopw [20] (fun i wr => ∃ (k : Nat) (u : Value), k ≤ xs.length ∧ i = .int .i64 k ∧ WrO B wr wb u (listP l xs zn k) ∧ (∀ k, rowOf u = some k → w.heap.size ≤ k) ∧ Touch (fun k => k = wb) w wr) (fun i _ => xs.length - (intOf i).toNat)
  case atStart => exact ⟨0, _, Nat.zero_le _, rfl, HW1.out, HN1.out, HT1.out⟩
  case round =>
    obtain ⟨k, u, hk, rfl, hw, hn, hT⟩ := hrel
    have hsz := hT.size
    have HW := Lib.hid hw
    have HN := Lib.hid hn
    have HT := Lib.hid hT
    by_cases hlt : k < xs.length
    · have hxr := (SliceS.still IntU.still) _ _ _ _ _ _ Hx.out (Kept.touch (S' := S) hT (fun k hk hs => ⟨hs, HS.out k hk hs⟩))
      obtain ⟨b, o, rfl, _, hbl, c0⟩ := int_at hxr hlt
      have hlk := Hlen.out k hk
      have Hstep := Lib.hid (listP_succ (b := l) (size := zn) hlt)
      have hcw := hw.b.cell
      have hBr : B ≤ wr.heap.size := by omega
      obtain ⟨p3, c3, hv3, -, -, q3, -⟩ := hw.own.slice
      subst hv3
      have Hp3 := Lib.hid (put_any p3 (listP l xs zn k) c3 xs[k] (zn : Int) wr (by omega) q3)
      rw [← Hstep.out] at Hp3
      clear hw hn hT hxr q3
      generalize xs[k] = x at *
      generalize (listP l xs zn k).length = n3 at *
      have hlti : (k : Int) < (xs.length : Int) := by omega
      go_wp2_with fail
      refine Hp3.out.mono ?_
      rintro e w4 ⟨v4, rfl, ho4, hb4⟩
      have HP4 := Lib.hid (HW.out.put hBr ho4 hb4)
      obtain ⟨n4, p4, c4, hv4⟩ : ∃ n p c, v4 = .slice p n c := (by obtain ⟨p, c, h, _⟩ := (OwnBR.of ho4).slice; exact ⟨_, p, c, h⟩)
      subst hv4
      have hb4' := (HW.out.below hb4).b
      have hc4 := hb4'.cell
      have hf4 := hb4'.frozen
      clear ho4 hb4 hb4' Hp3 hcw
      go_wp2_with fail
      go_roundw
      case rel => exact ⟨k + 1, _, by omega, by go_num, HP4.out.1, (fun k e => by have := HP4.out.2.1 k e; omega), HT.out.then HP4.out.2.2 (fun i _ e => e)⟩
      case measure => simp [intOf]; omega
    · obtain rfl : k = xs.length := by omega
      rw [Hall.out] at hw
      have HWe := Lib.hid hw
      clear hw hn hT HW
      go_wp2_with fail
      go_end0
      exact ⟨rfl, u, HWe.out, fun k e => .inr (HN.out k e), HT.out.mono (fun k _ e => .inl e)⟩

set_option maxRecDepth 100000 in
set_option maxHeartbeats 4000000 in
theorem wrow_any (B wb : Nat) (v : Value) (l : List UInt8) (S : Nat → Prop) (p : Option Addr) (n c : Nat) (xs : List CeV) (w : World) (h : WrO B w wb v l) (hB : B ≤ w.heap.size) (hx : SliceS 2 CeS S w [.slice p n c] xs) (hS : ∀ k, k < w.heap.size → S k → k ≠ wb)
    (hl : l.length ≤ 10000000) (hxl : xs.length ≤ 10000) (hm : ∀ c ∈ xs, c.bytes.length ≤ 10000) :
    Calls Try.prog 52 #[.pointer (some ⟨wb, 0, none⟩), .slice p n c] w (WrR B w wb v (rowB l xs)) := by
  obtain ⟨rfl, hlc, hcm⟩ := hx.len
  unfold maxLen at hcm
  have H := Lib.hid h
  have Hx := Lib.hid hx
  have HS := Lib.hid hS
  have Hall := Lib.hid (rowP_all l xs)
  have Hlen := Lib.hid (fun k hk => rowP_len l xs 10000 hm k hk)
  have Hm := Lib.hid hm
  have hwl := h.b.lt
  obtain ⟨p0, c0', hv0, -, -, q0, -⟩ := h.own.slice
  subst hv0
  have Hp := Lib.hid (put_any p0 l c0' (xs.length : Int) 2 w (by omega) q0)
  have hcw := h.b.cell
  clear h hx hS q0 hm
  generalize hnl : l.length = nl at *
  have Hnl := Lib.hid hnl
  clear hnl
  go_enter Try.func52, Try.ntmps52
  go_wp2_with fail
  refine Hp.out.mono ?_
  rintro e w1 ⟨v1, rfl, ho1, hb1⟩
  have HP1 := Lib.hid (H.out.put hB ho1 hb1)
  obtain ⟨n1, p1, c1, hv1⟩ : ∃ n p c, v1 = .slice p n c := (by obtain ⟨p, c, h, _⟩ := (OwnBR.of ho1).slice; exact ⟨_, p, c, h⟩)
  subst hv1
  have hb1' := (H.out.below hb1).b
  have hc1 := hb1'.cell
  have hf1 := hb1'.frozen
  clear ho1 hb1 hb1' Hp hcw
  go_upto_region 1 with fail
  have HW1 : Hid (WrO B (w1.setCell ⟨wb, 0, none⟩ (.slice p1 n1 c1)) wb (.slice p1 n1 c1) (rowP l xs 0)) := Lib.hid HP1.out.1
  have HN1 := Lib.hid HP1.out.2.1
  have HT1 := Lib.hid HP1.out.2.2
  clear HP1 hc1 hf1
  generalize w1.setCell ⟨wb, 0, none⟩ (.slice p1 n1 c1) = w2 at *
  have hz2 := HT1.out.size
  go_wp2_with fail
  go_loopw [18] (fun i wr => ∃ (k : Nat) (u : Value), k ≤ xs.length ∧ i = .int .i64 k ∧ WrO B wr wb u (rowP l xs k) ∧ (∀ k, rowOf u = some k → w.heap.size ≤ k) ∧ Touch (fun k => k = wb) w wr) (fun i _ => xs.length - (intOf i).toNat)
  case atStart => exact ⟨0, _, Nat.zero_le _, rfl, HW1.out, HN1.out, HT1.out⟩
  case round =>
    obtain ⟨k, u, hk, rfl, hw, hn, hT⟩ := hrel
    have hsz := hT.size
    have HW := Lib.hid hw
    have HN := Lib.hid hn
    have HT := Lib.hid hT
    by_cases hlt : k < xs.length
    · have hxr := (SliceS.still CeS.still) _ _ _ _ _ _ Hx.out (Kept.touch (S' := S) hT (fun k hk hs => ⟨hs, HS.out k hk hs⟩))
      obtain ⟨b, o, qx, dx, rfl, _, hbl, c0, c1', hqx⟩ := ce_at hxr hlt
      have hlk := Hlen.out k hk
      have hbk := Hm.out xs[k] (List.getElem_mem hlt)
      have hl9 : (rowP l xs k).length ≤ 200000000 := by
        have : 10004 * k ≤ 10004 * 10000 := Nat.mul_le_mul (Nat.le_refl _) (by omega)
        omega
      have Hstep := Lib.hid (rowP_succ (b := l) hlt)
      have Hcb : Hid (∀ b0, cellB b0 xs[k] = if xs[k].null then putV b0 4294967295 4 else putV b0 xs[k].bytes.length 4 ++ xs[k].bytes) := Lib.hid (fun _ => rfl)
      have Hqx := Lib.hid hqx.parts.2.2.2
      have hBr : B ≤ wr.heap.size := by omega
      clear hw hn hT hxr hqx hlk
      generalize xs[k] = x at *
      obtain ⟨xn, xb⟩ := x
      dsimp only at *
      have hlti : (k : Int) < (xs.length : Int) := by omega
      go_upto_region 4 with fail
      have hal : Below wr.heap.size wr (wr.alloc (.cells #[.bool xn, .slice qx xb.length dx] 71)) := (Below.refl _ _).alloc (Nat.le_refl _) _
      have HWa := Lib.hid (HW.out.below hal)
      have HTa := Lib.hid (HT.out.then (Touch.of_below (p := fun _ => False) hal) (fun _ _ e => e.elim))
      have Hka := Lib.hid (Blk.new wr 71 #[.bool xn, .slice qx xb.length dx])
      have Hqa := Lib.hid (Hqx.out.below hal)
      have hga := Hka.out.lt
      have hgw := HW.out.b.lt
      clear hal c0 c1' HW HT Hqx hbl
      generalize wr.alloc (.cells #[.bool xn, .slice qx xb.length dx] 71) = wa at *
      generalize wr.heap.size = g5 at *
      have hszA : w.heap.size ≤ wa.heap.size := by omega
      have hBa : B ≤ wa.heap.size := by omega
      have hcg := Hka.out.cell
      have hcw := HWa.out.b.cell
      obtain ⟨p3, c3, hv3, -, -, q3, -⟩ := HWa.out.own.slice
      subst hv3
      have Hq3 := Lib.hid q3
      clear q3
      cases xn with
      | true =>
        have Hp3 := Lib.hid (put_any p3 (rowP l xs k) c3 4294967295 4 wa (by omega) Hq3.out)
        have Hnx : Hid (rowP l xs (k + 1) = putV (rowP l xs k) 4294967295 4) := Lib.hid (by rw [Hstep.out, Hcb.out]; rfl)
        rw [← Hnx.out] at Hp3
        generalize (rowP l xs k).length = n3 at *
        go_wp2_with fail
        refine Hp3.out.mono ?_
        rintro e w4 ⟨v4, rfl, ho4, hb4⟩
        have HP4 := Lib.hid (HWa.out.put hBa ho4 hb4)
        obtain ⟨n4, p4, c4, hv4⟩ : ∃ n p c, v4 = .slice p n c := (by obtain ⟨p, c, h, _⟩ := (OwnBR.of ho4).slice; exact ⟨_, p, c, h⟩)
        subst hv4
        have hb4' := (HWa.out.below hb4).b
        have hc4 := hb4'.cell
        have hf4 := hb4'.frozen
        clear ho4 hb4 hb4' Hp3 hcw hcg
        go_wp2_with fail
        go_roundw
        case rel => exact ⟨k + 1, _, by omega, by go_num, HP4.out.1, (fun k e => by have := HP4.out.2.1 k e; omega), HTa.out.then HP4.out.2.2 (fun i _ e => e)⟩
        case measure => simp [intOf]; omega
      | false =>
        have hpl4 := putV_len4 (rowP l xs k) (xb.length : Int) 4
        have Hp3 := Lib.hid (put_any p3 (rowP l xs k) c3 (xb.length : Int) 4 wa.drew (by omega) (Hq3.out.below (bel_drew wa)))
        have Hnx : Hid (rowP l xs (k + 1) = putV (rowP l xs k) (xb.length : Int) 4 ++ xb) := Lib.hid (by rw [Hstep.out, Hcb.out]; rfl)
        generalize putV (rowP l xs k) (xb.length : Int) 4 = Q at *
        generalize (rowP l xs k).length = n3 at *
        go_upto_region 6 with fail
        go_region_law (first
          | (refine rgn_appendBR rfl (.tmp 40) (.tmp 42) rfl wa.heap.size _ _ rfl Ho3.out _ xb _ _ rfl rfl Hq5.out (by omega) hz3 ?_; intro v4 w4 ho4 hg4 hn4; obtain ⟨n4, p4, c4, hv4⟩ : ∃ n p c, v4 = .slice p n c := (by obtain ⟨p, c, h, _⟩ := OwnBR.slice ho4; exact ⟨_, p, c, h⟩); subst hv4; have Ho4 := Lib.hid ho4; have hb4 : Below wa.heap.size wa w4 := HB3.out.trans (Below.of_row hg4 hz3 (fun k hk => (Ho3.out.row k hk).1)); have HB4 := Lib.hid hb4; have hk4 := (HWa.out.below hb4).b; have hc4 := hk4.cell; have hf4 := hk4.frozen; have hd4 := (Hka.out.below hb4 hga).cell; clear ho4 hg4 hn4 hb4 hk4)
          | (refine rgn_callF rfl 40 _ _ Hp3.out (by go_simp) ?_; rintro e w3 ⟨v3, rfl, ho3, hb3⟩; refine ⟨_, rfl, ?_⟩; have Ho3 : Hid (OwnBR wa.heap.size w3 v3 Q) := Lib.hid (OwnBR.of ho3); have hb3' : Below wa.heap.size wa w3 := (bel_drew wa).trans hb3; have HB3 := Lib.hid hb3'; have Hq5 := Lib.hid (Hqa.out.below hb3'); have hc3 := (HWa.out.below hb3').b.cell; have hd3 := (Hka.out.below hb3' hga).cell; have hz3 : wa.heap.size ≤ w3.heap.size := hb3'.size; clear ho3 hb3 hb3'))
        all_goals
          have hn : rowOf (.slice p4 n4 c4) ≠ some wb := fun e => by
            have := (Ho4.out.row _ e).1
            omega
          have HW5 : Hid (WrO B (w4.setCell ⟨wb, 0, none⟩ (.slice p4 n4 c4)) wb (.slice p4 n4 c4) (rowP l xs (k + 1))) := Lib.hid (by rw [Hnx.out]; exact (HWa.out.below HB4.out).store (OwnR.base Ho4.out hBa) hn)
          have HT5 : Hid (Touch (fun k => k = wb) w (w4.setCell ⟨wb, 0, none⟩ (.slice p4 n4 c4))) := Lib.hid ((HTa.out.then (Touch.of_below (p := fun _ => False) HB4.out) (fun _ _ e => e.elim)).setCell (x := ⟨wb, 0, none⟩) (fun _ => rfl) _)
          have HN5 := Lib.hid (fun k (e : rowOf (.slice p4 n4 c4) = some k) => (Ho4.out.row k e).1)
          clear hn hcg hcw hc3 hd3 hc4 hf4 hd4
          go_wp2_with fail
          go_roundw
          case rel => exact ⟨k + 1, _, by omega, by go_num, HW5.out, (fun k e => by have := HN5.out k e; omega), HT5.out⟩
          case measure => simp [intOf]; omega
    · obtain rfl : k = xs.length := by omega
      rw [Hall.out] at hw
      have HWe := Lib.hid hw
      clear hw hn hT HW
      go_wp2_with fail
      go_end0
      exact ⟨rfl, u, HWe.out, fun k e => .inr (HN.out k e), HT.out.mono (fun k _ e => .inl e)⟩

end Go.Proofs.Ytldjfmddjbdciaa
