/-
  The document's queue (layer 21): Hide, and All at equal lists.
-/
import Derived.Test.YtpdkoijgemgaiaaQuR
import Derived.BigRegion
import Derived.StillTailTactics
namespace Go.Proofs.Ytpdkoijgemgaiaa
open Go.RowKit
set_option linter.unusedVariables false
set_option linter.unusedSimpArgs false

set_option maxRecDepth 100000 in
set_option maxHeartbeats 10000000 in
theorem rHide_any (B sb : Nat) (E : Nat → Prop) (L : List EnV) (most : Nat) (v : Value) (w : World) (h : QO 81 B w sb E L most v) (hBw : B ≤ w.heap.size) (hEw : ∀ k, E k → k < w.heap.size) :
    Calls Try.prog 53 #[.pointer (some ⟨sb, 0, none⟩)] w fun e w' => ∃ vi, e = .returned vi ∧ OwnI w.heap.size w' vi (idsL L) ∧ QO 81 B w' sb E (L.map hideE) most v ∧ QT sb v w w' := by
  have hlim : L.length ≤ 4096 := Nat.le_trans h.len h.lim
  have hrow := h.own.row
  have hsl := h.blk.lt
  obtain ⟨pv, cv, rfl, _⟩ := h.slice
  have HId := Lib.hid (ids_any _ _ _ _ _ _ h.src h.small (by omega))
  have H := Lib.hid h
  have Hrow := Lib.hid hrow
  have hc := h.blk.cell
  clear h hrow
  go_enter Try.func53, Try.ntmps53
  go_wp2_with fail
  refine HId.out.mono ?_
  rintro e w1 ⟨vi, rfl, hoi, hb1⟩
  obtain ⟨pi, ci, rfl, _⟩ := hoi.slice IntU.still (S' := fun _ => True) (fun _ _ _ => trivial) (fun _ _ => trivial)
  have HI1 := Lib.hid hoi
  have HQ1 := Lib.hid (H.out.still hb1)
  have HT1 := Lib.hid (Touch.of_below (p := fun i => i = sb ∨ rowOf (.slice pv L.length cv) = some i) hb1)
  clear hc hoi hb1 HId
  go_wp2_with fail
  go_loopw [4] (fun i wr => ∃ k : Nat, k ≤ L.length ∧ i = .int .i64 k ∧ OwnI w.heap.size wr (.slice pi (idsL L).length ci) (idsL L) ∧ QO 81 B wr sb E (hidK k L) most (.slice pv L.length cv) ∧ QT sb (.slice pv L.length cv) w wr) (fun i _ => L.length - (intOf i).toNat)
  case atStart => exact ⟨0, Nat.zero_le _, rfl, HI1.out, by rw [hidK_zero]; exact HQ1.out, HT1.out⟩
  case round =>
    clear HI1 HQ1 HT1
    obtain ⟨k, hk, rfl, ho, hq, hT⟩ := hrel
    have Ho := Lib.hid ho
    have HQ := Lib.hid hq
    have HT := Lib.hid hT
    have hcq := hq.blk.cell
    clear ho hq hT
    have hwk : IntKind.i64.wrap ((k : Int) + 1) = (k : Int) + 1 := by rw [IntKind.wrap_i64]; omega
    by_cases hlt : k < L.length
    · have hkh : k < (hidK k L).length := by rw [hidK_len k L hk]; exact hlt
      obtain ⟨g, cap, hv, hg⟩ := HQ.out.row_at (by omega)
      simp only [Value.slice.injEq] at hv
      obtain ⟨rfl, hlen, rfl⟩ := hv
      obtain ⟨a, hL, c0, c1, c4, c5⟩ := HQ.out.hid_at hlt
      have hgs : g ≠ sb := fun e => HQ.out.no (by rw [hg, e])
      have hf := fun i => HQ.out.frozen g hg i
      have hbd : Below wr.heap.size wr wr.drew := below_dropN (Below.refl _ _) (Nat.le_refl _)
      have HQ3 := Lib.hid ((HQ.out.still hbd).hideAt hlt g hg)
      have hT3 := (((Touch.refl (fun i => i = g) wr.drew).setCell (x := ⟨g, k * 8 + 1, none⟩) (fun _ => rfl) (.bool true)).setCell (x := ⟨g, k * 8 + 4, none⟩) (fun _ => rfl) (.slice none 0 0)).setCell (x := ⟨g, k * 8 + 5, none⟩) (fun _ => rfl) (.slice none 0 0)
      have Ho4 := Lib.hid (ownI_touch (Ho.out.below' IntU.still hbd) hT3 (fun i hi e => by have h1 := (Ho.out.row i hi).1; have h2 := (Hrow.out g hg).2; omega))
      have HT4 : Hid (QT sb (.slice (some ⟨g, 0, none⟩) L.length cv) w _) := Lib.hid ((HT.out.then (Touch.of_below (p := fun _ => False) hbd) (fun _ _ e => e.elim)).then hT3 (fun i hi e => .inr (by rw [e]; exact hg)))
      clear hT3 hL hg hlen c0 hbd
      generalize L[k] = x at *
      have hlti : (k : Int) < (L.length : Int) := by omega
      go_wp2_with fail
      go_region
      all_goals
        go_wp2_with fail
        go_roundw
        case rel => exact ⟨k + 1, by omega, by go_num, Ho4.out, HQ3.out, HT4.out⟩
        case measure => simp [intOf]; omega
    · obtain rfl : k = L.length := by omega
      rw [hidK_all] at HQ
      go_wp2
      go_ret
      exact ⟨_, rfl, Ho.out, HQ.out, HT.out⟩

set_option maxRecDepth 100000 in
set_option maxHeartbeats 10000000 in
/-- Two lists of the same entries are the same. -/
theorem rAll_same (S S' : Nat → Prop) (p q : Option Addr) (n m c d : Nat) (xs : List EnV) (w : World) (hx : SliceS 8 EnS S w [.slice p n c] xs) (hy : SliceS 8 EnS S' w [.slice q m d] xs) :
    Calls Try.prog 51 #[.slice p n c, .slice q m d] w fun e w' => e = .returned (.bool true) ∧ Below w.heap.size w w' := by
  have Hx := Lib.hid (hx.weak EnS.still (S' := fun k => k < w.heap.size) (fun k hk _ => hk))
  have Hy := Lib.hid (hy.weak EnS.still (S' := fun k => k < w.heap.size) (fun k hk _ => hk))
  obtain ⟨rfl, hlc, hcm⟩ := hx.len
  obtain ⟨rfl, hld, hdm⟩ := hy.len
  unfold maxLen at hcm hdm
  clear hx hy
  go_enter Try.func51, Try.ntmps51
  go_wp2_with fail
  go_loopw [5] (fun i wr => ∃ k : Nat, k ≤ xs.length ∧ i = .int .i64 k ∧ Below w.heap.size w wr) (fun i _ => xs.length - (intOf i).toNat)
  case atStart => exact ⟨0, Nat.zero_le _, rfl, Below.refl _ _⟩
  case round =>
    obtain ⟨k, hk, rfl, hb⟩ := hrel
    have hbs := hb.size
    have Hb := Lib.hid hb
    clear hb
    by_cases hlt : k < xs.length
    · have hwk : IntKind.i64.wrap ((k : Int) + 1) = (k : Int) + 1 := by rw [IntKind.wrap_i64]; omega
      obtain ⟨b, o, a, rfl, hS, hbl, hL, c0, c1, c2, c3, c4, c5, c6, c7⟩ := en_at (Hx.out.below EnS.still Hb.out) hlt
      obtain ⟨b', o', a', rfl, hS', hbl', hL', e0, e1, e2, e3, e4, e5, e6, e7⟩ := en_at (Hy.out.below EnS.still Hb.out) hlt
      have hbd : Below wr.heap.size wr wr.drew := below_dropN (Below.refl _ _) (Nat.le_refl _)
      have hsm := rSame_any _ _ xs[k] xs[k] a a' wr.drew (hL.keep (Kept.all hbd)) (hL'.keep (Kept.all hbd))
      rw [enEq_self] at hsm
      have HS := Lib.hid hsm
      clear hL hL' hsm hbd hS hS'
      generalize xs[k] = x at *
      unfold enArg at HS
      obtain ⟨xk, xh, xf, xd, xg, xb, xc, xr⟩ := x
      obtain ⟨pg, cg, pb, cb, pc, cc, pr, cr⟩ := a
      obtain ⟨qg, dg, qb, db, qc, dc, qr, dr⟩ := a'
      dsimp only at *
      have hlti : (k : Int) < (xs.length : Int) := by omega
      go_upto_region 6 with (fail)
      go_still_tail 8, (by kernel_rfl)
      change wpList _ _ _ _ _ wr.drew
      have Hbd : Hid (Below w.heap.size w wr.drew) := Lib.hid (Hb.out.trans (below_dropN (w := wr) (Below.refl _ _) hbs))
      generalize wr.drew = w5 at *
      clear c0 c1 c2 c3 c4 c5 c6 c7 e0 e1 e2 e3 e4 e5 e6 e7
      go_wp2_with (go_at_call 35; refine HS.out.mono ?_; rintro e w6 ⟨rfl, hb6⟩; have Hb6 := Lib.hid (Hbd.out.trans (hb6.mono Hbd.out.size)); clear hb6)
      all_goals
        go_roundw
        case rel => exact ⟨k + 1, by omega, by go_num, Hb6.out⟩
        case measure => simp [intOf]; omega
    · obtain rfl : k = xs.length := by omega
      go_wp2
      go_ret
      exact ⟨rfl, Hb.out⟩

end Go.Proofs.Ytpdkoijgemgaiaa
