/-
  Entries of a row turned in place; queue's Hide (layer 21).
-/
import Derived.Test.YtpdkoijgemgaiaaQuK
namespace Go.Proofs.Ytpdkoijgemgaiaa
open Go.RowKit
set_option linter.unusedVariables false
set_option linter.unusedSimpArgs false

theorem flat_set (n : Nat) (u : Value) (j : Nat) (hj : j < n) : ∀ (css : List (List Value)) (k : Nat) (hk : k < css.length), (∀ c ∈ css, c.length = n) → css.flatten.set (k * n + j) u = (css.set k (css[k].set j u)).flatten
  | [], k, hk, _ => by simp at hk
  | c :: css, 0, hk, h => by
    have hc := h c List.mem_cons_self
    simp only [List.set_cons_zero, List.flatten_cons, Nat.zero_mul, Nat.zero_add, List.getElem_cons_zero]
    rw [List.set_append_left _ _ (by omega)]
  | c :: css, k + 1, hk, h => by
    have hc := h c List.mem_cons_self
    have := flat_set n u j hj css k (by simpa using hk) (fun c hc => h c (List.mem_cons_of_mem _ hc))
    simp only [List.set_cons_succ, List.flatten_cons, List.getElem_cons_succ]
    rw [List.set_append_right _ _ (by rw [hc, Nat.succ_mul]; omega), hc, show (k + 1) * n + j - n = k * n + j from by rw [Nat.succ_mul]; omega, this]

theorem All2.set {α β : Type} {p : α → β → Prop} {a : α} {b : β} (hab : p a b) : ∀ {l : List α} {m : List β}, All2 p l m → ∀ k, All2 p (l.set k a) (m.set k b)
  | [], [], _, k => by simp [All2]
  | _ :: _, _ :: _, h, 0 => ⟨hab, h.2⟩
  | _ :: _, _ :: _, h, k + 1 => ⟨h.1, All2.set hab h.2 k⟩
  | [], _ :: _, h, _ => h.elim
  | _ :: _, [], h, _ => h.elim

section
variable {B : Nat} {e : TypeId} {size : Nat} {w : World} {v : Value} {n : Nat} {xs : List Value}
theorem OwnR.setCell (h : OwnR B e size w v n xs) (g : Nat) (hg : rowOf v = some g) (j : Nat) (hj : j < xs.length) (u : Value) : OwnR B e size (w.setCell ⟨g, j, none⟩ u) v n (xs.set j u) := by
  refine ⟨by rw [List.length_set]; exact h.1, ?_⟩
  rcases h.2 with ⟨p, rfl, rfl⟩ | ⟨g', cap, cur, rfl, h0, hb, hc, h3, h4, h5, h6⟩
  · rw [rowOf_zero] at hg; cases hg
  · rw [rowOf_pos h0] at hg
    cases hg
    refine .inr ⟨g, cap, cur.setIfInBounds j u, rfl, h0, hb, ?_, h3, h4, by simpa using h5, ?_⟩
    · simp [World.setCell, Array.getElem?_modify, hc]
    · rw [← h6, Array.toList_setIfInBounds, List.take_set]
theorem OwnR.frozen (h : OwnR B e size w v n xs) (g : Nat) (hg : rowOf v = some g) (i : Nat) : w.frozen? ⟨g, i, none⟩ = false := by
  rcases h.2 with ⟨p, rfl, rfl⟩ | ⟨g', cap, cur, rfl, h0, hb, hc, h3, h4, h5, h6⟩
  · rw [rowOf_zero] at hg; cases hg
  · rw [rowOf_pos h0] at hg
    cases hg
    simp [World.frozen?, hc]
end

theorem QO.row_at {t : TypeId} {B sb : Nat} {w : World} {E : Nat → Prop} {L : List EnV} {most : Nat} {v : Value} (h : QO t B w sb E L most v) (h0 : 0 < L.length) : ∃ g cap, v = .slice (some ⟨g, 0, none⟩) L.length cap ∧ rowOf v = some g := by
  obtain ⟨css, hr, _⟩ := h.own
  rcases hr.2 with ⟨p, rfl, h1⟩ | ⟨g, cap, cur, rfl, h1, _⟩
  · omega
  · exact ⟨g, cap, rfl, rowOf_pos h1⟩

theorem QO.frozen {t : TypeId} {B sb : Nat} {w : World} {E : Nat → Prop} {L : List EnV} {most : Nat} {v : Value} (h : QO t B w sb E L most v) (g : Nat) (hg : rowOf v = some g) (i : Nat) : w.frozen? ⟨g, i, none⟩ = false := by
  obtain ⟨css, hr, _⟩ := h.own
  exact hr.frozen g hg i

/-- One cell of an entry is turned. -/
theorem QO.setE {t : TypeId} {B sb : Nat} {w : World} {E : Nat → Prop} {L : List EnV} {most : Nat} {v : Value} (h : QO t B w sb E L most v) (g : Nat) (hg : rowOf v = some g) (k : Nat) (hk : k < L.length) (j : Nat) (hj : j < 8) (u : Value) (x' : EnV)
    (hx : ∀ S w cs, EnS S w cs L[k] → EnS S w (cs.set j u) x') (hsm : EnSmall x') : QO t B (w.setCell ⟨g, k * 8 + j, none⟩ u) sb E (L.set k x') most v := by
  obtain ⟨css, hr, he⟩ := h.own
  have hT : Touch (fun i => i = g) w (w.setCell ⟨g, k * 8 + j, none⟩ u) := (Touch.refl (fun i => i = g) w).setCell (x := ⟨g, k * 8 + j, none⟩) (fun _ => rfl) _
  have hlen := he.length
  have hkc : k < css.length := by omega
  have h8 : ∀ c ∈ css, c.length = 8 := by
    intro c hc
    obtain ⟨i, hi, rfl⟩ := List.getElem_of_mem hc
    obtain ⟨c', e1, e2, _⟩ := All2.get he i L[i] (List.getElem?_eq_getElem (by omega))
    rw [List.getElem?_eq_getElem hi] at e1
    cases e1
    exact e2
  have hfl := ElemsS.flat he
  have he' : ElemsS 8 EnS (fun i => E i ∧ rowOf v ≠ some i) (w.setCell ⟨g, k * 8 + j, none⟩ u) css L := he.keep EnS.still (Kept.touch hT (fun i _ hi => ⟨hi, fun e => hi.2 (by rw [hg, e])⟩))
  have hck : EnS (fun i => E i ∧ rowOf v ≠ some i) (w.setCell ⟨g, k * 8 + j, none⟩ u) css[k] L[k] := by
    obtain ⟨c', e1, _, e3⟩ := All2.get he' k L[k] (List.getElem?_eq_getElem hk)
    rw [List.getElem?_eq_getElem hkc] at e1
    cases e1
    exact e3
  refine ⟨hT.blk h.blk (fun e => h.no (by rw [hg, e])), ⟨css.set k (css[k].set j u), ?_, ?_⟩, h.sB, h.no, h.noE, ?_, by rw [List.length_set]; exact h.len, h.lim⟩
  · rw [← flat_set 8 u j hj css k hkc h8, List.length_set]
    exact hr.setCell g hg _ (by rw [hfl]; omega) u
  · exact All2.set ⟨by rw [List.length_set]; exact h8 _ (List.getElem_mem hkc), hx _ _ _ hck⟩ he' k
  · intro y hy
    rcases List.mem_or_eq_of_mem_set hy with hy | rfl
    · exact h.small y hy
    · exact hsm

def hideE (x : EnV) : EnV := ⟨x.kind, true, x.frm, x.dst, [], [], x.cache, x.reply⟩
def hidK (k : Nat) (L : List EnV) : List EnV := (L.take k).map hideE ++ L.drop k
theorem hidK_zero (L : List EnV) : hidK 0 L = L := by simp [hidK]
theorem hidK_all (L : List EnV) : hidK L.length L = L.map hideE := by simp [hidK]
theorem hidK_len (k : Nat) (L : List EnV) (hk : k ≤ L.length) : (hidK k L).length = L.length := by simp [hidK]; omega
theorem hidK_at (k : Nat) (L : List EnV) (hk : k < L.length) : (hidK k L)[k]'(by rw [hidK_len k L (by omega)]; exact hk) = L[k] := by
  have h1 : ((L.take k).map hideE).length = k := by simp; omega
  unfold hidK
  have h2 : k - ((L.take k).map hideE).length = 0 := by omega
  rw [List.getElem_append_right (by omega), List.getElem_drop]
  congr 1
  omega
theorem hidK_set (k : Nat) (L : List EnV) (hk : k < L.length) : (hidK k L).set k (hideE L[k]) = hidK (k + 1) L := by
  have h1 : ((L.take k).map hideE).length = k := by simp; omega
  unfold hidK
  rw [List.set_append_right _ _ (by omega), h1, Nat.sub_self, List.take_succ_eq_append_getElem hk, List.drop_eq_getElem_cons hk, List.map_append, List.set_cons_zero]
  simp

/-- What Hide's three stores make of a row. -/
theorem QO.hideAt {t : TypeId} {B sb : Nat} {w : World} {E : Nat → Prop} {L : List EnV} {most : Nat} {v : Value} {k : Nat} (hk : k < L.length) (h : QO t B w sb E (hidK k L) most v) (g : Nat) (hg : rowOf v = some g) :
    QO t B (((w.setCell ⟨g, k * 8 + 1, none⟩ (.bool true)).setCell ⟨g, k * 8 + 4, none⟩ (.slice none 0 0)).setCell ⟨g, k * 8 + 5, none⟩ (.slice none 0 0)) sb E (hidK (k + 1) L) most v := by
  have hl := hidK_len k L (by omega)
  have hkl : k < (hidK k L).length := by omega
  have hat := hidK_at k L hk
  have hsm := h.small _ (List.getElem_mem hkl)
  rw [hat] at hsm
  have h1 := h.setE g hg k hkl 1 (by omega) (.bool true) { L[k] with hide := true } (by
    rw [hat]
    rintro S w cs ⟨a, rfl, hl⟩
    exact ⟨a, rfl, hl.good, hl.bad, hl.cache, hl.reply⟩) hsm
  have hk1 : k < ((hidK k L).set k { L[k] with hide := true }).length := by rw [List.length_set]; exact hkl
  have h2 := h1.setE g hg k hk1 4 (by omega) (.slice none 0 0) { L[k] with hide := true, good := [] } (by
    rw [List.getElem_set_self]
    rintro S w cs ⟨a, rfl, hl⟩
    exact ⟨⟨none, 0, a.pb, a.cb, a.pc, a.cc, a.pr, a.cr⟩, rfl, SliceS.empty _ _ (by simp [maxLen]), hl.bad, hl.cache, hl.reply⟩) ⟨by simp, hsm.2⟩
  rw [List.set_set] at h2
  have hk2 : k < ((hidK k L).set k { L[k] with hide := true, good := [] }).length := by rw [List.length_set]; exact hkl
  have h3 := h2.setE g hg k hk2 5 (by omega) (.slice none 0 0) (hideE L[k]) (by
    rw [List.getElem_set_self]
    rintro S w cs ⟨a, rfl, hl⟩
    exact ⟨⟨a.pg, a.cg, none, 0, a.pc, a.cc, a.pr, a.cr⟩, rfl, hl.good, SliceS.empty _ _ (by simp [maxLen]), hl.cache, hl.reply⟩) ⟨by simp [hideE], by simp [hideE], hsm.2.2.1, hsm.2.2.2⟩
  rw [List.set_set, hidK_set k L hk] at h3
  exact h3

theorem Touch.of_belowC {C : Nat} {a w : World} (h : Below C a w) : Touch (fun i => C ≤ i) a w := ⟨h.os, h.tape, h.output, h.size, fun k _ hp => h.block k (by omega)⟩

theorem ownI_touch {p : Nat → Prop} {B : Nat} {w w' : World} {v : Value} {xs : List Int} (h : OwnI B w v xs) (ht : Touch p w w') (h1 : ∀ k, rowOf v = some k → ¬ p k) : OwnI B w' v xs := by
  obtain ⟨css, h3, h4⟩ := h
  exact ⟨css, h3.touch ht h1, h4.imp (fun _ _ h => ⟨h.1, IntU.flat _ _ _ _ _ _ h.2⟩)⟩

/-- The k-th entry while entries are hidden. -/
theorem QO.hid_at {t : TypeId} {B sb : Nat} {w : World} {E : Nat → Prop} {L : List EnV} {most k g n c : Nat} (h : QO t B w sb E (hidK k L) most (.slice (some ⟨g, 0, none⟩) n c)) (hk : k < L.length) :
    ∃ a, EnL (fun i => E i ∨ rowOf (.slice (some ⟨g, 0, none⟩) n c) = some i) w L[k] a ∧
      w.cell? ⟨g, k * 8, none⟩ = some (.int .i64 L[k].kind) ∧ w.cell? ⟨g, k * 8 + 1, none⟩ = some (.bool L[k].hide) ∧
      w.cell? ⟨g, k * 8 + 4, none⟩ = some (.slice a.pg L[k].good.length a.cg) ∧ w.cell? ⟨g, k * 8 + 5, none⟩ = some (.slice a.pb L[k].bad.length a.cb) := by
  obtain ⟨p', c', e1, hs⟩ := h.slice
  simp only [Value.slice.injEq] at e1
  obtain ⟨rfl, e2, rfl⟩ := e1
  have hkh : k < (hidK k L).length := by rw [hidK_len k L (by omega)]; exact hk
  obtain ⟨b, o, a, e, hS, hbl, hL, c0, c1, c2, c3, c4, c5, c6, c7⟩ := en_at hs hkh
  cases e
  rw [hidK_at k L hk] at hL c0 c1 c4 c5
  rw [Nat.zero_add] at c0 c1 c4 c5
  exact ⟨a, hL, c0, c1, c4, c5⟩

set_option maxRecDepth 100000 in
set_option maxHeartbeats 10000000 in
theorem qHide_any (B sb : Nat) (E : Nat → Prop) (L : List EnV) (most : Nat) (v : Value) (w : World) (h : QO 30 B w sb E L most v) (hBw : B ≤ w.heap.size) (hEw : ∀ k, E k → k < w.heap.size) :
    Calls Try.prog 19 #[.pointer (some ⟨sb, 0, none⟩)] w fun e w' => ∃ vi, e = .returned vi ∧ OwnI w.heap.size w' vi (idsL L) ∧ QO 30 B w' sb E (L.map hideE) most v ∧ QT sb v w w' := by
  have hlim : L.length ≤ 4096 := Nat.le_trans h.len h.lim
  have hrow := h.own.row
  have hsl := h.blk.lt
  obtain ⟨pv, cv, rfl, _⟩ := h.slice
  have H := Lib.hid h
  have Hrow := Lib.hid hrow
  have HE := Lib.hid hEw
  have hc := h.blk.cell
  clear h hrow hEw
  go_enter Try.func19, Try.ntmps19
  go_wp2_with fail
  go_loopw [3, 15] (fun vi i wr => ∃ k : Nat, k ≤ L.length ∧ i = .int .i64 k ∧ OwnI w.heap.size wr vi (idsL (L.take k)) ∧ (idsL (L.take k)).length ≤ k * 1000 ∧ QO 30 B wr sb E (hidK k L) most (.slice pv L.length cv) ∧ QT sb (.slice pv L.length cv) w wr) (fun _ i _ => L.length - (intOf i).toNat)
  case atStart => exact ⟨0, Nat.zero_le _, rfl, OwnS.empty _, by simp [idsL], by rw [hidK_zero]; exact H.out, Touch.refl _ _⟩
  case round =>
    clear hc
    obtain ⟨k, hk, rfl, ho, hkl, hq, hT⟩ := hrel
    have Ho := Lib.hid ho
    have Hkl := Lib.hid hkl
    have HQ := Lib.hid hq
    have HT := Lib.hid hT
    have hsz := hT.size
    have hcq := hq.blk.cell
    clear ho hkl hq hT
    by_cases hlt : k < L.length
    · have hkh : k < (hidK k L).length := by rw [hidK_len k L hk]; exact hlt
      obtain ⟨g, cap, hv, hg⟩ := HQ.out.row_at (by omega)
      simp only [Value.slice.injEq] at hv
      obtain ⟨rfl, hlen, rfl⟩ := hv
      obtain ⟨a, hL, c0, c1, c4, c5⟩ := HQ.out.hid_at hlt
      have hgw : g < w.heap.size := (Hrow.out g hg).2
      have Hg := Lib.hid hL.good
      have Hx := Lib.hid (HQ.out.small L[k] (by have := List.getElem_mem hkh; rw [hidK_at k L hlt] at this; exact this)).1
      have Hsn := Lib.hid (idsL_snoc L k hlt)
      have Hc1 := Lib.hid c1
      have Hc4 := Lib.hid c4
      have Hc5 := Lib.hid c5
      have Hhid := Lib.hid (fun (w0 : World) (h0 : QO 30 B w0 sb E (hidK k L) most (.slice (some ⟨g, 0, none⟩) L.length cv)) => h0.hideAt hlt g hg)
      have Hgrow : Hid (∀ i, (E i ∨ rowOf (.slice (some ⟨g, 0, none⟩) L.length cv) = some i) → i < w.heap.size) := Lib.hid (fun i hi => hi.elim (HE.out i) (fun e => (Hrow.out i e).2))
      have Hgg := Lib.hid hg
      clear hL c0 c1 c5 hg hlen
      obtain ⟨wo, hwo⟩ : ∃ wo, wo = wr := ⟨_, rfl⟩
      subst hwo
      generalize L[k] = x at *
      have hgl := Hx.out
      obtain ⟨pg, cg, pb, cb, pc, cc, pr, cr⟩ := a
      dsimp only at *
      obtain ⟨_, hgc, hgm⟩ := Hg.out.len
      unfold maxLen at hgm
      have hlti : (k : Int) < (L.length : Int) := by omega
      have hwk : IntKind.i64.wrap ((k : Int) + 1) = (k : Int) + 1 := by rw [IntKind.wrap_i64]; omega
      go_wp2_with fail
      clear hcq c4
      go_loopw [3, 29] (fun v i wi => ∃ j : Nat, j ≤ x.good.length ∧ i = .int .i64 j ∧ OwnI w.heap.size wi v (idsL (L.take k) ++ idsO (x.good.take j)) ∧ (idsL (L.take k) ++ idsO (x.good.take j)).length ≤ k * 1000 + j ∧ Below w.heap.size wo wi) (fun _ i _ => x.good.length - (intOf i).toNat)
      case atStart => exact ⟨0, Nat.zero_le _, rfl, by simpa [idsO] using Ho.out, by simpa [idsO] using Hkl.out, Below.refl _ _⟩
      case round =>
        obtain ⟨j, hj, rfl, ho2, hjl, hb2⟩ := hrel
        have Ho2 := Lib.hid ho2
        have Hb2 := Lib.hid hb2
        have Hjl := Lib.hid hjl
        have hsz2 := hb2.size
        have hwj : IntKind.i64.wrap ((j : Int) + 1) = (j : Int) + 1 := by rw [IntKind.wrap_i64]; omega
        clear ho2 hb2 hjl
        by_cases hltj : j < x.good.length
        · obtain ⟨gb, go, rfl, hgS, hgbl, d0, d1, d2⟩ := op_at Hg.out hltj
          have hgbw := Hgrow.out gb hgS
          have d0' := (Hb2.out.cell (p := ⟨gb, go + j * 3, none⟩) hgbw).trans d0
          have d1' := (Hb2.out.cell (p := ⟨gb, go + j * 3 + 1, none⟩) hgbw).trans d1
          have d2' := (Hb2.out.cell (p := ⟨gb, go + j * 3 + 2, none⟩) hgbw).trans d2
          have Hsnj := Lib.hid (idsO_snoc x.good j hltj)
          clear d0 d1 d2
          generalize x.good[j] = y at *
          obtain ⟨ys, yn, yi⟩ := y
          dsimp only at *
          have hltji : (j : Int) < (x.good.length : Int) := by omega
          cases ys with
          | false =>
            have Hj1 : Hid (idsL (L.take k) ++ idsO (x.good.take (j + 1)) = idsL (L.take k) ++ idsO (x.good.take j)) := Lib.hid (by rw [Hsnj.out]; simp)
            clear Hsnj
            have hal := (Below.refl wr.heap.size wr).alloc (Nat.le_refl _) (.cells #[.bool false, .string yn, .int .i64 yi] 104)
            have Ho3 := Lib.hid (Ho2.out.below' IntU.still hal)
            have Hb3 := Lib.hid (Hb2.out.trans (hal.mono (by omega)))
            clear hal
            go_wp2_with fail
            go_roundw
            case rel => exact ⟨j + 1, by omega, by go_num, by rw [Hj1.out]; exact Ho3.out, by rw [Hj1.out]; have := Hjl.out; omega, Hb3.out⟩
            case measure => simp [intOf]; omega
          | true =>
            have Hj1 : Hid (idsL (L.take k) ++ idsO (x.good.take (j + 1)) = (idsL (L.take k) ++ idsO (x.good.take j)) ++ [yi]) := Lib.hid (by rw [Hsnj.out]; simp)
            have hal0 := (Below.refl wr.heap.size wr).alloc (Nat.le_refl _) (.cells #[.bool true, .string yn, .int .i64 yi] 104)
            have ho20 := Ho2.out.below' IntU.still hal0
            have hz0 : (wr.alloc (.cells #[.bool true, .string yn, .int .i64 yi] 104)).heap.size = wr.heap.size + 1 := by simp
            have hn := new1I yi ho20
            rw [hz0] at hn
            have Hn := Lib.hid hn
            have hal := hal0.alloc (by simp) (.cells #[.int .i64 yi] 3)
            have Ho3 := Lib.hid (Ho2.out.below' IntU.still hal)
            have Hb3 := Lib.hid (Hb2.out.trans (hal.mono (by omega)))
            have hroom : (idsL (L.take k) ++ idsO (x.good.take j)).length ≤ 100000000 := by have := Hjl.out; omega
            clear Hsnj hal hal0 ho20 hz0 hn
            generalize hids : idsL (L.take k) ++ idsO (x.good.take j) = ids at *
            go_wp2_with (at_builtin; refine step_appendI _ rfl (.tmp 35) (.tmp 38) rfl w.heap.size u3 ids rfl Ho3.out (some ⟨wr.heap.size + 1, 0, none⟩) yi rfl Hn.out hroom (by have := Hb3.out.size; omega) ?_; intro v4 w4 ho4 hg4 hn4; have Ho4 := Lib.hid ho4; have Hb4 := Lib.hid (Hb3.out.trans (Below.of_row hg4 (by have := Hb3.out.size; omega) (fun k hk => (Ho3.out.row k hk).1))); clear ho4 hg4 hn4)
            go_roundw
            case rel => exact ⟨j + 1, by omega, by go_num, by rw [Hj1.out]; exact Ho4.out, by rw [Hj1.out]; have := Hjl.out; simp; omega, Hb4.out⟩
            case measure => simp [intOf]; omega
        · obtain rfl : j = x.good.length := by omega
          rw [List.take_length] at Ho2 Hjl
          rw [← Hsn.out] at Ho2 Hjl
          have hTC := Touch.of_belowC Hb2.out
          have HQ2 := Lib.hid (HQ.out.touch hTC (by omega) (fun i hi => by have := (Hrow.out i hi).2; omega) (fun i _ hi _ => by have := HE.out i hi; omega))
          have HQ3 := Lib.hid (Hhid.out _ HQ2.out)
          have c1 := (Hb2.out.cell (p := ⟨g, k * 8 + 1, none⟩) hgw).trans Hc1.out
          have c4 := (Hb2.out.cell (p := ⟨g, k * 8 + 4, none⟩) hgw).trans Hc4.out
          have c5 := (Hb2.out.cell (p := ⟨g, k * 8 + 5, none⟩) hgw).trans Hc5.out
          have hf := fun i => HQ2.out.frozen g Hgg.out i
          have hT3 := (((Touch.refl (fun i => i = g) wr).setCell (x := ⟨g, k * 8 + 1, none⟩) (fun _ => rfl) (.bool true)).setCell (x := ⟨g, k * 8 + 4, none⟩) (fun _ => rfl) (.slice none 0 0)).setCell (x := ⟨g, k * 8 + 5, none⟩) (fun _ => rfl) (.slice none 0 0)
          have Ho4 := Lib.hid (ownI_touch Ho2.out hT3 (fun i hi e => by have := (Ho2.out.row i hi).1; omega))
          have HT4 : Hid (QT sb (.slice (some ⟨g, 0, none⟩) L.length cv) w _) := Lib.hid ((HT.out.then (hTC) (fun i hi e => by omega)).then hT3 (fun i hi e => .inr (by rw [e]; exact Hgg.out)))
          clear hT3 hTC
          go_wp2_with fail
          go_roundw
          case rel => exact ⟨k + 1, by omega, by go_num, Ho4.out, by have := Hjl.out; omega, HQ3.out, HT4.out⟩
          case measure => simp [intOf]; omega
    · obtain rfl : k = L.length := by omega
      rw [List.take_length] at Ho
      rw [hidK_all] at HQ
      obtain ⟨pi, ci, rfl, _⟩ := Ho.out.slice IntU.still (S' := fun _ => True) (fun _ _ _ => trivial) (fun _ _ => trivial)
      go_wp2
      go_ret
      exact ⟨_, rfl, Ho.out, HQ.out, HT.out⟩

end Go.Proofs.Ytpdkoijgemgaiaa
