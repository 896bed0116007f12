/-
  The contracts of package ring (layer 36): copyTo, grow, Put, Take.
-/
import Derived.Test.YthdafefhcdlkbaaRingA
import Derived.Deep.RegionLaw
import Derived.Deep.RegionHeld3
namespace Go.Proofs.Ythdafefhcdlkbaa
open Go.RowKit

theorem copyTo_fill (L cur : List UInt8) (m : Nat) (cs1 cs2 : List UInt8) (h : cs1 ++ cs2 = L.take m) (hm : m ≤ L.length) :
    splice (splice cur 0 cs1) cs1.length cs2 = L.take m ++ cur.drop m := by
  have hl : cs1.length + cs2.length = m := by
    have := congrArg List.length h
    rw [List.length_append, List.length_take] at this
    omega
  rw [← h]
  unfold splice
  simp only [List.take_zero, List.nil_append, Nat.zero_add]
  rw [List.take_left, List.drop_append, List.drop_of_length_le (l := cs1) (by omega), List.nil_append, List.drop_drop, show cs1.length + (cs1.length + cs2.length - cs1.length) = m from by omega, List.append_assoc]

theorem splice_nil {α : Type} (l : List α) (off : Nat) : splice l off [] = l := by
  simp [splice]

set_option maxHeartbeats 2000000 in
theorem copyTo_any (rb g : Nat) (L : List UInt8) (most : Nat) (w : World) (h : RingO w rb g L most) (og oc m : Nat) (cur : List UInt8) (hcur : Blk w og 5 (cellsB cur)) (hm : m ≤ L.length) (hml : m ≤ cur.length) (hoc : m ≤ oc) (n1 : rb ≠ og) (n2 : g ≠ og) :
    Calls Try.prog 45 #[.pointer (some ⟨rb, 0, none⟩), .slice (some ⟨og, 0, none⟩) m oc] w fun e w' =>
      e = .returned (.tuple #[]) ∧ Blk w' og 5 (cellsB (L.take m ++ cur.drop m)) ∧ Touch (fun k => k = og) w w' := by
  obtain ⟨v, bs, a, hb, h1, h2, h3, h4, _, h5⟩ := h
  have hcopy := h4.copy m hm
  have hlen1 : ((bs.drop a).take m).length ≤ m := List.length_take_le _ _
  generalize hc1 : (bs.drop a).take m = cs1 at hcopy hlen1
  generalize hk1 : cs1.length = k1 at hcopy hlen1
  generalize hc2 : bs.take (m - k1) = cs2 at hcopy
  have hfill := copyTo_fill L cur m cs1 cs2 hcopy hm
  have hk12 : k1 + cs2.length = m := by
    have := congrArg List.length hcopy
    rw [List.length_append, List.length_take, hk1] at this
    omega
  have hc := hb.cell
  rcases h5 with ⟨e1, e2⟩ | ⟨e1, e2, e3, e4⟩
  · subst e1 e2
    have hL : L.length = 0 := by have := h4.1; simpa using this
    have ha : a = 0 := by
      rcases h4.2.1 with ⟨_, e⟩ | h
      · exact e
      · simp at h
    subst ha
    have hm0 : m = 0 := by omega
    subst hm0
    have hrl := hb.lt
    have Hcur := Lib.hid hcur
    have hnilN : BytesIn w none [] := BytesIn.nil _ _
    have Hnil := Lib.hid hnilN
    clear hcopy hfill hk12 hb hcur hnilN hc1 hk1 hc2 hlen1 h4
    go_enter Try.func45, Try.ntmps45
    go_wp2_with fail
    go_region_held3 (fun w' => ∀ i, w'.cell? ⟨rb, i, none⟩ = (#[.slice none 0 0, .int .i64 (0 : Nat), .int .i64 (L.length : Nat), .int .i64 (most : Nat)] : Array Value)[i]?)
      (first | exact hc | exact hc2 | go_keep)
      ((refine step_copyB rfl (.tmp 5) (.tmp 14) rfl (some ⟨og, 0, none⟩) none 0 oc 0 0 [] [] 0 rfl rfl rfl rfl rfl og 0 cur Hcur.out.drew (Hnil.out.drewN 1) (fun _ => rfl) (Nat.zero_le _) ?_; intro w2 hb2 ht2; have hc2 : ∀ i, w2.cell? ⟨rb, i, none⟩ = (#[.slice none 0 0, .int .i64 (0 : Nat), .int .i64 (L.length : Nat), .int .i64 (most : Nat)] : Array Value)[i]? := (fun i => (ht2.cell (x := ⟨rb, i, none⟩) hrl n1).trans (hc i))))
    have ht02 : Touch (fun k => k = og) w w2 := ((Touch.refl _ w).drew).trans ht2
    have Ht02 := Lib.hid ht02
    clear ht02 ht2
    by_cases hcap : oc = 0
    · subst hcap
      go_wp2_with fail
      go_region_held3 (fun w' => ∀ i, w'.cell? ⟨rb, i, none⟩ = (#[.slice none 0 0, .int .i64 (0 : Nat), .int .i64 (L.length : Nat), .int .i64 (most : Nat)] : Array Value)[i]?)
        (first | exact hc2 | exact hc3 | go_keep)
        ((refine step_copyB rfl (.tmp 18) (.tmp 22) rfl (some ⟨og, 0, none⟩) none 0 0 0 0 [] [] 0 rfl rfl rfl rfl rfl og 0 (splice cur 0 []) hb2.out.drew (BytesIn.nil _ _) (fun _ => rfl) (Nat.zero_le _) ?_; intro w3 hb3 ht3; have hc3 : ∀ i, w3.cell? ⟨rb, i, none⟩ = (#[.slice none 0 0, .int .i64 (0 : Nat), .int .i64 (L.length : Nat), .int .i64 (most : Nat)] : Array Value)[i]? := (fun i => (ht3.cell (x := ⟨rb, i, none⟩) (by have := Ht02.out.size; show rb < w2.heap.size; omega) n1).trans (hc2 i))))
      go_end0
      refine ⟨rfl, ?_, Ht02.out.trans (((Touch.refl _ w2).drew).trans ht3)⟩
      have := hb3.out
      rw [splice_nil, splice_nil] at this
      simpa using this
    · go_wp2_with fail
      go_region_held3 (fun w' => ∀ i, w'.cell? ⟨rb, i, none⟩ = (#[.slice none 0 0, .int .i64 (0 : Nat), .int .i64 (L.length : Nat), .int .i64 (most : Nat)] : Array Value)[i]?)
        (first | exact hc2 | exact hc3 | go_keep)
        ((refine step_copyB rfl (.tmp 18) (.tmp 22) rfl (some ⟨og, 0, none⟩) none 0 oc 0 0 [] [] 0 rfl rfl rfl rfl rfl og 0 (splice cur 0 []) hb2.out.drew (BytesIn.nil _ _) (fun _ => rfl) (Nat.zero_le _) ?_; intro w3 hb3 ht3; have hc3 : ∀ i, w3.cell? ⟨rb, i, none⟩ = (#[.slice none 0 0, .int .i64 (0 : Nat), .int .i64 (L.length : Nat), .int .i64 (most : Nat)] : Array Value)[i]? := (fun i => (ht3.cell (x := ⟨rb, i, none⟩) (by have := Ht02.out.size; show rb < w2.heap.size; omega) n1).trans (hc2 i))))
      go_end0
      refine ⟨rfl, ?_, Ht02.out.trans (((Touch.refl _ w2).drew).trans ht3)⟩
      have := hb3.out
      rw [splice_nil, splice_nil] at this
      simpa using this
  · subst e2
    have ha : a < bs.length := by
      rcases h4.2.1 with ⟨e, _⟩ | h
      · exact absurd e e1
      · exact h
    have hna : ¬ bs.length = a := by omega
    have hal : a ≤ bs.length := by omega
    have Hb := Lib.hid hb
    have Hcur := Lib.hid hcur
    have Hg := Lib.hid e3
    have Hc1 := Lib.hid hc1
    have Hk1 := Lib.hid hk1
    have Hc2 := Lib.hid hc2
    have Hfill := Lib.hid hfill
    have hsrc1 : BytesIn w (some ⟨g, a, none⟩) (bs.drop a) := e3.bytesIn a (bs.drop a) (fun i hi => by
      rw [List.length_drop] at hi
      exact ⟨by omega, by simp only [List.getD, List.getElem?_drop]⟩)
    have Hsrc1 := Lib.hid hsrc1
    have hfit1 : 0 + k1 ≤ cur.length := by omega
    have hfit2 : k1 + cs2.length ≤ (splice cur 0 cs1).length := by rw [length_splice cur 0 cs1 (by omega)]; omega
    have Hsl1 := Lib.hid (show (bs.drop a).length = bs.length - a from List.length_drop)
    clear hb hcur e3 hc1 hk1 hc2 hfill hcopy h4 hsrc1 e1
    go_enter Try.func45, Try.ntmps45
    go_wp2_with fail
    have hrl := Hb.out.lt
    go_region_held3 (fun w' => ∀ i, w'.cell? ⟨rb, i, none⟩ = (#[.slice (some ⟨g, 0, none⟩) bs.length bs.length, .int .i64 (a : Nat), .int .i64 (L.length : Nat), .int .i64 (most : Nat)] : Array Value)[i]?)
      (first | exact hc | exact hc2 | go_keep)
      ((refine step_copyB rfl (.tmp 5) (.tmp 14) rfl (some ⟨og, 0, none⟩) (some ⟨g, a, none⟩) m oc (bs.length - a) (bs.length - a) (bs.drop a) cs1 k1 Hsl1.out Hc1.out Hk1.out rfl rfl og 0 cur Hcur.out.drew (Hsrc1.out.drewN 1) (fun _ => rfl) hfit1 ?_; intro w2 hb2 ht2; have hc2 : ∀ i, w2.cell? ⟨rb, i, none⟩ = (#[.slice (some ⟨g, 0, none⟩) bs.length bs.length, .int .i64 (a : Nat), .int .i64 (L.length : Nat), .int .i64 (most : Nat)] : Array Value)[i]? := (fun i => (ht2.cell (x := ⟨rb, i, none⟩) hrl n1).trans (hc i))))
    have hsrc2 : BytesIn w2 (some ⟨g, 0, none⟩) bs := (ht2.blk Hg.out.drew n2).bytesIn 0 bs (fun i hi => by rw [Nat.zero_add]; exact ⟨hi, rfl⟩)
    have Hsrc2 := Lib.hid hsrc2
    have ht02 : Touch (fun k => k = og) w w2 := ((Touch.refl _ w).drew).trans ht2
    have Ht02 := Lib.hid ht02
    clear hsrc2 ht02 ht2
    by_cases hcap : oc = k1
    · subst hcap
      have hmk : m - oc = 0 := by omega
      have hc20 : bs.take 0 = cs2 := by rw [← hmk]; exact Hc2.out
      have Hc20 := Lib.hid hc20
      clear hmk hc20
      go_wp2_with fail
      go_region_held3 (fun w' => ∀ i, w'.cell? ⟨rb, i, none⟩ = (#[.slice (some ⟨g, 0, none⟩) bs.length bs.length, .int .i64 (a : Nat), .int .i64 (L.length : Nat), .int .i64 (most : Nat)] : Array Value)[i]?)
        (first | exact hc2 | exact hc3 | go_keep)
        ((refine step_copyB rfl (.tmp 18) (.tmp 22) rfl (some ⟨og, 0, none⟩) (some ⟨g, 0, none⟩) 0 0 bs.length bs.length bs cs2 cs2.length rfl Hc20.out rfl rfl rfl og oc (splice cur 0 cs1) hb2.out.drew (Hsrc2.out.drewN 1) (fun h0 => absurd h0 (by omega)) hfit2 ?_; intro w3 hb3 ht3; have hc3 : ∀ i, w3.cell? ⟨rb, i, none⟩ = (#[.slice (some ⟨g, 0, none⟩) bs.length bs.length, .int .i64 (a : Nat), .int .i64 (L.length : Nat), .int .i64 (most : Nat)] : Array Value)[i]? := (fun i => (ht3.cell (x := ⟨rb, i, none⟩) (by have := Ht02.out.size; show rb < w2.heap.size; omega) n1).trans (hc2 i))))
      go_end0
      refine ⟨rfl, ?_, Ht02.out.trans (((Touch.refl _ w2).drew).trans ht3)⟩
      have := hb3.out
      rw [← Hfill.out, Hk1.out]
      exact this
    · go_wp2_with fail
      go_region_held3 (fun w' => ∀ i, w'.cell? ⟨rb, i, none⟩ = (#[.slice (some ⟨g, 0, none⟩) bs.length bs.length, .int .i64 (a : Nat), .int .i64 (L.length : Nat), .int .i64 (most : Nat)] : Array Value)[i]?)
        (first | exact hc2 | exact hc3 | go_keep)
        ((refine step_copyB rfl (.tmp 18) (.tmp 22) rfl (some ⟨og, k1, none⟩) (some ⟨g, 0, none⟩) (m - k1) (oc - k1) bs.length bs.length bs cs2 cs2.length rfl Hc2.out rfl rfl rfl og k1 (splice cur 0 cs1) hb2.out.drew (Hsrc2.out.drewN 1) (fun _ => rfl) hfit2 ?_; intro w3 hb3 ht3; have hc3 : ∀ i, w3.cell? ⟨rb, i, none⟩ = (#[.slice (some ⟨g, 0, none⟩) bs.length bs.length, .int .i64 (a : Nat), .int .i64 (L.length : Nat), .int .i64 (most : Nat)] : Array Value)[i]? := (fun i => (ht3.cell (x := ⟨rb, i, none⟩) (by have := Ht02.out.size; show rb < w2.heap.size; omega) n1).trans (hc2 i))))
      go_end0
      refine ⟨rfl, ?_, Ht02.out.trans (((Touch.refl _ w2).drew).trans ht3)⟩
      have := hb3.out
      rw [← Hfill.out, Hk1.out]
      exact this

end Go.Proofs.Ythdafefhcdlkbaa
