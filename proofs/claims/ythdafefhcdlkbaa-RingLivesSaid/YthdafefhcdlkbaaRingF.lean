/-
  The ordinary ring of the statements (layer 36): awake.
-/
import Derived.Test.YthdafefhcdlkbaaRingE
import Derived.Lib.SlBytesConst
import Derived.Laws.BytesArg
namespace Go.Proofs.Ythdafefhcdlkbaa
open Go.RowKit

theorem BytesIn.newM (w : World) (l : List UInt8) (cs : Array Value) (e : TypeId) (fr : Nat × Nat) (h : cs.toList = bytesV l) : BytesIn (w.alloc (.cells cs e fr)) (some ⟨w.heap.size, 0, none⟩) l := by
  intro i hi
  refine ⟨_, _, rfl, ?_⟩
  rw [Nat.zero_add]
  show (w.alloc (.cells cs e fr)).cell? ⟨w.heap.size, i, none⟩ = _
  have : cs[i]? = some (byteV (l.getD i 0)) := by
    rw [← Array.getElem?_toList, h]
    simp [bytesV, List.getD, hi]
  have hb : (w.alloc (.cells cs e fr)).heap[w.heap.size]? = some (.cells cs e fr) := by
    show (w.heap.push (.cells cs e fr))[w.heap.size]? = _
    exact Array.getElem?_push_size
  simp only [World.cell?, hb]
  simpa [byteV] using this

theorem lit3a : (#[.int .u8 97, .int .u8 98, .int .u8 99] : Array Value).toList = bytesV [97, 98, 99] := by simp [bytesV, byteV]
theorem lit3b : (#[.int .u8 100, .int .u8 101, .int .u8 102] : Array Value).toList = bytesV [100, 101, 102] := by simp [bytesV, byteV]

theorem conv_string (w : World) (g c : Nat) (l : List UInt8) (h : Blk w g 5 (cellsB l)) :
    (convert 22 9 (.slice (some ⟨g, 0, none⟩) l.length c)).run Try.prog w = .ok (.string ⟨l.toArray⟩) w := by
  have := run_convert_bytes_arg (P := Try.prog) w 22 5 Try.underlying22 Try.underlying5 g 0 l.length c (l.map fun b => (b.toNat : Int)) (by simp) (fun i hi => by
    rw [h.cell, Nat.zero_add, cellsB_get _ _ hi]
    simp [List.getD, hi]) 9 Try.underlying9
  rw [this]
  have e : (l.map fun b => (b.toNat : Int)).map (fun n => UInt8.ofNat n.toNat) = l := by simp [List.map_map, Function.comp_def]
  simp only [strOfNums, e]

set_option maxRecDepth 100000 in
set_option maxHeartbeats 1000000 in
theorem awake_yes (w : World) :
    Calls Try.prog 15 #[] w fun e w' => e = .returned (.bool true) ∧ Touch (fun _ => False) w w' := by
  have kc := fun (w : World) (C : Array Value) (n c : Nat) => Lib.run_convert_bytes_const (P := Try.prog) w 22 5 C n c Try.underlying22 Try.underlying5
  go_enter Try.func15, Try.ntmps15
  go_wp2_with fail
  refine (ringNew_yes 4 w (by omega) (by omega)).mono ?_
  rintro e w1 ⟨rfl, h1, ht1⟩
  have H1 := Lib.hid h1
  have Ht1 := Lib.hid ht1
  have hs1 := h1.lt
  have hsw : w.heap.size ≤ w1.heap.size := ht1.size
  generalize hB : w.heap.size = rb at *
  have HB := Lib.hid hB
  clear h1 ht1 hB
  go_wp2_with fail
  refine (put_ok rb rb [] 4 (some ⟨w1.heap.size, 0, none⟩) [97, 98, 99] 3 _ (H1.out.touch ((Touch.refl (fun _ => False) w1).alloc _) (by simp) (by simp)) (by decide) (by decide) (by simp [maxLen]) (BytesIn.newM w1 [97, 98, 99] _ _ _ lit3a) (fun _ x hx => by cases hx; exact ⟨by show w1.heap.size ≠ rb; omega, by show w1.heap.size ≠ rb; omega⟩)).mono ?_
  rintro e w2 ⟨rfl, g2, h2, hg2, ht2⟩
  have Ht2 := Lib.hid (((Touch.refl (fun i => i = rb) w1).alloc _).then ht2 (fun i hi e => by rcases e with e | e <;> exact e))
  have H2 := Lib.hid h2
  have hg2' : rb ≤ g2 := by simp at hg2; omega
  have hs2 : rb ≤ w2.heap.size := by have := Ht2.out.size; omega
  clear h2 hg2 ht2
  go_wp2_with fail
  refine (take_some rb g2 [97, 98, 99] 4 2 2 w2 H2.out (by decide) (by decide) (.inl rfl)).mono ?_
  rintro e w3 ⟨rfl, hb3, h3, ht3⟩
  have hk3 : (convert 22 9 (.slice (some ⟨w2.heap.size, 0, none⟩) 2 2)).run Try.prog w3 = .ok (.string ⟨#[97, 98]⟩) w3 := conv_string w3 w2.heap.size 2 [97, 98] hb3
  have H3 : Hid (RingO w3 rb g2 [99] 4) := Lib.hid h3
  have Ht3 := Lib.hid ht3
  have hs3 : w2.heap.size ≤ w3.heap.size := ht3.size
  have hlt3 := h3.lt
  have hltg3 := h3.ltg
  clear h3 ht3 hb3
  go_wp2_with fail
  refine (put_ok rb g2 [99] 4 (some ⟨w3.heap.size, 0, none⟩) [100, 101, 102] 3 _ (H3.out.touch ((Touch.refl (fun _ => False) w3).alloc _) (by simp) (by simp)) (by decide) (by decide) (by simp [maxLen]) (BytesIn.newM w3 [100, 101, 102] _ _ _ lit3b) (fun _ x hx => by cases hx; exact ⟨by show w3.heap.size ≠ rb; omega, by show w3.heap.size ≠ g2; omega⟩)).mono ?_
  rintro e w4 ⟨rfl, g4, h4, hg4, ht4⟩
  have Ht4 := Lib.hid (((Touch.refl (fun i => i = rb ∨ i = g2) w3).alloc _).then ht4 (fun i hi e => e))
  have H4 : Hid (RingO w4 rb g4 [99, 100, 101, 102] 4) := Lib.hid h4
  have hg4' : rb ≤ g4 := by simp at hg4; omega
  have hs4 := Ht4.out.size
  have hlt4 := h4.lt
  have hltg4 := h4.ltg
  clear h4 hg4 ht4
  go_wp2_with fail
  refine (put_full rb g4 [99, 100, 101, 102] 4 (some ⟨w4.heap.size, 0, none⟩) [103] 1 _ (H4.out.touch ((Touch.refl (fun _ => False) w4).alloc _) (by simp) (by simp)) (by decide) (by simp [maxLen])).mono ?_
  rintro e w5 ⟨rfl, ht5⟩
  have Ht5 := Lib.hid (((Touch.refl (fun _ => False) w4).alloc _).then ht5 (fun i hi e => e))
  have H5 := Lib.hid (H4.out.touch Ht5.out (by simp) (by simp))
  have hs5 := Ht5.out.size
  clear ht5
  go_wp2_with fail
  refine (ringLen_any rb g4 [99, 100, 101, 102] 4 w5 H5.out).mono ?_
  rintro e w6 ⟨rfl, rfl⟩
  go_wp2
  go_ret
  refine ⟨rfl, (((Ht1.out.then Ht2.out ?_).then Ht3.out ?_).then Ht4.out ?_).then Ht5.out ?_⟩
  all_goals
    intro i hi e
    have h1 := HB.out
    first
      | exact e
      | (exfalso; rcases e with e | e <;> omega)
      | (exfalso; subst e; omega)

end Go.Proofs.Ythdafefhcdlkbaa
