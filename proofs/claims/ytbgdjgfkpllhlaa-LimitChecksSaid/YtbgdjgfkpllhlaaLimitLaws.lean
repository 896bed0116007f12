/-
  The walks of the statements of layer 35 (limit).
-/
import Derived.Test.YtbgdjgfkpllhlaaLimitE
import Derived.Deep.RegionHeld3
namespace Go.Proofs.Ytbgdjgfkpllhlaa
open Go.RowKit

structure ConfigL where
  servers : Int
  cache : Int
  table : Int
  message : Int
  buffer : Int
  queue : Int
  params : List PairL

def ConfigR (B : Nat) (w : World) (cs : List Value) (x : ConfigL) : Prop :=
  ∃ v, cs = [.int .i64 x.servers, .int .i64 x.cache, .int .i64 x.table, .int .i64 x.message, .int .i64 x.buffer, .int .i64 x.queue, v] ∧ SliceR 2 PairR B w [v] x.params

theorem opens_pair : Opens Try.prog 36 PairR := by
  intro H enc w base spare held fuel cs x h
  have S : StructOf Try.prog 36 _ := ⟨Try.underlying36, by kernel_rfl, by kernel_rfl⟩
  have hl := S.len h
  match cs, hl with
  | [c0, c1], _ =>
    obtain ⟨y0, e0, h0⟩ := S.field h 0 _ rfl c0 rfl (opens_str Try.underlying9)
    obtain ⟨y1, e1, h1⟩ := S.field h 1 _ rfl c1 rfl (opens_str Try.underlying9)
    simp only [List.cons.injEq, and_true] at e0 e1
    subst e0 e1
    exact ⟨⟨y0, y1⟩, rfl, h0, h1⟩

theorem opens_pairs : Opens Try.prog 32 (SliceR 2 PairR) := opens_slice Try.underlying32 (by kernel_rfl) (by omega) opens_pair

theorem opens_config : Opens Try.prog 34 ConfigR := by
  intro H enc w base spare held fuel cs x h
  have S : StructOf Try.prog 34 _ := ⟨Try.underlying34, by kernel_rfl, by kernel_rfl⟩
  have hl := S.len h
  match cs, hl with
  | [c0, c1, c2, c3, c4, c5, c6], _ =>
    obtain ⟨y0, e0, _⟩ := S.field h 0 _ rfl c0 rfl (opens_int Try.underlying3)
    obtain ⟨y1, e1, _⟩ := S.field h 1 _ rfl c1 rfl (opens_int Try.underlying3)
    obtain ⟨y2, e2, _⟩ := S.field h 2 _ rfl c2 rfl (opens_int Try.underlying3)
    obtain ⟨y3, e3, _⟩ := S.field h 3 _ rfl c3 rfl (opens_int Try.underlying3)
    obtain ⟨y4, e4, _⟩ := S.field h 4 _ rfl c4 rfl (opens_int Try.underlying3)
    obtain ⟨y5, e5, _⟩ := S.field h 5 _ rfl c5 rfl (opens_int Try.underlying3)
    obtain ⟨y6, h6⟩ := S.field h 6 _ rfl c6 rfl opens_pairs
    simp only [List.cons.injEq, and_true] at e0 e1 e2 e3 e4 e5
    subst e0 e1 e2 e3 e4 e5
    exact ⟨⟨y0, y1, y2, y3, y4, y5, y6⟩, c6, rfl, h6⟩

set_option maxHeartbeats 4000000 in
theorem limitChecks_walk (s c t m b q : Int) (p : Option Addr) (xs : List PairL) (cap : Nat) (w : World) (hx : SliceR 2 PairR w.heap.size w [.slice p xs.length cap] xs) :
    Calls Try.prog 5 #[.agg #[.int .i64 s, .int .i64 c, .int .i64 t, .int .i64 m, .int .i64 b, .int .i64 q, .slice p xs.length cap]] w fun e w' =>
      e = .returned (.bool true) ∧ Below w.heap.size w w' := by
  have Hx := Lib.hid hx
  clear hx
  have hbox : Below w.heap.size w (w.alloc (.cells #[.int .i64 s, .int .i64 c, .int .i64 t, .int .i64 m, .int .i64 b, .int .i64 q, .slice p xs.length cap] 34)) := (Below.refl _ _).alloc (Nat.le_refl _) _
  have Hbox := Lib.hid hbox
  clear hbox
  obtain ⟨p', c', h1, hlc, hcm, _⟩ := Hx.out
  simp only [List.cons.injEq, Value.slice.injEq, and_true] at h1
  obtain ⟨rfl, h9, rfl⟩ := h1
  clear h9
  unfold maxLen at hcm
  go_enter Try.func5, Try.ntmps5
  go_wp2_with fail
  generalize hw0 : w.alloc (.cells #[.int .i64 s, .int .i64 c, .int .i64 t, .int .i64 m, .int .i64 b, .int .i64 q, .slice p xs.length cap] 34) = w0
  have hbk : Blk w0 w.heap.size 34 #[.int .i64 s, .int .i64 c, .int .i64 t, .int .i64 m, .int .i64 b, .int .i64 q, .slice p xs.length cap] := by rw [← hw0]; exact Blk.new _ _ _
  have hs0 : w0.heap.size = w.heap.size + 1 := by rw [← hw0]; simp
  have hb0 : Below w.heap.size w w0 := by rw [← hw0]; exact Hbox.out
  have Hbk := Lib.hid hbk
  have Hb0 := Lib.hid hb0
  have hs0' : w.heap.size + 1 ≤ w0.heap.size := by omega
  clear hbk hb0 hw0 hs0 Hbox
  go_loopw [3, 4, 8] (fun _ _ i wr => ∃ k : Nat, k ≤ xs.length ∧ i = .int .i64 k ∧ Below (w.heap.size + 1) w0 wr) (fun _ _ i _ => xs.length - (intOf i).toNat)
  case atStart => exact ⟨0, Nat.zero_le _, rfl, Below.refl _ _⟩
  case round =>
    obtain ⟨k, hk, rfl, hbw⟩ := hrel
    have hsz := hbw.size
    have Hbw := Lib.hid hbw
    clear hbw
    by_cases hlt : k < xs.length
    · obtain ⟨p', c', h1, _, _, h4⟩ := SliceR.stays PairR.stays _ w wr _ _ Hx.out (Hb0.out.trans (Hbw.out.mono (by omega)))
      simp only [List.cons.injEq, Value.slice.injEq, and_true] at h1
      obtain ⟨rfl, h9, rfl⟩ := h1
      clear h9
      obtain ⟨b', o, es, rfl, hbB, hel, hcell, rfl, hn1, hv1⟩ := h4 k xs[k] (List.getElem?_eq_getElem hlt)
      have c0 := hcell 0 _ rfl
      have c1 := hcell 1 _ rfl
      rw [Nat.add_zero] at c0
      clear hcell h4 hel
      generalize xs[k] = x at c0 c1 hn1 hv1
      obtain ⟨xn, xv⟩ := x
      unfold maxLen at hn1 hv1
      go_wp2_with (first | (go_at_call 16; refine (limitAwake _).mono ?_; rintro e w2 ⟨rfl, hb2⟩))
      case roundEnd =>
        go_roundw
        case rel => exact ⟨k + 1, by omega, by go_num, Hbw.out.trans ((Below.refl _ _).alloc (by omega) _)⟩
        case measure => simp [intOf]; omega
      all_goals
        go_ret
        exact ⟨rfl, ((Hb0.out.trans (Hbw.out.mono (by omega))).trans ((Below.refl _ _).alloc (by omega) _)).trans (hb2.mono (by simp; omega))⟩
    · have hck := (Hbk.out.below Hbw.out (by omega)).cell
      have hbw0 := Hbw.out
      have hww : Below w.heap.size w wr := Hb0.out.trans (Hbw.out.mono (by omega))
      have eV : (checkV s c t m b q xs == checkV s c t m b q xs) = true := by simp
      have EV := Lib.hid eV
      have Hbw0 := Lib.hid hbw0
      have Hww := Lib.hid hww
      clear eV hbw0 hww
      go_wp2_with fail
      go_region_held3 (fun w' => (∀ i, w'.cell? ⟨w.heap.size, i, none⟩ = (#[.int .i64 s, .int .i64 c, .int .i64 t, .int .i64 m, .int .i64 b, .int .i64 q, .slice p xs.length cap] : Array Value)[i]?) ∧ Below (w.heap.size + 1) w0 w')
        (first | exact ⟨hck, Hbw0.out.drew⟩ | exact ⟨fun i => (hb2.cell (p := ⟨w.heap.size, i, none⟩) (by have := hS.2.size; show w.heap.size < _; omega)).trans (hS.1 i), hS.2.trans (hb2.mono (by have := hS.2.size; omega))⟩ | go_keep)
        (first
          | (go_at_call 17; have hS := ‹_ ∧ Below (w.heap.size + 1) w0 _›; refine (check_any s c t m b q p xs cap _ w.heap.size (by have := hS.2.size; omega) (SliceR.stays PairR.stays _ _ _ _ _ Hx.out (Hb0.out.trans (hS.2.mono (by omega))))).mono ?_; rintro e w2 ⟨rfl, hb2⟩)
          | (go_at_call 18; have hS := ‹_ ∧ Below (w.heap.size + 1) w0 _›; refine (checkR_any s c t m b q p xs cap _ w.heap.size (by have := hS.2.size; omega) (SliceR.stays PairR.stays _ _ _ _ _ Hx.out (Hb0.out.trans (hS.2.mono (by omega))))).mono ?_; rintro e w2 ⟨rfl, hb2⟩)
          | (go_at_call 16; have hS := ‹_ ∧ Below (w.heap.size + 1) w0 _›; refine (limitAwake _).mono ?_; rintro e w2 ⟨rfl, hb2⟩))
      go_wp2
      go_ret
      refine ⟨rfl, Hb0.out.trans (Below.mono (B := w.heap.size + 1) ?_ (by omega))⟩
      exact And.right (by assumption)

set_option maxHeartbeats 4000000 in
theorem limitBase_walk (s : ByteArray) (w : World) :
    Calls Try.prog 6 #[.string s] w fun e w' => e = .returned (.bool true) ∧ Below w.heap.size w w' := by
  go_enter Try.func6, Try.ntmps6
  go_wp2_with fail
  refine (base_any _).mono ?_
  rintro e w1 ⟨g, rfl, hg, hblk, hb1⟩
  have hs1 := hb1.size
  have hgl := Blk.lt hblk
  have hpf := Blk.frozen hblk 0
  have hpc := Blk.cell hblk
  have Hb1 := Lib.hid hb1
  clear hblk hb1
  go_wp2_with fail
  refine (base_any _).mono ?_
  rintro e w2 ⟨g2, rfl, hg2, hblk2, hb2⟩
  have hbA : Below w.heap.size w ((w1.setCell ⟨g, 0, none⟩ (.string s)).alloc (.cells #[.int .i64 2, .int .i64 4, .int .i64 8, .int .i64 4096, .int .i64 8192, .int .i64 32, .slice (some ⟨g, 0, none⟩) 1 1] 34)) :=
    (Hb1.out.setCell (p := ⟨g, 0, none⟩) hg _).alloc (by simp [World.setCell]; exact hs1) _
  simp only [World.size_alloc, World.setCell, Array.size_modify] at hg2
  have hs2 := hb2.size
  simp only [World.size_alloc, World.setCell, Array.size_modify] at hs2
  have hbB := hbA.trans (hb2.mono (by simp [World.setCell]; omega))
  have Hblk2 := Lib.hid hblk2
  have HbB := Lib.hid hbB
  clear hblk2 hb2 hbA hbB hpf hpc Hb1
  go_wp2_with fail
  refine (baseR_any _).mono ?_
  rintro e w3 ⟨g3, rfl, hg3, hblk3, hb3⟩
  have hs3 := hb3.size
  have hl2 := Blk.lt Hblk2.out
  have hl3 := Blk.lt hblk3
  have hbC := HbB.out.trans (hb3.mono (by omega))
  have HbC := Lib.hid hbC
  have hblk2' := Blk.below Hblk2.out hb3 hl2
  have Hblk2' := Lib.hid hblk2'
  have Hblk3 := Lib.hid hblk3
  clear hblk3 hblk2' hb3 hbC HbB Hblk2
  go_wp2_with fail
  generalize hW : (w3.alloc (.cells #[.int .i64 2, .int .i64 4, .int .i64 8, .int .i64 4096, .int .i64 8192, .int .i64 32, .slice (some ⟨g2, 0, none⟩) 1 1] 34)).alloc (.cells #[.int .i64 2, .int .i64 4, .int .i64 8, .int .i64 4096, .int .i64 8192, .int .i64 32, .slice (some ⟨g3, 0, none⟩) 1 1] 34) = W
  have hx4 : ∀ i, W.cell? ⟨w3.heap.size, i, none⟩ = (#[.int .i64 2, .int .i64 4, .int .i64 8, .int .i64 4096, .int .i64 8192, .int .i64 32, .slice (some ⟨g2, 0, none⟩) 1 1] : Array Value)[i]? := fun i => by rw [← hW]; exact Blk.cell ((Blk.new w3 _ _).alloc _) i
  have hx5 : ∀ i, W.cell? ⟨w3.heap.size + 1, i, none⟩ = (#[.int .i64 2, .int .i64 4, .int .i64 8, .int .i64 4096, .int .i64 8192, .int .i64 32, .slice (some ⟨g3, 0, none⟩) 1 1] : Array Value)[i]? := fun i => by
    rw [← hW]
    have h := Blk.cell (Blk.new (w3.alloc (.cells #[.int .i64 2, .int .i64 4, .int .i64 8, .int .i64 4096, .int .i64 8192, .int .i64 32, .slice (some ⟨g2, 0, none⟩) 1 1] 34)) 34 #[.int .i64 2, .int .i64 4, .int .i64 8, .int .i64 4096, .int .i64 8192, .int .i64 32, .slice (some ⟨g3, 0, none⟩) 1 1]) i
    rw [World.size_alloc] at h
    exact h
  have hp2 : ∀ i, W.cell? ⟨g2, i, none⟩ = (#[.string svName, .string svValue] : Array Value)[i]? := fun i => by rw [← hW]; exact Blk.cell ((Blk.alloc Hblk2'.out _).alloc _) i
  have hp3 : ∀ i, W.cell? ⟨g3, i, none⟩ = (#[.string svName, .string svValue] : Array Value)[i]? := fun i => by rw [← hW]; exact Blk.cell ((Blk.alloc Hblk3.out _).alloc _) i
  have hsr : SliceR 2 PairR (g2 + 1) W [.slice (some ⟨g2, 0, none⟩) 1 1] [⟨svName, svValue⟩] := by rw [← hW]; exact pair_blk ((Blk.alloc Hblk2'.out _).alloc _) (by decide) (by decide)
  have hbD : Below w.heap.size w W := by rw [← hW]; exact (HbC.out.alloc (by omega) _).alloc (by simp; omega) _
  have hsW : w3.heap.size + 2 = W.heap.size := by rw [← hW]; simp
  have hsW' : w3.heap.size + 2 ≤ W.heap.size := by omega
  have Hsr := Lib.hid hsr
  have HbD := Lib.hid hbD
  clear hW hsr hbD hsW HbC
  go_region_held3 (fun w' => (∀ i, w'.cell? ⟨w3.heap.size, i, none⟩ = (#[.int .i64 2, .int .i64 4, .int .i64 8, .int .i64 4096, .int .i64 8192, .int .i64 32, .slice (some ⟨g2, 0, none⟩) 1 1] : Array Value)[i]?) ∧ (∀ i, w'.cell? ⟨w3.heap.size + 1, i, none⟩ = (#[.int .i64 2, .int .i64 4, .int .i64 8, .int .i64 4096, .int .i64 8192, .int .i64 32, .slice (some ⟨g3, 0, none⟩) 1 1] : Array Value)[i]?) ∧
      (∀ i, w'.cell? ⟨g2, i, none⟩ = (#[.string svName, .string svValue] : Array Value)[i]?) ∧ (∀ i, w'.cell? ⟨g3, i, none⟩ = (#[.string svName, .string svValue] : Array Value)[i]?) ∧ Below W.heap.size W w')
    (first | exact ⟨hx4, hx5, hp2, hp3, (Below.refl _ _).drew⟩ | exact ⟨fun i => (hb4.cell (p := ⟨w3.heap.size, i, none⟩) (by have := hS.2.2.2.2.size; show w3.heap.size < _; omega)).trans (hS.1 i), fun i => (hb4.cell (p := ⟨w3.heap.size + 1, i, none⟩) (by have := hS.2.2.2.2.size; show w3.heap.size + 1 < _; omega)).trans (hS.2.1 i), fun i => (hb4.cell (p := ⟨g2, i, none⟩) (by have := hS.2.2.2.2.size; show g2 < _; omega)).trans (hS.2.2.1 i), fun i => (hb4.cell (p := ⟨g3, i, none⟩) (by have := hS.2.2.2.2.size; show g3 < _; omega)).trans (hS.2.2.2.1 i), hS.2.2.2.2.trans (hb4.mono hS.2.2.2.2.size)⟩ | go_keep)
    (first
      | (go_at_call 17; have hS := ‹_ ∧ _ ∧ _ ∧ _ ∧ Below W.heap.size W _›; refine (check_any 2 4 8 4096 8192 32 (some ⟨g2, 0, none⟩) [⟨svName, svValue⟩] 1 _ (g2 + 1) (by have := hS.2.2.2.2.size; omega) (SliceR.stays PairR.stays _ _ _ _ _ Hsr.out (hS.2.2.2.2.mono (by omega)))).mono ?_; rintro e w4 ⟨rfl, hb4⟩; rw [checkV_base]))
  obtain ⟨k4, k5, _, _, hbW⟩ := (show _ ∧ _ ∧ _ ∧ _ ∧ Below W.heap.size W w4 by assumption)
  have hbE := HbD.out.trans (hbW.mono (by omega))
  have HbE := Lib.hid hbE
  clear hbW hbE
  go_wp2_with (first | (go_at_call 16; refine (limitAwake _).mono ?_; rintro e w5 ⟨rfl, hb5⟩))
  go_ret
  exact ⟨rfl, HbE.out.trans (hb5.mono HbE.out.size)⟩

theorem limitChecks_read (cs : Array Value) (x : ConfigL) (w : World) (h : ConfigR w.heap.size w cs.toList x) :
    Calls Try.prog 5 #[.agg cs] w fun e w' => e = .returned (.bool true) ∧ Below w.heap.size w w' := by
  obtain ⟨v, hcs, hr⟩ := h
  obtain ⟨p, c, hv, _⟩ := id hr
  simp only [List.cons.injEq, and_true] at hv
  subst hv
  obtain ⟨l⟩ := cs
  simp only at hcs
  subst hcs
  exact limitChecks_walk _ _ _ _ _ _ p x.params c w hr

end Go.Proofs.Ytbgdjgfkpllhlaa
