/-
  The contract of the document's 'one' (layer 42).
-/
import Derived.Test.YtpdkoijgemgaiaaEvC
namespace Go.Proofs.Ytpdkoijgemgaiaa
open Go.RowKit

def NoOne (w : World) (e : Ending) (w' : World) : Prop := Below w.heap.size w w' ∧ ∃ a b d q m f z, e = .returned (.tuple #[.agg #[.int .i64 a, .int .i64 b, .int .i64 d, .slice q m f], .int .i64 z, .bool false])

theorem below_drewL {B : Nat} {w w' : World} (h : Below B w.drew w') (hB : B ≤ w.heap.size) : Below B w w' := (below_drewOn (Below.refl B w) hB).trans h

theorem rowOf_none (n c : Nat) : rowOf (.slice none n c) = none := rfl

set_option maxHeartbeats 1000000 in
theorem one_short (p : Option Addr) (n c : Nat) (w : World) (h8 : n < 8) :
    Calls Try.prog 89 #[.slice p n c] w fun e w' => NoOne w e w' := by
  go_enter Try.func89, Try.ntmps89
  go_wp2
  exact bodyPost_ret (v := .tuple #[.agg #[.int .i64 0, .int .i64 0, .int .i64 0, .slice none 0 0], .int .i64 0, .bool false]) (by simp [results, Try.results89, go_sem]) rfl ⟨(Below.refl _ _).alloc (Nat.le_refl _) _, _, _, _, _, _, _, _, rfl⟩

set_option maxHeartbeats 1000000 in
theorem one_long (a : Addr) (l : List UInt8) (c : Nat) (n s : Int) (w : World) (hin : BytesIn w (some a) l) (h8 : 8 ≤ l.length) (hlc : l.length ≤ c) (hcm : c ≤ maxLen) (hg1 : getV l 2 4 = (n, 0)) (hg2 : getV l 6 2 = (s, 0)) (hs : (l.length : Int) < s + 8) :
    Calls Try.prog 89 #[.slice (some a) l.length c] w fun e w' => NoOne w e w' := by
  have Hg1 := Lib.hid hg1
  have Hg2 := Lib.hid hg2
  have Hin1 := Lib.hid (hin.alloc (.cells #[.int .i64 0, .int .i64 0, .int .i64 0, .slice none 0 0] 85))
  have Hcm := Lib.hid hcm
  unfold maxLen at hcm
  have hs1 : (l.length : Int) - 8 < s := by omega
  clear hg1 hg2 hin
  go_enter Try.func89, Try.ntmps89
  go_wp2_with fail
  refine (getR_any _ l _ 2 4 _ hlc Hcm.out Hin1.out).mono ?_
  rintro e w1 ⟨rfl, rfl⟩
  rw [Hg1.out]
  go_wp2_with fail
  refine (getR_any _ l _ 6 2 _ hlc Hcm.out Hin1.out).mono ?_
  rintro e w1 ⟨rfl, rfl⟩
  rw [Hg2.out]
  go_wp2
  exact bodyPost_ret (v := .tuple #[.agg #[.int .i64 0, .int .i64 0, .int .i64 0, .slice none 0 0], .int .i64 0, .bool false]) (by simp [results, Try.results89, go_sem]) rfl ⟨(Below.refl _ _).alloc (Nat.le_refl _) _, _, _, _, _, _, _, _, rfl⟩

/-- The answer of 'one' where there are so many bytes. -/
def SomeOne (w : World) (k o n z : Int) (B : List UInt8) (e : Ending) (w' : World) : Prop :=
  Below w.heap.size w w' ∧ ∃ q f, e = .returned (.tuple #[evArg ⟨k, o, n, B⟩ q f, .int .i64 z, .bool (evOk k o n B.length)]) ∧ BytesS (fun k => w.heap.size ≤ k) w' [.slice q B.length f] B

theorem someOne_end {k ow n z : Int} {B : List UInt8} {w w3 : World} {p : Option Addr} {d : Nat}
    (hB : BytesS (fun k => w.heap.size < k) w3 [.slice p B.length d] B) (hb : Below w.heap.size w w3) (u0 u1 u2 u3 : Value) :
    SomeOne w k ow n z B (.returned (.tuple #[.agg #[.int .i64 k, .int .i64 ow, .int .i64 n, .slice p B.length d], .int .i64 z, .bool (evOk k ow n B.length)]))
      ((((w3.setCell ⟨w.heap.size, 0, none⟩ u0).setCell ⟨w.heap.size, 1, none⟩ u1).setCell ⟨w.heap.size, 2, none⟩ u2).setCell ⟨w.heap.size, 3, none⟩ u3) := by
  have hT : Touch (fun k => k = w.heap.size) w3 ((((w3.setCell ⟨w.heap.size, 0, none⟩ u0).setCell ⟨w.heap.size, 1, none⟩ u1).setCell ⟨w.heap.size, 2, none⟩ u2).setCell ⟨w.heap.size, 3, none⟩ u3) :=
    ((((Touch.refl (fun k => k = w.heap.size) w3).setCell (x := ⟨w.heap.size, 0, none⟩) (fun _ => rfl) _).setCell (x := ⟨w.heap.size, 1, none⟩) (fun _ => rfl) _).setCell (x := ⟨w.heap.size, 2, none⟩) (fun _ => rfl) _).setCell (x := ⟨w.heap.size, 3, none⟩) (fun _ => rfl) _
  exact ⟨hb.trans (hT.below hb.size (fun k hk => by omega)), p, d, rfl, BytesS.still _ _ _ _ _ _ hB (Kept.touch hT (fun k _ hs => ⟨by omega, by omega⟩))⟩

set_option maxRecDepth 100000 in
set_option maxHeartbeats 10000000 in
theorem one_ok (b o : Nat) (l : List UInt8) (c : Nat) (n : Int) (m : Nat) (x0 x1 : Nat) (B : List UInt8) (w : World) (hin : BytesIn w (some ⟨b, o, none⟩) l) (h8 : 8 ≤ l.length) (hlc : l.length ≤ c) (hcm : c ≤ maxLen)
    (hg1 : getV l 2 4 = (n, 0)) (hg2 : getV l 6 2 = ((m : Int), 0)) (hm : m + 8 ≤ l.length) (hl : l.length ≤ 1000000000)
    (hc0 : w.cell? ⟨b, o, none⟩ = some (.int .u8 (x0 : Nat))) (hc1 : w.cell? ⟨b, o + 1, none⟩ = some (.int .u8 (x1 : Nat))) (hx0 : (x0 : Int) < 256) (hx1 : (x1 : Int) < 256)
    (hB : B = (l.drop 8).take m) :
    Calls Try.prog 89 #[.slice (some ⟨b, o, none⟩) l.length c] w fun e w' => SomeOne w x0 x1 n (8 + (m : Int)) B e w' := by
  have Hg1 := Lib.hid hg1
  have Hg2 := Lib.hid hg2
  have Hin1 := Lib.hid (hin.alloc (.cells #[.int .i64 0, .int .i64 0, .int .i64 0, .slice none 0 0] 85))
  have Hcm := Lib.hid hcm
  have hb : b < w.heap.size := World.block_lt_of_cell? w _ hc0
  have hBl : B.length = m := by rw [hB, List.length_take, List.length_drop]; omega
  have HBl := Lib.hid hBl
  have Hrm : Hid (([] : List UInt8).length + B.length ≤ 140737488355328) := Lib.hid (by rw [hBl]; simp; omega)
  have HB := Lib.hid hB
  have Hin0 := Lib.hid hin
  unfold maxLen at hcm
  clear hg1 hg2 hin hBl hB
  by_cases hc8 : c = 8
  · subst hc8
    obtain rfl : m = 0 := by omega
    have hB0 : B = [] := List.eq_nil_of_length_eq_zero HBl.out
    have HinB : Hid (∀ w, BytesIn w (some ⟨b, o, none⟩) l → BytesIn w (some ⟨b, o, none⟩) B) := Lib.hid (fun w _ => by rw [hB0]; exact BytesIn.nil _ _)
    clear hB0
    go_enter Try.func89, Try.ntmps89
    go_wp2_with fail
    have hlt1 : w.heap.size < (w.alloc (.cells #[.int .i64 0, .int .i64 0, .int .i64 0, .slice none 0 0] 85)).heap.size := by simp
    have Hb1 := Lib.hid ((Below.refl w.heap.size w).alloc (Nat.le_refl _) (.cells #[.int .i64 0, .int .i64 0, .int .i64 0, .slice none 0 0] 85))
    have Hg := Lib.hid (Blk.new w 85 #[.int .i64 0, .int .i64 0, .int .i64 0, .slice none 0 0])
    generalize w.alloc (.cells #[.int .i64 0, .int .i64 0, .int .i64 0, .slice none 0 0] 85) = w1 at *
    refine (getR_any _ l _ 2 4 _ hlc Hcm.out Hin1.out).mono ?_
    rintro e w1' ⟨rfl, rfl⟩
    rw [Hg1.out]
    go_wp2_with fail
    refine (getR_any _ l _ 6 2 _ hlc Hcm.out Hin1.out).mono ?_
    rintro e w1' ⟨rfl, rfl⟩
    rw [Hg2.out]
    have hA : w1.cell? ⟨b, o, none⟩ = some (.int .u8 (x0 : Nat)) ∧ w1.cell? ⟨b, o + 1, none⟩ = some (.int .u8 (x1 : Nat)) := ⟨(Hb1.out.cell (p := ⟨b, o, none⟩) hb).trans hc0, (Hb1.out.cell (p := ⟨b, o + 1, none⟩) hb).trans hc1⟩
    have hbs1 : b < w1.heap.size := by omega
    have hi0 : 0 < l.length := by omega
    have hne : ¬ b = w1.heap.size := by omega
    have hne' : ¬ w1.heap.size = b := by omega
    have hnw := World.new_ne w1 ⟨b, o, none⟩ hA.1
    have hnw1 := World.new_ne w1 ⟨b, o + 1, none⟩ hA.2
    have hi1 : (1 : Int) < (l.length : Int) := by omega
    have hw0 : IntKind.i64.wrap (x0 : Int) = (x0 : Int) := by rw [IntKind.wrap_i64]; omega
    have hw1 : IntKind.i64.wrap (x1 : Int) = (x1 : Int) := by rw [IntKind.wrap_i64]; omega
    have Hg1b := Lib.hid (Hg.out.alloc (.cells #[.int .i64 0, .int .i64 0, .int .i64 0, .slice none 0 0] 85))
    have Hin1b := Lib.hid (Hin1.out.alloc (.cells #[.int .i64 0, .int .i64 0, .int .i64 0, .slice none 0 0] 85))
    have Hv1b := Lib.hid (Blk.new w1 85 #[.int .i64 0, .int .i64 0, .int .i64 0, .slice none 0 0])
    have hle1b : w1.heap.size + 1 ≤ (w1.alloc (.cells #[.int .i64 0, .int .i64 0, .int .i64 0, .slice none 0 0] 85)).heap.size := by simp
    have hws8 : IntKind.i64.wrap 8 = 8 := by rw [IntKind.wrap_i64]; rfl
    go_upto_region 7 with (fail)
    go_cut [9] (fun s10 wx => Cut8 w wx s10 x0 x1 n B)
    case first =>
      go_region_held3 (fun w' => w'.cell? ⟨b, o, none⟩ = some (.int .u8 (x0 : Nat)) ∧ w'.cell? ⟨b, o + 1, none⟩ = some (.int .u8 (x1 : Nat)))
        (first | exact hA | exact hB | go_keep)
        (first
          | (refine rgn_appendBR rfl (.const (.slice none 0 0)) (.tmp 42) rfl (w1.heap.size + 1) (.slice none 0 0) [] rfl (OwnBR.empty _ _ _) (some ⟨b, o, none⟩) B 0 0 HBl.out rfl ((HinB.out _ Hin1b.out).drewN 1) Hrm.out hle1b ?_; intro v2 w2 ho2 hg2 _; have Ho2' : Hid (OwnBR (w1.heap.size + 1) w2 v2 B) := Lib.hid ho2; obtain ⟨p2, c2, rfl, _⟩ := Ho2'.out.slice; have Ho2 := Ho2'; have hb2 := below_drewL (w := w1.alloc (.cells #[.int .i64 0, .int .i64 0, .int .i64 0, .slice none 0 0] 85)) (Below.of_row hg2 hle1b (fun k hk => by rw [rowOf_none] at hk; cases hk)) hle1b; have Hb12 := Lib.hid hb2; have hs2 : w1.heap.size + 1 ≤ w2.heap.size := Nat.le_trans hle1b hb2.size; have Hv2 := Lib.hid (Hv1b.out.below Hb12.out (Nat.lt_succ_self _)); have hcv := Hv2.out.cell; have hf0 := Hv2.out.frozen 0; have hf1 := Hv2.out.frozen 1; have hf2 := Hv2.out.frozen 2; have hf3 := Hv2.out.frozen 3; have hB : w2.cell? ⟨b, o, none⟩ = some (.int .u8 (x0 : Nat)) ∧ w2.cell? ⟨b, o + 1, none⟩ = some (.int .u8 (x1 : Nat)) := (by have hbs2 : b < w1.heap.size + 1 := (by omega); exact ⟨(Hb12.out.cell (p := ⟨b, o, none⟩) hbs2).trans ((World.cell?_of_block (Below.heap_alloc w1 _ b hbs1)).trans hA.1), (Hb12.out.cell (p := ⟨b, o + 1, none⟩) hbs2).trans ((World.cell?_of_block (Below.heap_alloc w1 _ b hbs1)).trans hA.2)⟩); clear ho2 hb2 hg2)
          | (refine rgn_appendBR rfl (.const (.slice none 0 0)) (.tmp 42) rfl w1.heap.size (.slice none 0 0) [] rfl (OwnBR.empty _ _ _) (some ⟨b, o, none⟩) B 0 0 HBl.out rfl ((HinB.out _ Hin1.out).drewN 1) Hrm.out (Nat.le_refl _) ?_; intro v2 w2 ho2 hg2 _; have Ho2' : Hid (OwnBR w1.heap.size w2 v2 B) := Lib.hid ho2; obtain ⟨p2, c2, rfl, _⟩ := Ho2'.out.slice; have Ho2 := Ho2'; have hb2 := below_drewL (w := w1) (Below.of_row hg2 (Nat.le_refl _) (fun k hk => by rw [rowOf_none] at hk; cases hk)) (Nat.le_refl _); have Hb12 : Hid (Below w1.heap.size w1 w2) := Lib.hid hb2; have hs2 : w1.heap.size ≤ w2.heap.size := hb2.size; have hB : w2.cell? ⟨b, o, none⟩ = some (.int .u8 (x0 : Nat)) ∧ w2.cell? ⟨b, o + 1, none⟩ = some (.int .u8 (x1 : Nat)) := ⟨(hb2.cell (p := ⟨b, o, none⟩) hbs1).trans hA.1, (hb2.cell (p := ⟨b, o + 1, none⟩) hbs1).trans hA.2⟩; clear ho2 hb2 hg2))
      · go_wp2_with fail
        go_meet
        exact cut8_new Hb1.out hlt1 Hg.out Ho2.out Hb12.out
      · go_wp2_with fail
        go_meet
        exact cut8_set Hb1.out hlt1 Hg.out Ho2.out Hb12.out
    case rest =>
      obtain ⟨g, p2, c2, rfl, hv, hB, hb2, hr, hgl⟩ := hcut
      have hvc := hv.cell
      have Hv := Lib.hid hv
      have HBS := Lib.hid hB
      have Hb2 := Lib.hid hb2
      have Hr := Lib.hid hr
      have hgs := hv.lt
      have hne2 : ¬ g = w.heap.size := by omega
      have hne3 : ¬ w.heap.size = g := by omega
      clear hA hv hB hb2 hr Hg1b Hin1b Hv1b hnw hnw1 hne hne' hi0 hi1 hw0 hw1 HinB Hg1 Hg2 hc0 hc1
      go_wp2_with fail
      go_region_held3 (fun w' => ∀ i, w'.cell? ⟨g, i, none⟩ = (#[.int .i64 (x0 : Nat), .int .i64 (x1 : Nat), .int .i64 n, .slice p2 B.length c2] : Array Value)[i]?)
        (first | exact hvc | exact hvc3 | go_keep)
        ((go_at_call 57; refine (evCheckR_any _ _ _ _ _ _ _).mono ?_; rintro e w3 ⟨rfl, hb3⟩; have hb13 := below_ofDrew hb3; have Hr3 := Lib.hid (Hr.out.below hb13 (by omega)); have Hv3 := Lib.hid (Hv.out.below hb13 hgs); have hvc3 := Hv3.out.cell; have hrc3 := Hr3.out.cell; have hrf0 := Hr3.out.frozen 0; have hrf1 := Hr3.out.frozen 1; have hrf2 := Hr3.out.frozen 2; have hrf3 := Hr3.out.frozen 3; have HBS3 := Lib.hid (HBS.out.below hb13); have Hb3 := Lib.hid (Hb2.out.trans (hb13.mono Hb2.out.size)); clear hb3 hb13 hvc))
      go_wp2
      exact bodyPost_ret (v := .tuple #[.agg #[.int .i64 (x0 : Nat), .int .i64 (x1 : Nat), .int .i64 n, .slice p2 B.length c2], .int .i64 8, .bool (evOk (x0 : Nat) (x1 : Nat) n B.length)])
        (by simp [results, Try.results89, go_sem, hrc3]) rfl (someOne_end HBS3.out Hb3.out _ _ _ _)
  · have HinB : Hid (∀ w, BytesIn w (some ⟨b, o, none⟩) l → BytesIn w (some ⟨b, o + 8, none⟩) B) := Lib.hid (fun w hin => by rw [HB.out]; exact (hin.drop 8).take m)
    have hms2 : m ≤ c - 8 := by omega
    have hms3 : ¬ ((l.length : Int) - 8 < (m : Int)) := by omega
    go_enter Try.func89, Try.ntmps89
    go_wp2_with fail
    have hlt1 : w.heap.size < (w.alloc (.cells #[.int .i64 0, .int .i64 0, .int .i64 0, .slice none 0 0] 85)).heap.size := by simp
    have Hb1 := Lib.hid ((Below.refl w.heap.size w).alloc (Nat.le_refl _) (.cells #[.int .i64 0, .int .i64 0, .int .i64 0, .slice none 0 0] 85))
    have Hg := Lib.hid (Blk.new w 85 #[.int .i64 0, .int .i64 0, .int .i64 0, .slice none 0 0])
    generalize w.alloc (.cells #[.int .i64 0, .int .i64 0, .int .i64 0, .slice none 0 0] 85) = w1 at *
    refine (getR_any _ l c 2 4 _ hlc Hcm.out Hin1.out).mono ?_
    rintro e w1' ⟨rfl, rfl⟩
    rw [Hg1.out]
    go_wp2_with fail
    refine (getR_any _ l c 6 2 _ hlc Hcm.out Hin1.out).mono ?_
    rintro e w1' ⟨rfl, rfl⟩
    rw [Hg2.out]
    have hA : w1.cell? ⟨b, o, none⟩ = some (.int .u8 (x0 : Nat)) ∧ w1.cell? ⟨b, o + 1, none⟩ = some (.int .u8 (x1 : Nat)) := ⟨(Hb1.out.cell (p := ⟨b, o, none⟩) hb).trans hc0, (Hb1.out.cell (p := ⟨b, o + 1, none⟩) hb).trans hc1⟩
    have hbs1 : b < w1.heap.size := by omega
    have hi0 : 0 < l.length := by omega
    have hne : ¬ b = w1.heap.size := by omega
    have hne' : ¬ w1.heap.size = b := by omega
    have hnw := World.new_ne w1 ⟨b, o, none⟩ hA.1
    have hnw1 := World.new_ne w1 ⟨b, o + 1, none⟩ hA.2
    have hi1 : (1 : Int) < (l.length : Int) := by omega
    have hw0 : IntKind.i64.wrap (x0 : Int) = (x0 : Int) := by rw [IntKind.wrap_i64]; omega
    have hw1 : IntKind.i64.wrap (x1 : Int) = (x1 : Int) := by rw [IntKind.wrap_i64]; omega
    have Hg1b := Lib.hid (Hg.out.alloc (.cells #[.int .i64 0, .int .i64 0, .int .i64 0, .slice none 0 0] 85))
    have Hin1b := Lib.hid (Hin1.out.alloc (.cells #[.int .i64 0, .int .i64 0, .int .i64 0, .slice none 0 0] 85))
    have Hv1b := Lib.hid (Blk.new w1 85 #[.int .i64 0, .int .i64 0, .int .i64 0, .slice none 0 0])
    have hle1b : w1.heap.size + 1 ≤ (w1.alloc (.cells #[.int .i64 0, .int .i64 0, .int .i64 0, .slice none 0 0] 85)).heap.size := by simp
    have hws : IntKind.i64.wrap (8 + (m : Int)) = 8 + (m : Int) := by rw [IntKind.wrap_i64]; omega
    have hws1 : (8 : Int) ≤ 8 + (m : Int) := by omega
    have hws2 : (8 : Int) + (m : Int) ≤ (c : Int) := by omega
    have hws3 : (8 + (m : Int)).toNat = 8 + m := by omega
    have hws4 : (0 : Int) ≤ 8 + (m : Int) := by omega
    go_upto_region 7 with (fail)
    go_cut [9] (fun s10 wx => Cut8 w wx s10 x0 x1 n B)
    case first =>
      go_region_held3 (fun w' => w'.cell? ⟨b, o, none⟩ = some (.int .u8 (x0 : Nat)) ∧ w'.cell? ⟨b, o + 1, none⟩ = some (.int .u8 (x1 : Nat)))
        (first | exact hA | exact hB | go_keep)
        (first
          | (refine rgn_appendBR rfl (.const (.slice none 0 0)) (.tmp 42) rfl (w1.heap.size + 1) (.slice none 0 0) [] rfl (OwnBR.empty _ _ _) (some ⟨b, o + 8, none⟩) B m (c - 8) HBl.out rfl ((HinB.out _ Hin1b.out).drewN 1) Hrm.out hle1b ?_; intro v2 w2 ho2 hg2 _; have Ho2' : Hid (OwnBR (w1.heap.size + 1) w2 v2 B) := Lib.hid ho2; obtain ⟨p2, c2, rfl, _⟩ := Ho2'.out.slice; have Ho2 := Ho2'; have hb2 := below_drewL (w := w1.alloc (.cells #[.int .i64 0, .int .i64 0, .int .i64 0, .slice none 0 0] 85)) (Below.of_row hg2 hle1b (fun k hk => by rw [rowOf_none] at hk; cases hk)) hle1b; have Hb12 := Lib.hid hb2; have hs2 : w1.heap.size + 1 ≤ w2.heap.size := Nat.le_trans hle1b hb2.size; have Hv2 := Lib.hid (Hv1b.out.below Hb12.out (Nat.lt_succ_self _)); have hcv := Hv2.out.cell; have hf0 := Hv2.out.frozen 0; have hf1 := Hv2.out.frozen 1; have hf2 := Hv2.out.frozen 2; have hf3 := Hv2.out.frozen 3; have hB : w2.cell? ⟨b, o, none⟩ = some (.int .u8 (x0 : Nat)) ∧ w2.cell? ⟨b, o + 1, none⟩ = some (.int .u8 (x1 : Nat)) := (by have hbs2 : b < w1.heap.size + 1 := (by omega); exact ⟨(Hb12.out.cell (p := ⟨b, o, none⟩) hbs2).trans ((World.cell?_of_block (Below.heap_alloc w1 _ b hbs1)).trans hA.1), (Hb12.out.cell (p := ⟨b, o + 1, none⟩) hbs2).trans ((World.cell?_of_block (Below.heap_alloc w1 _ b hbs1)).trans hA.2)⟩); clear ho2 hb2 hg2)
          | (refine rgn_appendBR rfl (.const (.slice none 0 0)) (.tmp 42) rfl w1.heap.size (.slice none 0 0) [] rfl (OwnBR.empty _ _ _) (some ⟨b, o + 8, none⟩) B m (c - 8) HBl.out rfl ((HinB.out _ Hin1.out).drewN 1) Hrm.out (Nat.le_refl _) ?_; intro v2 w2 ho2 hg2 _; have Ho2' : Hid (OwnBR w1.heap.size w2 v2 B) := Lib.hid ho2; obtain ⟨p2, c2, rfl, _⟩ := Ho2'.out.slice; have Ho2 := Ho2'; have hb2 := below_drewL (w := w1) (Below.of_row hg2 (Nat.le_refl _) (fun k hk => by rw [rowOf_none] at hk; cases hk)) (Nat.le_refl _); have Hb12 : Hid (Below w1.heap.size w1 w2) := Lib.hid hb2; have hs2 : w1.heap.size ≤ w2.heap.size := hb2.size; have hB : w2.cell? ⟨b, o, none⟩ = some (.int .u8 (x0 : Nat)) ∧ w2.cell? ⟨b, o + 1, none⟩ = some (.int .u8 (x1 : Nat)) := ⟨(hb2.cell (p := ⟨b, o, none⟩) hbs1).trans hA.1, (hb2.cell (p := ⟨b, o + 1, none⟩) hbs1).trans hA.2⟩; clear ho2 hb2 hg2))
      · go_wp2_with fail
        go_meet
        exact cut8_new Hb1.out hlt1 Hg.out Ho2.out Hb12.out
      · go_wp2_with fail
        go_meet
        exact cut8_set Hb1.out hlt1 Hg.out Ho2.out Hb12.out
    case rest =>
      obtain ⟨g, p2, c2, rfl, hv, hB, hb2, hr, hgl⟩ := hcut
      have hvc := hv.cell
      have Hv := Lib.hid hv
      have HBS := Lib.hid hB
      have Hb2 := Lib.hid hb2
      have Hr := Lib.hid hr
      have hgs := hv.lt
      have hne2 : ¬ g = w.heap.size := by omega
      have hne3 : ¬ w.heap.size = g := by omega
      clear hA hv hB hb2 hr Hg1b Hin1b Hv1b hnw hnw1 hne hne' hi0 hi1 hw0 hw1 HinB Hg1 Hg2 hc0 hc1
      go_wp2_with fail
      go_region_held3 (fun w' => ∀ i, w'.cell? ⟨g, i, none⟩ = (#[.int .i64 (x0 : Nat), .int .i64 (x1 : Nat), .int .i64 n, .slice p2 B.length c2] : Array Value)[i]?)
        (first | exact hvc | exact hvc3 | go_keep)
        ((go_at_call 57; refine (evCheckR_any _ _ _ _ _ _ _).mono ?_; rintro e w3 ⟨rfl, hb3⟩; have hb13 := below_ofDrew hb3; have Hr3 := Lib.hid (Hr.out.below hb13 (by omega)); have Hv3 := Lib.hid (Hv.out.below hb13 hgs); have hvc3 := Hv3.out.cell; have hrc3 := Hr3.out.cell; have hrf0 := Hr3.out.frozen 0; have hrf1 := Hr3.out.frozen 1; have hrf2 := Hr3.out.frozen 2; have hrf3 := Hr3.out.frozen 3; have HBS3 := Lib.hid (HBS.out.below hb13); have Hb3 := Lib.hid (Hb2.out.trans (hb13.mono Hb2.out.size)); clear hb3 hb13 hvc))
      go_wp2
      exact bodyPost_ret (v := .tuple #[.agg #[.int .i64 (x0 : Nat), .int .i64 (x1 : Nat), .int .i64 n, .slice p2 B.length c2], .int .i64 (8 + (m : Int)), .bool (evOk (x0 : Nat) (x1 : Nat) n B.length)])
        (by simp [results, Try.results89, go_sem, hrc3]) rfl (someOne_end HBS3.out Hb3.out _ _ _ _)

end Go.Proofs.Ytpdkoijgemgaiaa
