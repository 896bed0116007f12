/-
  The contracts of event.first and of the document's 'one' (layer 42).
-/
import Derived.Test.YtpdkoijgemgaiaaEvL
import Derived.Deep.DeepCutAuto
namespace Go.Proofs.Ytpdkoijgemgaiaa
open Go.RowKit

def FirstR (S : Nat → Prop) (w : World) (l : List UInt8) (e : Ending) (w' : World) : Prop :=
  Below w.heap.size w w' ∧
  ((firstL l = none ∧ ∃ a b d q m f q' m' f', e = .returned (.tuple #[.agg #[.int .i64 a, .int .i64 b, .int .i64 d, .slice q m f], .slice q' m' f', .bool false])) ∨
   (∃ x r q f q' f', firstL l = some (x, r) ∧ e = .returned (.tuple #[evArg x q f, .slice q' r.length f', .bool true]) ∧ BytesS (fun k => w.heap.size ≤ k) w' [.slice q x.bytes.length f] x.bytes ∧ BytesS S w' [.slice q' r.length f'] r))

theorem BytesS.cut {S : Nat → Prop} {w : World} {b o : Nat} {l : List UInt8} {c : Nat} (h : BytesS S w [.slice (some ⟨b, o, none⟩) l.length c] l) (k : Nat) (hk : k ≤ l.length) : BytesS S w [.slice (some ⟨b, o + k, none⟩) (l.drop k).length (c - k)] (l.drop k) := by
  obtain ⟨p', c', h1, h2, h3, h4, h5⟩ := h
  simp only [List.cons.injEq, Value.slice.injEq, and_true] at h1
  obtain ⟨rfl, -, rfl⟩ := h1
  refine ⟨_, _, rfl, by rw [List.length_drop]; omega, by omega, h4.drop k, fun hne a ha => ?_⟩
  cases ha
  exact h5 (fun e => hne (by rw [e]; exact List.drop_nil)) ⟨b, o, none⟩ rfl

theorem BytesS.tail (S : Nat → Prop) (w : World) (p : Option Addr) (l : List UInt8) (k : Nat) (hk : l.length ≤ k) : BytesS S w [.slice p (l.drop k).length 0] (l.drop k) := by
  have : l.drop k = [] := List.drop_eq_nil_of_le hk
  rw [this]
  exact ⟨_, _, rfl, Nat.le_refl _, by simp [maxLen], BytesIn.nil _ _, fun h => absurd rfl h⟩

theorem BytesS.head {S : Nat → Prop} {w : World} {p : Option Addr} {l : List UInt8} {c : Nat} (h : BytesS S w [.slice p l.length c] l) (k : Nat) (hk : k ≤ l.length) : BytesS S w [.slice p k c] (l.take k) := by
  obtain ⟨p', c', h1, h2, h3, h4, h5⟩ := h
  simp only [List.cons.injEq, Value.slice.injEq, and_true] at h1
  obtain ⟨rfl, -, rfl⟩ := h1
  have hl : (l.take k).length = k := by rw [List.length_take]; omega
  refine ⟨_, _, by rw [hl], by omega, h3, h4.take k, fun hne a ha => h5 (fun e => hne (by rw [e]; exact List.take_nil)) a ha⟩

/-- A byte, behind the bytes. -/
theorem first_parts {l : List UInt8} (h8 : 8 ≤ l.length) {n s : Int} (hn : n = be ((l.drop 2).take 4)) (hs : s = be ((l.drop 6).take 2)) :
    getV l 2 4 = (n, 0) ∧ getV l 6 2 = (s, 0) ∧ 0 ≤ n ∧ n < 4294967296 ∧ 0 ≤ s ∧ s < 65536 := by
  subst hn hs
  have h1 := be_bd ((l.drop 2).take 4)
  have h2 := be_bd ((l.drop 6).take 2)
  have l1 : ((l.drop 2).take 4).length = 4 := by simp; omega
  have l2 : ((l.drop 6).take 2).length = 2 := by simp; omega
  rw [l1] at h1
  rw [l2] at h2
  refine ⟨?_, ?_, h1.1, by have := h1.2; omega, h2.1, by have := h2.2; omega⟩
  · rw [getV_yes rfl (by omega) (by omega)]; rfl
  · rw [getV_yes rfl (by omega) (by omega)]; rfl

def NoFirst (w : World) (e : Ending) (w' : World) : Prop := Below w.heap.size w w' ∧ ∃ a b d q m f q' m' f', e = .returned (.tuple #[.agg #[.int .i64 a, .int .i64 b, .int .i64 d, .slice q m f], .slice q' m' f', .bool false])

set_option maxHeartbeats 1000000 in
theorem first_short (p : Option Addr) (n c : Nat) (w : World) (h8 : n < 8) :
    Calls Try.prog 88 #[.slice p n c] w fun e w' => NoFirst w e w' := by
  go_enter Try.func88, Try.ntmps88
  go_wp2
  exact bodyPost_ret (v := .tuple #[.agg #[.int .i64 0, .int .i64 0, .int .i64 0, .slice none 0 0], .slice none 0 0, .bool false]) (by simp [results, Try.results88, go_sem]) rfl ⟨(Below.refl _ _).alloc (Nat.le_refl _) _, _, _, _, _, _, _, _, _, _, rfl⟩

set_option maxHeartbeats 1000000 in
theorem first_long (a : Addr) (l : List UInt8) (c : Nat) (n s : Int) (w : World) (hin : BytesIn w (some a) l) (h8 : 8 ≤ l.length) (hlc : l.length ≤ c) (hcm : c ≤ maxLen) (hg1 : getV l 2 4 = (n, 0)) (hg2 : getV l 6 2 = (s, 0)) (hs : (l.length : Int) < s + 8) :
    Calls Try.prog 88 #[.slice (some a) l.length c] w fun e w' => NoFirst w e w' := by
  have Hg1 := Lib.hid hg1
  have Hg2 := Lib.hid hg2
  have Hin1 := Lib.hid (hin.alloc (.cells #[.int .i64 0, .int .i64 0, .int .i64 0, .slice none 0 0] 85))
  have Hcm := Lib.hid hcm
  unfold maxLen at hcm
  clear hg1 hg2 hin
  by_cases hc8 : c = 8
  · subst hc8
    go_enter Try.func88, Try.ntmps88
    go_wp2_with fail
    refine (get_any _ l _ 2 4 _ hlc Hcm.out Hin1.out).mono ?_
    rintro e w1 ⟨rfl, rfl⟩
    rw [Hg1.out]
    go_wp2_with fail
    refine (get_any _ l _ 6 2 _ hlc Hcm.out Hin1.out).mono ?_
    rintro e w1 ⟨rfl, rfl⟩
    rw [Hg2.out]
    have hs1 : 0 < s := by omega
    have hl8 : l.length = 8 := by omega
    go_wp2
    exact bodyPost_ret (v := .tuple #[.agg #[.int .i64 0, .int .i64 0, .int .i64 0, .slice none 0 0], .slice none 0 0, .bool false]) (by simp [results, Try.results88, go_sem]) rfl ⟨(Below.refl _ _).alloc (Nat.le_refl _) _, _, _, _, _, _, _, _, _, _, rfl⟩
  · have hs1 : (l.length : Int) - 8 < s := by omega
    go_enter Try.func88, Try.ntmps88
    go_wp2_with fail
    refine (get_any _ l _ 2 4 _ hlc Hcm.out Hin1.out).mono ?_
    rintro e w1 ⟨rfl, rfl⟩
    rw [Hg1.out]
    go_wp2_with fail
    refine (get_any _ l _ 6 2 _ hlc Hcm.out Hin1.out).mono ?_
    rintro e w1 ⟨rfl, rfl⟩
    rw [Hg2.out]
    go_wp2
    exact bodyPost_ret (v := .tuple #[.agg #[.int .i64 0, .int .i64 0, .int .i64 0, .slice none 0 0], .slice none 0 0, .bool false]) (by simp [results, Try.results88, go_sem]) rfl ⟨(Below.refl _ _).alloc (Nat.le_refl _) _, _, _, _, _, _, _, _, _, _, rfl⟩

/-- What 'e := api.Event{..}' leaves. -/
def Cut8 (w wx : World) (s : Value) (x0 x1 n : Int) (B : List UInt8) : Prop :=
  ∃ g p c, s = .pointer (some ⟨g, 0, none⟩) ∧ Blk wx g 85 #[.int .i64 x0, .int .i64 x1, .int .i64 n, .slice p B.length c] ∧ BytesS (fun k => w.heap.size < k) wx [.slice p B.length c] B ∧ Below w.heap.size w wx ∧ Blk wx w.heap.size 85 #[.int .i64 0, .int .i64 0, .int .i64 0, .slice none 0 0] ∧ w.heap.size < g

theorem cut8_new {w w1 w2 : World} {x0 x1 n : Int} {B : List UInt8} {p : Option Addr} {c : Nat} (hb1 : Below w.heap.size w w1) (hlt : w.heap.size < w1.heap.size) (hg : Blk w1 w.heap.size 85 #[.int .i64 0, .int .i64 0, .int .i64 0, .slice none 0 0])
    (ho : OwnBR w1.heap.size w2 (.slice p B.length c) B) (hb : Below w1.heap.size w1 w2) : Cut8 w (w2.alloc (.cells #[.int .i64 x0, .int .i64 x1, .int .i64 n, .slice p B.length c] 85)) (.pointer (some ⟨w2.heap.size, 0, none⟩)) x0 x1 n B := by
  have hs := hb.size
  obtain ⟨p', c', e, hB⟩ := ho.bytesS (S := fun k => w.heap.size < k) (fun k hk => by omega)
  simp only [Value.slice.injEq] at e
  obtain ⟨rfl, -, rfl⟩ := e
  have hbw := hb1.trans (hb.mono (Nat.le_of_lt hlt))
  exact ⟨_, p, c, rfl, Blk.new _ _ _, hB.below ((Below.refl _ _).alloc (Nat.le_refl _) _), hbw.alloc hbw.size _, (hg.below hb hlt).alloc _, by omega⟩

theorem cut8_set {w w1 w2 : World} {x0 x1 n : Int} {B : List UInt8} {p : Option Addr} {c : Nat} (hb1 : Below w.heap.size w w1) (hlt : w.heap.size < w1.heap.size) (hg : Blk w1 w.heap.size 85 #[.int .i64 0, .int .i64 0, .int .i64 0, .slice none 0 0])
    (ho : OwnBR (w1.heap.size + 1) w2 (.slice p B.length c) B) (hb : Below (w1.heap.size + 1) (w1.alloc (.cells #[.int .i64 0, .int .i64 0, .int .i64 0, .slice none 0 0] 85)) w2) :
    Cut8 w ((((w2.setCell ⟨w1.heap.size, 0, none⟩ (.int .i64 x0)).setCell ⟨w1.heap.size, 1, none⟩ (.int .i64 x1)).setCell ⟨w1.heap.size, 2, none⟩ (.int .i64 n)).setCell ⟨w1.heap.size, 3, none⟩ (.slice p B.length c)) (.pointer (some ⟨w1.heap.size, 0, none⟩)) x0 x1 n B := by
  obtain ⟨p', c', e, _, _, hB, hB2⟩ := ho.slice
  simp only [Value.slice.injEq] at e
  obtain ⟨rfl, -, rfl⟩ := e
  have hv := (Blk.new w1 85 #[.int .i64 0, .int .i64 0, .int .i64 0, .slice none 0 0]).below hb (Nat.lt_succ_self _)
  have hv4 := (((hv.set_ 0 (.int .i64 x0)).set_ 1 (.int .i64 x1)).set_ 2 (.int .i64 n)).set_ 3 (.slice p B.length c)
  have hT : Touch (fun k => k = w1.heap.size) w2 ((((w2.setCell ⟨w1.heap.size, 0, none⟩ (.int .i64 x0)).setCell ⟨w1.heap.size, 1, none⟩ (.int .i64 x1)).setCell ⟨w1.heap.size, 2, none⟩ (.int .i64 n)).setCell ⟨w1.heap.size, 3, none⟩ (.slice p B.length c)) :=
    ((((Touch.refl (fun k => k = w1.heap.size) w2).setCell (x := ⟨w1.heap.size, 0, none⟩) (fun _ => rfl) _).setCell (x := ⟨w1.heap.size, 1, none⟩) (fun _ => rfl) _).setCell (x := ⟨w1.heap.size, 2, none⟩) (fun _ => rfl) _).setCell (x := ⟨w1.heap.size, 3, none⟩) (fun _ => rfl) _
  have hbw : Below w.heap.size w w2 := (hb1.trans ((Below.refl _ _).alloc (Nat.le_of_lt hlt) (.cells #[.int .i64 0, .int .i64 0, .int .i64 0, .slice none 0 0] 85))).trans (hb.mono (by omega))
  obtain ⟨q, d, e, hBS⟩ := ho.bytesS (S := fun k => w1.heap.size + 1 ≤ k) (fun k hk => hk)
  simp only [Value.slice.injEq] at e
  obtain ⟨rfl, -, rfl⟩ := e
  refine ⟨_, p, c, rfl, by simpa using hv4, BytesS.still _ _ _ _ _ _ hBS (Kept.touch hT (fun k hk hs => ⟨by omega, by omega⟩)), hbw.trans (hT.below hbw.size (fun k hk => by omega)), hT.blk ((hg.alloc _).below hb (by omega)) (by omega), hlt⟩

/-- The answer of 'first' where there are so many bytes. -/
def SomeFirst (S : Nat → Prop) (w : World) (k o n : Int) (B R : List UInt8) (e : Ending) (w' : World) : Prop :=
  Below w.heap.size w w' ∧ ∃ q f q' f', e = .returned (.tuple #[evArg ⟨k, o, n, B⟩ q f, .slice q' R.length f', .bool (evOk k o n B.length)]) ∧ BytesS (fun k => w.heap.size ≤ k) w' [.slice q B.length f] B ∧ BytesS S w' [.slice q' R.length f'] R

theorem someFirst_end {S : Nat → Prop} {b o : Nat} {l : List UInt8} {c m : Nat} {k ow n : Int} {B R : List UInt8} {w w3 : World} {p : Option Addr} {d : Nat} {a : Addr} {x y : Nat} (hin : BytesIn w (some ⟨b, o, none⟩) l) (hR : R = l.drop (8 + m)) (hm : 8 + m ≤ l.length) (hlc : l.length ≤ c) (hcm : c ≤ maxLen) (hS : S b)
    (hB : BytesS (fun k => w.heap.size < k) w3 [.slice p B.length d] B) (hb : Below w.heap.size w w3) (ha : (a = ⟨b, o + 8 + m, none⟩ ∧ y = c - 8 - m) ∨ (m + 8 = l.length ∧ y = 0)) (hx : x = l.length - 8 - m) (u0 u1 u2 u3 : Value) :
    SomeFirst S w k ow n B R (.returned (.tuple #[.agg #[.int .i64 k, .int .i64 ow, .int .i64 n, .slice p B.length d], .slice (some a) x y, .bool (evOk k ow n B.length)]))
      ((((w3.setCell ⟨w.heap.size, 0, none⟩ u0).setCell ⟨w.heap.size, 1, none⟩ u1).setCell ⟨w.heap.size, 2, none⟩ u2).setCell ⟨w.heap.size, 3, none⟩ u3) := by
  have hT : Touch (fun k => k = w.heap.size) w3 ((((w3.setCell ⟨w.heap.size, 0, none⟩ u0).setCell ⟨w.heap.size, 1, none⟩ u1).setCell ⟨w.heap.size, 2, none⟩ u2).setCell ⟨w.heap.size, 3, none⟩ u3) :=
    ((((Touch.refl (fun k => k = w.heap.size) w3).setCell (x := ⟨w.heap.size, 0, none⟩) (fun _ => rfl) _).setCell (x := ⟨w.heap.size, 1, none⟩) (fun _ => rfl) _).setCell (x := ⟨w.heap.size, 2, none⟩) (fun _ => rfl) _).setCell (x := ⟨w.heap.size, 3, none⟩) (fun _ => rfl) _
  have hbf := hb.trans (hT.below hb.size (fun k hk => by omega))
  refine ⟨hbf, p, d, some a, y, ?_, BytesS.still _ _ _ _ _ _ hB (Kept.touch hT (fun k _ hs => ⟨by omega, by omega⟩)), ?_⟩
  · have hl : R.length = x := by rw [hR, hx, List.length_drop]; omega
    rw [hl]
    rfl
  · rcases ha with ⟨rfl, rfl⟩ | ⟨h1, rfl⟩
    · rw [hR]
      have h2 := (hin.below hbf).drop (8 + m)
      rw [← Nat.add_assoc] at h2
      refine BytesS.of (by rw [List.length_drop]; omega) (by omega) h2 (fun _ a ha => ?_)
      cases ha
      exact hS
    · rw [hR]
      exact BytesS.tail S _ _ l (8 + m) (by omega)

set_option maxRecDepth 100000 in
set_option maxHeartbeats 10000000 in
theorem first_ok (S : Nat → Prop) (b o : Nat) (l : List UInt8) (c : Nat) (n : Int) (m : Nat) (x0 x1 : Nat) (B R : List UInt8) (w : World) (hin : BytesIn w (some ⟨b, o, none⟩) l) (h8 : 8 ≤ l.length) (hlc : l.length ≤ c) (hcm : c ≤ maxLen)
    (hg1 : getV l 2 4 = (n, 0)) (hg2 : getV l 6 2 = ((m : Int), 0)) (hm : m + 8 ≤ l.length) (hl : l.length ≤ 1000000000)
    (hc0 : w.cell? ⟨b, o, none⟩ = some (.int .u8 (x0 : Nat))) (hc1 : w.cell? ⟨b, o + 1, none⟩ = some (.int .u8 (x1 : Nat))) (hx0 : (x0 : Int) < 256) (hx1 : (x1 : Int) < 256)
    (hB : B = (l.drop 8).take m) (hR : R = l.drop (8 + m)) (hS : S b) :
    Calls Try.prog 88 #[.slice (some ⟨b, o, none⟩) l.length c] w fun e w' => SomeFirst S w x0 x1 n B R e w' := by
  have Hg1 := Lib.hid hg1
  have Hg2 := Lib.hid hg2
  have Hin1 := Lib.hid (hin.alloc (.cells #[.int .i64 0, .int .i64 0, .int .i64 0, .slice none 0 0] 85))
  have Hcm := Lib.hid hcm
  have hb : b < w.heap.size := World.block_lt_of_cell? w _ hc0
  have hBl : B.length = m := by rw [hB, List.length_take, List.length_drop]; omega
  have hRl : R.length = l.length - (8 + m) := by rw [hR, List.length_drop]
  have HBl := Lib.hid hBl
  have HRl := Lib.hid hRl
  have HB := Lib.hid hB
  have HR := Lib.hid hR
  have HS := Lib.hid hS
  have Hin0 := Lib.hid hin
  unfold maxLen at hcm
  clear hg1 hg2 hin hBl hRl hB hR hS
  by_cases hc8 : c = 8
  · subst hc8
    obtain rfl : m = 0 := by omega
    have hcl : ∀ w, BytesIn w (some ⟨b, o, none⟩) l → Calls Try.prog 94 #[.slice (some ⟨b, o, none⟩) 0 0] w fun e w' => ∃ v, e = .returned v ∧ OwnBR w.heap.size w' v B ∧ Below w.heap.size w w' := by
      intro w hin
      have hB0 : B = [] := List.eq_nil_of_length_eq_zero HBl.out
      rw [hB0]
      exact sclone_any (some ⟨b, o, none⟩) [] 0 w (by simp) (BytesIn.nil _ _)
    have Hcl := Lib.hid hcl
    clear hcl
    go_enter Try.func88, Try.ntmps88
    go_wp2_with fail
    have hlt1 : w.heap.size < (w.alloc (.cells #[.int .i64 0, .int .i64 0, .int .i64 0, .slice none 0 0] 85)).heap.size := by simp
    have Hb1 := Lib.hid ((Below.refl w.heap.size w).alloc (Nat.le_refl _) (.cells #[.int .i64 0, .int .i64 0, .int .i64 0, .slice none 0 0] 85))
    have Hg := Lib.hid (Blk.new w 85 #[.int .i64 0, .int .i64 0, .int .i64 0, .slice none 0 0])
    generalize w.alloc (.cells #[.int .i64 0, .int .i64 0, .int .i64 0, .slice none 0 0] 85) = w1 at *
    refine (get_any _ l _ 2 4 _ hlc Hcm.out Hin1.out).mono ?_
    rintro e w1' ⟨rfl, rfl⟩
    rw [Hg1.out]
    go_wp2_with fail
    refine (get_any _ l _ 6 2 _ hlc Hcm.out Hin1.out).mono ?_
    rintro e w1' ⟨rfl, rfl⟩
    rw [Hg2.out]
    have hA : w1.cell? ⟨b, o, none⟩ = some (.int .u8 (x0 : Nat)) ∧ w1.cell? ⟨b, o + 1, none⟩ = some (.int .u8 (x1 : Nat)) := ⟨(Hb1.out.cell (p := ⟨b, o, none⟩) hb).trans hc0, (Hb1.out.cell (p := ⟨b, o + 1, none⟩) hb).trans hc1⟩
    have hbs1 : b < w1.heap.size := by omega
    have hi0 : 0 < l.length := by omega
    have hne : ¬ b = w1.heap.size := by omega
    have hne' : ¬ w1.heap.size = b := by omega
    have hnw := World.new_ne w1 ⟨b, o, none⟩ hA.1
    have hnw1 := World.new_ne w1 ⟨b, o + 1, none⟩ hA.2
    have hi1 : (1 : Int) < (l.length : Int) := by omega
    have hw0 : IntKind.i64.wrap (x0 : Int) = (x0 : Int) := by rw [IntKind.wrap_i64]; omega
    have hw1 : IntKind.i64.wrap (x1 : Int) = (x1 : Int) := by rw [IntKind.wrap_i64]; omega
    have Hg1b := Lib.hid (Hg.out.alloc (.cells #[.int .i64 0, .int .i64 0, .int .i64 0, .slice none 0 0] 85))
    have Hin1b := Lib.hid (Hin1.out.alloc (.cells #[.int .i64 0, .int .i64 0, .int .i64 0, .slice none 0 0] 85))
    have Hv1b := Lib.hid (Blk.new w1 85 #[.int .i64 0, .int .i64 0, .int .i64 0, .slice none 0 0])
    have hle1b : w1.heap.size + 1 ≤ (w1.alloc (.cells #[.int .i64 0, .int .i64 0, .int .i64 0, .slice none 0 0] 85)).heap.size := by simp
    go_upto_region 8 with (fail)
    go_cut [10] (fun s10 wx => Cut8 w wx s10 x0 x1 n B)
    case first =>
      go_region_held3 (fun w' => w'.cell? ⟨b, o, none⟩ = some (.int .u8 (x0 : Nat)) ∧ w'.cell? ⟨b, o + 1, none⟩ = some (.int .u8 (x1 : Nat)))
        (first | exact hA | exact hB | go_keep)
        (first
          | (go_at_call 94; refine (Hcl.out _ (Hin1b.out.drewN 1)).mono ?_; rintro e w2 ⟨v2, rfl, ho2, hb2⟩; obtain ⟨p2, c2, rfl, _⟩ := ho2.slice; have Ho2 := Lib.hid (OwnR.base ho2 hle1b); have Hb12 := Lib.hid (((below_drewOn (Below.refl _ _) (Nat.le_refl _)).trans hb2).mono hle1b); have hs2 : w1.heap.size + 1 ≤ w2.heap.size := Nat.le_trans hle1b hb2.size; have Hv2 := Lib.hid (Hv1b.out.below Hb12.out (Nat.lt_succ_self _)); have hcv := Hv2.out.cell; have hf0 := Hv2.out.frozen 0; have hf1 := Hv2.out.frozen 1; have hf2 := Hv2.out.frozen 2; have hf3 := Hv2.out.frozen 3; have hB : w2.cell? ⟨b, o, none⟩ = some (.int .u8 (x0 : Nat)) ∧ w2.cell? ⟨b, o + 1, none⟩ = some (.int .u8 (x1 : Nat)) := (by have hbs2 : b < w1.heap.size + 1 := (by omega); exact ⟨(Hb12.out.cell (p := ⟨b, o, none⟩) hbs2).trans ((World.cell?_of_block (Below.heap_alloc w1 _ b hbs1)).trans hA.1), (Hb12.out.cell (p := ⟨b, o + 1, none⟩) hbs2).trans ((World.cell?_of_block (Below.heap_alloc w1 _ b hbs1)).trans hA.2)⟩); clear ho2 hb2)
          | (go_at_call 94; refine (Hcl.out _ (Hin1.out.drewN 1)).mono ?_; rintro e w2 ⟨v2, rfl, ho2, hb2⟩; obtain ⟨p2, c2, rfl, _⟩ := ho2.slice; have Ho2 : Hid (OwnBR w1.heap.size w2 _ _) := Lib.hid ho2; have Hb12 : Hid (Below w1.heap.size w1 w2) := Lib.hid ((below_drewOn (Below.refl _ _) (Nat.le_refl _)).trans hb2); have hs2 : w1.heap.size ≤ w2.heap.size := hb2.size; have hB : w2.cell? ⟨b, o, none⟩ = some (.int .u8 (x0 : Nat)) ∧ w2.cell? ⟨b, o + 1, none⟩ = some (.int .u8 (x1 : Nat)) := ⟨(hb2.cell (p := ⟨b, o, none⟩) hbs1).trans hA.1, (hb2.cell (p := ⟨b, o + 1, none⟩) hbs1).trans hA.2⟩; clear ho2 hb2))
      · go_wp2_with fail
        go_meet
        exact cut8_new Hb1.out hlt1 Hg.out Ho2.out Hb12.out
      · go_wp2_with fail
        go_meet
        exact cut8_set Hb1.out hlt1 Hg.out Ho2.out Hb12.out
    case rest =>
      obtain ⟨g, p2, c2, rfl, hv, hB, hb2, hr, hgl⟩ := hcut
      have hvc := hv.cell
      have Hv := Lib.hid hv
      have HBS := Lib.hid hB
      have Hb2 := Lib.hid hb2
      have Hr := Lib.hid hr
      have hgs := hv.lt
      have hne2 : ¬ g = w.heap.size := by omega
      have hne3 : ¬ w.heap.size = g := by omega
      clear hA hv hB hb2 hr Hg1b Hin1b Hv1b hnw hnw1 hne hne' hi0 hi1 hw0 hw1 Hcl Hg1 Hg2 hc0 hc1
      go_wp2_with fail
      go_region_held3 (fun w' => ∀ i, w'.cell? ⟨g, i, none⟩ = (#[.int .i64 (x0 : Nat), .int .i64 (x1 : Nat), .int .i64 n, .slice p2 B.length c2] : Array Value)[i]?)
        (first | exact hvc | exact hvc3 | go_keep)
        ((go_at_call 55; refine (evCheck_any _ _ _ _ _ _ _).mono ?_; rintro e w3 ⟨rfl, hb3⟩; have hb13 := below_ofDrew hb3; have Hr3 := Lib.hid (Hr.out.below hb13 (by omega)); have Hv3 := Lib.hid (Hv.out.below hb13 hgs); have hvc3 := Hv3.out.cell; have hrc3 := Hr3.out.cell; have hrf0 := Hr3.out.frozen 0; have hrf1 := Hr3.out.frozen 1; have hrf2 := Hr3.out.frozen 2; have hrf3 := Hr3.out.frozen 3; have HBS3 := Lib.hid (HBS.out.below hb13); have Hb3 := Lib.hid (Hb2.out.trans (hb13.mono Hb2.out.size)); clear hb3 hb13 hvc))
      go_wp2
      exact bodyPost_ret (v := .tuple #[.agg #[.int .i64 (x0 : Nat), .int .i64 (x1 : Nat), .int .i64 n, .slice p2 B.length c2], .slice (some ⟨b, o, none⟩) 0 0, .bool (evOk (x0 : Nat) (x1 : Nat) n B.length)])
        (by simp [results, Try.results88, go_sem, hrc3]) rfl (someFirst_end Hin0.out HR.out (by omega) hlc Hcm.out HS.out HBS3.out Hb3.out (.inr ⟨by omega, rfl⟩) (by omega) _ _ _ _)
  · have hcl : ∀ w, BytesIn w (some ⟨b, o, none⟩) l → Calls Try.prog 94 #[.slice (some ⟨b, o + 8, none⟩) m (c - 8)] w fun e w' => ∃ v, e = .returned v ∧ OwnBR w.heap.size w' v B ∧ Below w.heap.size w w' := by
      intro w hin
      have := sclone_any (some ⟨b, o + 8, none⟩) ((l.drop 8).take m) (c - 8) w (by rw [← HB.out, HBl.out]; omega) ((hin.drop 8).take m)
      rw [← HB.out, HBl.out] at this
      exact this
    have Hcl := Lib.hid hcl
    clear hcl
    have hms2 : m ≤ c - 8 := by omega
    have hms3 : ¬ ((l.length : Int) - 8 < (m : Int)) := by omega
    go_enter Try.func88, Try.ntmps88
    go_wp2_with fail
    have hlt1 : w.heap.size < (w.alloc (.cells #[.int .i64 0, .int .i64 0, .int .i64 0, .slice none 0 0] 85)).heap.size := by simp
    have Hb1 := Lib.hid ((Below.refl w.heap.size w).alloc (Nat.le_refl _) (.cells #[.int .i64 0, .int .i64 0, .int .i64 0, .slice none 0 0] 85))
    have Hg := Lib.hid (Blk.new w 85 #[.int .i64 0, .int .i64 0, .int .i64 0, .slice none 0 0])
    generalize w.alloc (.cells #[.int .i64 0, .int .i64 0, .int .i64 0, .slice none 0 0] 85) = w1 at *
    refine (get_any _ l c 2 4 _ hlc Hcm.out Hin1.out).mono ?_
    rintro e w1' ⟨rfl, rfl⟩
    rw [Hg1.out]
    go_wp2_with fail
    refine (get_any _ l c 6 2 _ hlc Hcm.out Hin1.out).mono ?_
    rintro e w1' ⟨rfl, rfl⟩
    rw [Hg2.out]
    have hA : w1.cell? ⟨b, o, none⟩ = some (.int .u8 (x0 : Nat)) ∧ w1.cell? ⟨b, o + 1, none⟩ = some (.int .u8 (x1 : Nat)) := ⟨(Hb1.out.cell (p := ⟨b, o, none⟩) hb).trans hc0, (Hb1.out.cell (p := ⟨b, o + 1, none⟩) hb).trans hc1⟩
    have hbs1 : b < w1.heap.size := by omega
    have hi0 : 0 < l.length := by omega
    have hne : ¬ b = w1.heap.size := by omega
    have hne' : ¬ w1.heap.size = b := by omega
    have hnw := World.new_ne w1 ⟨b, o, none⟩ hA.1
    have hnw1 := World.new_ne w1 ⟨b, o + 1, none⟩ hA.2
    have hi1 : (1 : Int) < (l.length : Int) := by omega
    have hw0 : IntKind.i64.wrap (x0 : Int) = (x0 : Int) := by rw [IntKind.wrap_i64]; omega
    have hw1 : IntKind.i64.wrap (x1 : Int) = (x1 : Int) := by rw [IntKind.wrap_i64]; omega
    have Hg1b := Lib.hid (Hg.out.alloc (.cells #[.int .i64 0, .int .i64 0, .int .i64 0, .slice none 0 0] 85))
    have Hin1b := Lib.hid (Hin1.out.alloc (.cells #[.int .i64 0, .int .i64 0, .int .i64 0, .slice none 0 0] 85))
    have Hv1b := Lib.hid (Blk.new w1 85 #[.int .i64 0, .int .i64 0, .int .i64 0, .slice none 0 0])
    have hle1b : w1.heap.size + 1 ≤ (w1.alloc (.cells #[.int .i64 0, .int .i64 0, .int .i64 0, .slice none 0 0] 85)).heap.size := by simp
    go_upto_region 8 with (fail)
    go_cut [10] (fun s10 wx => Cut8 w wx s10 x0 x1 n B)
    case first =>
      go_region_held3 (fun w' => w'.cell? ⟨b, o, none⟩ = some (.int .u8 (x0 : Nat)) ∧ w'.cell? ⟨b, o + 1, none⟩ = some (.int .u8 (x1 : Nat)))
        (first | exact hA | exact hB | go_keep)
        (first
          | (go_at_call 94; refine (Hcl.out _ (Hin1b.out.drewN 1)).mono ?_; rintro e w2 ⟨v2, rfl, ho2, hb2⟩; obtain ⟨p2, c2, rfl, _⟩ := ho2.slice; have Ho2 := Lib.hid (OwnR.base ho2 hle1b); have Hb12 := Lib.hid (((below_drewOn (Below.refl _ _) (Nat.le_refl _)).trans hb2).mono hle1b); have hs2 : w1.heap.size + 1 ≤ w2.heap.size := Nat.le_trans hle1b hb2.size; have Hv2 := Lib.hid (Hv1b.out.below Hb12.out (Nat.lt_succ_self _)); have hcv := Hv2.out.cell; have hf0 := Hv2.out.frozen 0; have hf1 := Hv2.out.frozen 1; have hf2 := Hv2.out.frozen 2; have hf3 := Hv2.out.frozen 3; have hB : w2.cell? ⟨b, o, none⟩ = some (.int .u8 (x0 : Nat)) ∧ w2.cell? ⟨b, o + 1, none⟩ = some (.int .u8 (x1 : Nat)) := (by have hbs2 : b < w1.heap.size + 1 := (by omega); exact ⟨(Hb12.out.cell (p := ⟨b, o, none⟩) hbs2).trans ((World.cell?_of_block (Below.heap_alloc w1 _ b hbs1)).trans hA.1), (Hb12.out.cell (p := ⟨b, o + 1, none⟩) hbs2).trans ((World.cell?_of_block (Below.heap_alloc w1 _ b hbs1)).trans hA.2)⟩); clear ho2 hb2)
          | (go_at_call 94; refine (Hcl.out _ (Hin1.out.drewN 1)).mono ?_; rintro e w2 ⟨v2, rfl, ho2, hb2⟩; obtain ⟨p2, c2, rfl, _⟩ := ho2.slice; have Ho2 : Hid (OwnBR w1.heap.size w2 _ _) := Lib.hid ho2; have Hb12 : Hid (Below w1.heap.size w1 w2) := Lib.hid ((below_drewOn (Below.refl _ _) (Nat.le_refl _)).trans hb2); have hs2 : w1.heap.size ≤ w2.heap.size := hb2.size; have hB : w2.cell? ⟨b, o, none⟩ = some (.int .u8 (x0 : Nat)) ∧ w2.cell? ⟨b, o + 1, none⟩ = some (.int .u8 (x1 : Nat)) := ⟨(hb2.cell (p := ⟨b, o, none⟩) hbs1).trans hA.1, (hb2.cell (p := ⟨b, o + 1, none⟩) hbs1).trans hA.2⟩; clear ho2 hb2))
      · go_wp2_with fail
        go_meet
        exact cut8_new Hb1.out hlt1 Hg.out Ho2.out Hb12.out
      · go_wp2_with fail
        go_meet
        exact cut8_set Hb1.out hlt1 Hg.out Ho2.out Hb12.out
    case rest =>
      obtain ⟨g, p2, c2, rfl, hv, hB, hb2, hr, hgl⟩ := hcut
      have hvc := hv.cell
      have Hv := Lib.hid hv
      have HBS := Lib.hid hB
      have Hb2 := Lib.hid hb2
      have Hr := Lib.hid hr
      have hgs := hv.lt
      have hne2 : ¬ g = w.heap.size := by omega
      have hne3 : ¬ w.heap.size = g := by omega
      clear hA hv hB hb2 hr Hg1b Hin1b Hv1b hnw hnw1 hne hne' hi0 hi1 hw0 hw1 Hcl Hg1 Hg2 hc0 hc1
      have hml : m ≤ l.length - 8 := by omega
      by_cases hmc : m = c - 8
      · subst hmc
        have hcl9 : l.length = c := by omega
        have hcm9 : c - 8 + 8 = l.length := by omega
        have hx9 : l.length - 8 - (c - 8) = 0 := by omega
        go_wp2_with fail
        go_region_held3 (fun w' => ∀ i, w'.cell? ⟨g, i, none⟩ = (#[.int .i64 (x0 : Nat), .int .i64 (x1 : Nat), .int .i64 n, .slice p2 B.length c2] : Array Value)[i]?)
          (first | exact hvc | exact hvc3 | go_keep)
          ((go_at_call 55; refine (evCheck_any _ _ _ _ _ _ _).mono ?_; rintro e w3 ⟨rfl, hb3⟩; have hb13 := below_ofDrew hb3; have Hr3 := Lib.hid (Hr.out.below hb13 (by omega)); have Hv3 := Lib.hid (Hv.out.below hb13 hgs); have hvc3 := Hv3.out.cell; have hrc3 := Hr3.out.cell; have hrf0 := Hr3.out.frozen 0; have hrf1 := Hr3.out.frozen 1; have hrf2 := Hr3.out.frozen 2; have hrf3 := Hr3.out.frozen 3; have HBS3 := Lib.hid (HBS.out.below hb13); have Hb3 := Lib.hid (Hb2.out.trans (hb13.mono Hb2.out.size)); clear hb3 hb13 hvc))
        go_wp2
        exact bodyPost_ret (v := .tuple #[.agg #[.int .i64 (x0 : Nat), .int .i64 (x1 : Nat), .int .i64 n, .slice p2 B.length c2], .slice (some ⟨b, o + 8, none⟩) 0 0, .bool (evOk (x0 : Nat) (x1 : Nat) n B.length)])
          (by simp [results, Try.results88, go_sem, hrc3]) rfl (someFirst_end Hin0.out HR.out (by omega) hlc Hcm.out HS.out HBS3.out Hb3.out (.inr ⟨by omega, rfl⟩) (by omega) _ _ _ _)
      · have hmc2 : ¬ c - 8 = m := fun e => hmc e.symm
        go_wp2_with fail
        go_region_held3 (fun w' => ∀ i, w'.cell? ⟨g, i, none⟩ = (#[.int .i64 (x0 : Nat), .int .i64 (x1 : Nat), .int .i64 n, .slice p2 B.length c2] : Array Value)[i]?)
          (first | exact hvc | exact hvc3 | go_keep)
          ((go_at_call 55; refine (evCheck_any _ _ _ _ _ _ _).mono ?_; rintro e w3 ⟨rfl, hb3⟩; have hb13 := below_ofDrew hb3; have Hr3 := Lib.hid (Hr.out.below hb13 (by omega)); have Hv3 := Lib.hid (Hv.out.below hb13 hgs); have hvc3 := Hv3.out.cell; have hrc3 := Hr3.out.cell; have hrf0 := Hr3.out.frozen 0; have hrf1 := Hr3.out.frozen 1; have hrf2 := Hr3.out.frozen 2; have hrf3 := Hr3.out.frozen 3; have HBS3 := Lib.hid (HBS.out.below hb13); have Hb3 := Lib.hid (Hb2.out.trans (hb13.mono Hb2.out.size)); clear hb3 hb13 hvc))
        go_wp2
        exact bodyPost_ret (v := .tuple #[.agg #[.int .i64 (x0 : Nat), .int .i64 (x1 : Nat), .int .i64 n, .slice p2 B.length c2], .slice (some ⟨b, o + 8 + m, none⟩) (l.length - 8 - m) (c - 8 - m), .bool (evOk (x0 : Nat) (x1 : Nat) n B.length)])
          (by simp [results, Try.results88, go_sem, hrc3]) rfl (someFirst_end Hin0.out HR.out (by omega) hlc Hcm.out HS.out HBS3.out Hb3.out (.inl ⟨rfl, rfl⟩) rfl _ _ _ _)

theorem firstL_eq {l : List UInt8} (h8 : ¬ l.length < 8) : firstL l = if (l.length : Int) - 8 < be ((l.drop 6).take 2) then none else
    if evOk ((l.getD 0 0).toNat) ((l.getD 1 0).toNat) (be ((l.drop 2).take 4)) ((l.drop 8).take (be ((l.drop 6).take 2)).toNat).length then some (⟨(l.getD 0 0).toNat, (l.getD 1 0).toNat, be ((l.drop 2).take 4), (l.drop 8).take (be ((l.drop 6).take 2)).toNat⟩, l.drop (8 + (be ((l.drop 6).take 2)).toNat)) else none := by
  unfold firstL
  rw [if_neg h8]

theorem first_any (S : Nat → Prop) (p : Option Addr) (l : List UInt8) (c : Nat) (w : World) (hx : BytesS S w [.slice p l.length c] l) (hl : l.length ≤ 1000000000) :
    Calls Try.prog 88 #[.slice p l.length c] w fun e w' => FirstR S w l e w' := by
  obtain ⟨-, hlc, hcm, hin⟩ := hx.parts
  by_cases h8 : l.length < 8
  · have Hend : firstL l = none := by unfold firstL; rw [if_pos h8]
    refine (first_short p l.length c w h8).mono ?_
    rintro e w' ⟨hb, he⟩
    exact ⟨hb, .inl ⟨Hend, he⟩⟩
  · have h8' : 8 ≤ l.length := by omega
    have hfl := firstL_eq h8
    obtain ⟨b, o, rfl⟩ := hin.addr (by omega)
    obtain ⟨hg1, hg2, hn0, hn1, hs0, hs1⟩ := first_parts h8' rfl rfl
    have hc0 := hin.cellAt 0 (by omega)
    have hc1 := hin.cellAt 1 (by omega)
    rw [Nat.add_zero] at hc0
    have hS : S b := by
      obtain ⟨p', c', h1, _, _, _, h5⟩ := hx
      simp only [List.cons.injEq, Value.slice.injEq, and_true] at h1
      obtain ⟨rfl, -, rfl⟩ := h1
      exact h5 (by rintro rfl; simp at h8') ⟨b, o, none⟩ rfl
    by_cases hs : (l.length : Int) - 8 < be ((l.drop 6).take 2)
    · rw [if_pos hs] at hfl
      refine (first_long ⟨b, o, none⟩ l c _ _ w hin h8' hlc hcm hg1 hg2 (by omega)).mono ?_
      rintro e w' ⟨hb, he⟩
      exact ⟨hb, .inl ⟨hfl, he⟩⟩
    · rw [if_neg hs] at hfl
      obtain ⟨m, hm⟩ := Int.eq_ofNat_of_zero_le hs0
      rw [hm] at hfl hs hg2
      rw [Int.toNat_natCast] at hfl
      refine (first_ok S b o l c _ m _ _ _ _ w hin h8' hlc hcm hg1 hg2 (by omega) hl hc0 hc1 (u8_bd _).2 (u8_bd _).2 rfl rfl hS).mono ?_
      rintro e w' ⟨hb, q, f, q', f', rfl, h1, h2⟩
      refine ⟨hb, ?_⟩
      by_cases hok : evOk ((l.getD 0 0).toNat) ((l.getD 1 0).toNat) (be ((l.drop 2).take 4)) ((l.drop 8).take m).length = true
      · rw [if_pos hok] at hfl
        rw [hok]
        exact .inr ⟨_, _, q, f, q', f', hfl, rfl, h1, h2⟩
      · rw [if_neg hok] at hfl
        have hok' : evOk ((l.getD 0 0).toNat) ((l.getD 1 0).toNat) (be ((l.drop 2).take 4)) ((l.drop 8).take m).length = false := by simpa using hok
        rw [hok']
        exact .inl ⟨hfl, _, _, _, _, _, _, _, _, _, rfl⟩

end Go.Proofs.Ytpdkoijgemgaiaa
