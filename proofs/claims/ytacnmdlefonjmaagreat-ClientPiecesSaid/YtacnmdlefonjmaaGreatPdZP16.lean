/-
  Ground: FrD, FrE, FrF, ClB.
-/
import Derived.Test.YtacnmdlefonjmaaGreatPdZP15
/-
  The contract of frame's Peek, where a message is there (layer 4).
-/
namespace Go.Proofs.YtacnmdlefonjmaaGreat
open Go.RowKit

def tyOf (t : Bool) (L : List UInt8) : Nat := if t then (L.getD 0 0).toNat else 0

theorem frBody {w w3 w4 : World} {g : Nat} {v : Value} {b : List UInt8} (ho : OwnBR w3.heap.size w4 v b) (h1 : w.heap.size < w3.heap.size) (h2 : g < w3.heap.size) : ∀ p n c, v = .slice p n c → n = b.length → BytesS (fun k => w.heap.size < k ∧ k ≠ g) w4 [.slice p b.length c] b := by
  intro p n c e hn
  obtain ⟨p', c', e', hB⟩ := ho.bytesS (S := fun k => w.heap.size < k ∧ k ≠ g) (fun k hk => ⟨by omega, by omega⟩)
  rw [e] at e'
  cases e'
  exact hB
theorem frBody0 {w w3 w4 : World} {v : Value} {b : List UInt8} (ho : OwnBR w3.heap.size w4 v b) (h1 : w.heap.size < w3.heap.size) : ∀ p n c, v = .slice p n c → n = b.length → BytesS (fun k => w.heap.size < k) w4 [.slice p b.length c] b := by
  intro p n c e hn
  obtain ⟨p', c', e', hB⟩ := ho.bytesS (S := fun k => w.heap.size < k) (fun k hk => by omega)
  rw [e] at e'
  cases e'
  exact hB

theorem pk_end {w wc wF : World} {B sb g : Nat} {t : Bool} {L : List UInt8} {most room : Nat} {v : Value} {b : List UInt8} {q : Option Addr} {d : Nat} (hpk : PkI w wc B sb t L most room 0 v) (hB : BytesS (fun k => w.heap.size < k ∧ k ≠ g) wc [.slice q b.length d] b) (hg : w.heap.size < g)
    (hT : Touch (fun i => i = g ∨ i = w.heap.size) wc wF) : BytesS (fun k => w.heap.size ≤ k) wF [.slice q b.length d] b ∧ FrO B wF sb t L most room 0 v ∧ Touch (fun i => i = sb) w wF := by
  have hsl := hpk.sbl
  refine ⟨BytesS.still _ _ _ _ _ _ hB (Kept.touch hT (fun k _ hs => ⟨by omega, by omega⟩)), hpk.fr.touch hT (by omega) (fun k hk e => by have := hpk.row k hk; omega), hpk.tch.then hT (fun i hi e => by omega)⟩

theorem below_len {w w' : World} (h : Below w.heap.size w w') : w.heap.size ≤ w'.heap.size := h.size

set_option maxRecDepth 100000 in
set_option maxHeartbeats 10000000 in
theorem frPeek_yes (B sb : Nat) (t : Bool) (L : List UInt8) (most room : Nat) (v : Value) (hd m : Nat) (b : List UInt8) (w : World) (h : FrO B w sb t L most room 0 v) (hr : 0 < room) (hhd : headN t = hd) (hh1 : hd ≤ 1)
    (hwh : frWhole t L most 0 = (((hd + 4 + m : Nat) : Int), true, 0)) (hlen : hd + 4 + m ≤ L.length) (hL : L.length ≤ 262144) (hb : b = (L.drop (hd + 4)).take m) :
    Calls Tryz.prog 29 #[.pointer (some ⟨sb, 0, none⟩)] w fun e w' => ∃ q d, e = .returned (.tuple #[.agg #[.int .u8 (tyOf t L : Nat), .slice q b.length d], .bool true, .int .i64 0]) ∧ BytesS (fun k => w.heap.size ≤ k) w' [.slice q b.length d] b ∧ FrO B w' sb t L most room 0 v ∧ Touch (fun i => i = sb) w w' := by
  have H1 := Lib.hid (PkI.start h)
  have Hwh := Lib.hid hwh
  have Hd := Lib.hid (show decide (0 < room) = true by simpa using hr)
  have hbl : b.length = m := by rw [hb, List.length_take, List.length_drop]; omega
  have Hbl := Lib.hid hbl
  have Hb := Lib.hid hb
  have Hhd := Lib.hid hhd
  clear h hwh hb hbl hhd
  go_enter Tryz.func29, Tryz.ntmps29
  go_wp2_with fail
  generalize w.alloc (.cells #[.int .u8 0, .slice none 0 0] 73) = w1 at *
  refine (frReady_blk sb _ _ _ _ room _ H1.out.fr.blk.cell).mono ?_
  rintro e w1' ⟨rfl, rfl⟩
  rw [Hd.out]
  go_wp2_with fail
  refine (frWhole_any B sb t L most room 0 v w1 H1.out.fr).mono ?_
  rintro e w2 ⟨n2, b2, r2, hw2, rfl, hf2, hT2⟩
  have hw3 := Hwh.out
  rw [hw3] at hw2
  simp only [Prod.mk.injEq] at hw2
  obtain ⟨rfl, rfl, rfl⟩ := hw2
  have hsl := H1.out.sbl
  have HP := Lib.hid (show PkI w w2 B sb t L most room 0 v from ⟨hf2, hT2.blk H1.out.res (by omega), H1.out.tch.trans hT2, hsl, H1.out.row⟩)
  clear hw3 hf2 hT2 H1 Hwh
  obtain ⟨p, c, rfl, hlc, hcm, hin, _⟩ := HP.out.fr.own.slice
  obtain ⟨gb, go, rfl⟩ := hin.addr (by omega)
  have Hc2 := HP.out.fr.blk.cell
  have hc0 := hin.cellAt 0 (by omega)
  rw [Nat.add_zero] at hc0
  have hgb : gb < w2.heap.size := World.block_lt_of_cell? w2 _ hc0
  have hz2 : w.heap.size < w2.heap.size := HP.out.res.lt
  have hs2 : sb < w2.heap.size := by omega
  have Hin := Lib.hid hin
  unfold maxLen at hcm
  have hwr : IntKind.i64.wrap ((hd : Int) + 4) = (hd : Int) + 4 := by rw [IntKind.wrap_i64]; omega
  have hk0 : (0 : Int) ≤ (hd : Int) + 4 := by omega
  have hk1 : ((hd : Int) + 4) ≤ ((hd + 4 + m : Nat) : Int) := by omega
  have hk2 : ((hd + 4 + m : Nat) : Int) ≤ (c : Int) := by omega
  have hk3 : ((hd : Int) + 4).toNat = hd + 4 := by omega
  have hk4 : hd + 4 + m - (hd + 4) = m := by omega
  have hk5 : ((hd : Int) + 4) ≤ (hd : Int) + 4 + (m : Int) := by omega
  have hk6 : (hd : Int) + 4 + (m : Int) ≤ (c : Int) := by omega
  have hk7 : ((hd : Int) + 4 + (m : Int)).toNat = hd + 4 + m := by omega
  have hk8 : (0 : Int) ≤ (hd : Int) + 4 + (m : Int) := by omega
  have hne2 : ¬ w2.heap.size = sb := by omega
  have HPa := Lib.hid (HP.out.alloc (.cells #[.int .u8 0, .slice none 0 0] 73))
  have Hina := Lib.hid (Hin.out.alloc (.cells #[.int .u8 0, .slice none 0 0] 73))
  have HVa := Lib.hid (Blk.new w2 73 #[.int .u8 0, .slice none 0 0])
  have hsa : (w2.alloc (.cells #[.int .u8 0, .slice none 0 0] 73)).heap.size = w2.heap.size + 1 := by simp
  have Hsa := Lib.hid hsa
  have hnew2 := World.new_ne w2 ⟨sb, 0, none⟩ (Hc2 0)
  clear hsa hc0 hin
  by_cases hcc : hd + 4 = c
  · subst hcc
    obtain rfl : m = 0 := by omega
    have hb0' : b = [] := List.eq_nil_of_length_eq_zero Hbl.out
    have Hcl : Hid (∀ w, BytesIn w (some ⟨gb, go, none⟩) L → Calls Tryz.prog 51 #[.slice (some ⟨gb, go, none⟩) 0 0] w fun e w' => ∃ v, e = .returned v ∧ OwnBR w.heap.size w' v b ∧ Below w.heap.size w w') := Lib.hid (by
      intro w hin
      rw [hb0']
      exact sclone_any (some ⟨gb, go, none⟩) [] 0 w (by simp) (BytesIn.nil _ _))
    clear hb0'
    go_upto_region 6 with (fail)
    go_cut [8] (fun s8 wx => PkC w wx B sb t L most room (.slice (some ⟨gb, go, none⟩) L.length (hd + 4)) s8 b)
    case first =>
      go_region_held3 (fun w' => ∀ i, w'.cell? ⟨sb, i, none⟩ = (#[.bool t, .slice (some ⟨gb, go, none⟩) L.length (hd + 4), .int .i64 (most : Int), .int .i64 (room : Int), .int .i64 0] : Array Value)[i]?)
        (first | exact Hc2 | exact HP4.out.fr.blk.cell | exact HP3.out.fr.blk.cell | exact HPa.out.fr.blk.cell | exact (HP3.out.alloc _).fr.blk.cell | exact (HP4.out.alloc _).fr.blk.cell | go_keep)
        (first
          | (go_at_call 52; refine (frHead_any t _).mono ?_; rintro e w3 ⟨rfl, hb3⟩; rw [Hhd.out]; (first
              | (have HP3 := Lib.hid (HP.out.drew.step hb3); have Hin3 := Lib.hid (Hin.out.below (below_ofDr hb3)); have hs3 : w2.heap.size ≤ w3.heap.size := hb3.size)
              | (have HP3 := Lib.hid (HPa.out.drew.step hb3); have Hin3 := Lib.hid (Hina.out.below (below_ofDr hb3)); have hs3 : w2.heap.size + 1 ≤ w3.heap.size := (by have := hb3.size; have := Hsa.out; exact Nat.le_trans (Nat.le_of_eq this.symm) hb3.size); have HV3 := Lib.hid (HVa.out.below (below_ofDr hb3) HVa.out.lt))); clear hb3)
          | (go_at_call 51; refine (Hcl.out _ ?_).mono ?_; (first | exact Hin3.out | exact Hin3.out.alloc _); rintro e w4 ⟨v4, rfl, ho4, hb4⟩; obtain ⟨p4, c4, rfl, _⟩ := ho4.slice; (first
              | (have HP4 := Lib.hid (HP3.out.step hb4); have HV4 := Lib.hid (HV3.out.below hb4 HV3.out.lt); have HB4 := Lib.hid (frBody (w := w) (g := w2.heap.size) ho4 (by omega) (by omega)); have hcV := HV4.out.cell; have hfV0 := HV4.out.frozen 0; have hfV1 := HV4.out.frozen 1)
              | (have HP4 := Lib.hid (HP3.out.step hb4); have HB4 := Lib.hid (frBody0 (w := w) ho4 (by omega)))
              | (have HP4 := Lib.hid ((HP3.out.alloc (.cells #[.int .u8 0, .slice none 0 0] 73)).step hb4); have HV4 := Lib.hid ((Blk.new w3 73 #[.int .u8 0, .slice none 0 0]).below hb4 (by simp)); have hsb3 : (w3.alloc (.cells #[.int .u8 0, .slice none 0 0] 73)).heap.size = w3.heap.size + 1 := (by simp); have HB4 := Lib.hid (frBody (w := w) (g := w3.heap.size) ho4 (by omega) (by omega)); have hne3 : ¬ w3.heap.size = sb := (by omega); have hcV := HV4.out.cell; have hfV0 := HV4.out.frozen 0; have hfV1 := HV4.out.frozen 1; clear hsb3)); clear ho4 hb4))
      all_goals
        go_wp2_with fail
        go_meet
        first
          | exact pkC_new HP4.out (HB4.out _ _ _ rfl rfl)
          | exact pkC_set HP4.out (HB4.out _ _ _ rfl rfl) (by omega) HV4.out
    case rest =>
      obtain ⟨g, q, d, rfl, hv, hB, hpk, hg⟩ := hcut
      have hvc := hv.cell
      have hvf := hv.frozen 0
      have hrc := hpk.res.cell
      have hrf0 := hpk.res.frozen 0
      have hrf1 := hpk.res.frozen 1
      have hfc := hpk.fr.blk.cell
      have hne4 : ¬ g = sb := by omega
      have hne5 : ¬ w.heap.size = sb := by omega
      have hne6 : ¬ g = w.heap.size := by omega
      have hne7 : ¬ w.heap.size = g := by omega
      obtain ⟨p9, c9, e9, _, _, hin9, _⟩ := hpk.fr.own.slice
      simp only [Value.slice.injEq] at e9
      obtain ⟨rfl, -, rfl⟩ := e9
      have hb0 := hin9.cellAt 0 (by omega)
      rw [Nat.add_zero] at hb0
      have hi0 : 0 < L.length := by omega
      have HE : Hid (∀ wF, Touch (fun i => i = g ∨ i = w.heap.size) wc wF → BytesS (fun k => w.heap.size ≤ k) wF [.slice q b.length d] b ∧ FrO B wF sb t L most room 0 (.slice (some ⟨gb, go, none⟩) L.length (hd + 4)) ∧ Touch (fun i => i = sb) w wF) := Lib.hid (fun wF hT => pk_end hpk hB hg hT)
      have hty : tyOf t L = if t then (L.getD 0 0).toNat else 0 := rfl
      have Hty := Lib.hid hty
      have hx0 := u8_bd (L.getD 0 0)
      generalize (L.getD 0 0).toNat = x0 at hb0 hx0 Hty
      clear hv hB hpk hin9 hty Hc2 HP HPa Hina HVa Hcl
      cases t
      · have Hty0 := Lib.hid (show tyOf false L = 0 by rw [Hty.out]; rfl)
        clear hb0
        go_wp2
        refine bodyPost_ret (v := .tuple #[.agg #[.int .u8 0, .slice q b.length d], .bool true, .int .i64 0]) (by simp [results, Tryz.results29, go_sem, hrc]) rfl ⟨q, d, by rw [Hty0.out] <;> rfl, HE.out _ ?_⟩
        exact ((Touch.refl (fun i => i = g ∨ i = w.heap.size) wc).setCell (x := ⟨w.heap.size, 0, none⟩) (fun _ => .inr rfl) _).setCell (x := ⟨w.heap.size, 1, none⟩) (fun _ => .inr rfl) _
      · have Hty0 := Lib.hid (show tyOf true L = x0 by rw [Hty.out]; rfl)
        go_wp2
        refine bodyPost_ret (v := .tuple #[.agg #[.int .u8 (x0 : Nat), .slice q b.length d], .bool true, .int .i64 0]) (by simp [results, Tryz.results29, go_sem, hrc]) rfl ⟨q, d, by rw [Hty0.out] <;> rfl, HE.out _ ?_⟩
        exact (((Touch.refl (fun i => i = g ∨ i = w.heap.size) wc).setCell (x := ⟨g, 0, none⟩) (fun _ => .inl rfl) _).setCell (x := ⟨w.heap.size, 0, none⟩) (fun _ => .inr rfl) _).setCell (x := ⟨w.heap.size, 1, none⟩) (fun _ => .inr rfl) _
  · have hcc2 : ¬ c = hd + 4 := fun e => hcc e.symm
    have Hcl : Hid (∀ w, BytesIn w (some ⟨gb, go, none⟩) L → Calls Tryz.prog 51 #[.slice (some ⟨gb, go + (hd + 4), none⟩) m (c - (hd + 4))] w fun e w' => ∃ v, e = .returned v ∧ OwnBR w.heap.size w' v b ∧ Below w.heap.size w w') := Lib.hid (by
      intro w hin
      have := sclone_any (some ⟨gb, go + (hd + 4), none⟩) ((L.drop (hd + 4)).take m) (c - (hd + 4)) w (by rw [← Hb.out, Hbl.out]; omega) ((hin.drop (hd + 4)).take m)
      rw [← Hb.out, Hbl.out] at this
      exact this)
    go_upto_region 6 with (fail)
    go_cut [8] (fun s8 wx => PkC w wx B sb t L most room (.slice (some ⟨gb, go, none⟩) L.length c) s8 b)
    case first =>
      go_region_held3 (fun w' => ∀ i, w'.cell? ⟨sb, i, none⟩ = (#[.bool t, .slice (some ⟨gb, go, none⟩) L.length c, .int .i64 (most : Int), .int .i64 (room : Int), .int .i64 0] : Array Value)[i]?)
        (first | exact Hc2 | exact HP4.out.fr.blk.cell | exact HP3.out.fr.blk.cell | exact HPa.out.fr.blk.cell | exact (HP3.out.alloc _).fr.blk.cell | exact (HP4.out.alloc _).fr.blk.cell | go_keep)
        (first
          | (go_at_call 52; refine (frHead_any t _).mono ?_; rintro e w3 ⟨rfl, hb3⟩; rw [Hhd.out]; (first
              | (have HP3 := Lib.hid (HP.out.drew.step hb3); have Hin3 := Lib.hid (Hin.out.below (below_ofDr hb3)); have hs3 : w2.heap.size ≤ w3.heap.size := hb3.size)
              | (have HP3 := Lib.hid (HPa.out.drew.step hb3); have Hin3 := Lib.hid (Hina.out.below (below_ofDr hb3)); have hs3 : w2.heap.size + 1 ≤ w3.heap.size := (by have := hb3.size; have := Hsa.out; exact Nat.le_trans (Nat.le_of_eq this.symm) hb3.size); have HV3 := Lib.hid (HVa.out.below (below_ofDr hb3) HVa.out.lt))); clear hb3)
          | (go_at_call 51; refine (Hcl.out _ ?_).mono ?_; (first | exact Hin3.out | exact Hin3.out.alloc _); rintro e w4 ⟨v4, rfl, ho4, hb4⟩; obtain ⟨p4, c4, rfl, _⟩ := ho4.slice; (first
              | (have HP4 := Lib.hid (HP3.out.step hb4); have HV4 := Lib.hid (HV3.out.below hb4 HV3.out.lt); have HB4 := Lib.hid (frBody (w := w) (g := w2.heap.size) ho4 (by omega) (by omega)); have hcV := HV4.out.cell; have hfV0 := HV4.out.frozen 0; have hfV1 := HV4.out.frozen 1)
              | (have HP4 := Lib.hid (HP3.out.step hb4); have HB4 := Lib.hid (frBody0 (w := w) ho4 (by omega)))
              | (have HP4 := Lib.hid ((HP3.out.alloc (.cells #[.int .u8 0, .slice none 0 0] 73)).step hb4); have HV4 := Lib.hid ((Blk.new w3 73 #[.int .u8 0, .slice none 0 0]).below hb4 (by simp)); have hsb3 : (w3.alloc (.cells #[.int .u8 0, .slice none 0 0] 73)).heap.size = w3.heap.size + 1 := (by simp); have HB4 := Lib.hid (frBody (w := w) (g := w3.heap.size) ho4 (by omega) (by omega)); have hne3 : ¬ w3.heap.size = sb := (by omega); have hcV := HV4.out.cell; have hfV0 := HV4.out.frozen 0; have hfV1 := HV4.out.frozen 1; clear hsb3)); clear ho4 hb4))
      all_goals
        go_wp2_with fail
        go_meet
        first
          | exact pkC_new HP4.out (HB4.out _ _ _ rfl rfl)
          | exact pkC_set HP4.out (HB4.out _ _ _ rfl rfl) (by omega) HV4.out
    case rest =>
      obtain ⟨g, q, d, rfl, hv, hB, hpk, hg⟩ := hcut
      have hvc := hv.cell
      have hvf := hv.frozen 0
      have hrc := hpk.res.cell
      have hrf0 := hpk.res.frozen 0
      have hrf1 := hpk.res.frozen 1
      have hfc := hpk.fr.blk.cell
      have hne4 : ¬ g = sb := by omega
      have hne5 : ¬ w.heap.size = sb := by omega
      have hne6 : ¬ g = w.heap.size := by omega
      have hne7 : ¬ w.heap.size = g := by omega
      obtain ⟨p9, c9, e9, _, _, hin9, _⟩ := hpk.fr.own.slice
      simp only [Value.slice.injEq] at e9
      obtain ⟨rfl, -, rfl⟩ := e9
      have hb0 := hin9.cellAt 0 (by omega)
      rw [Nat.add_zero] at hb0
      have hi0 : 0 < L.length := by omega
      have HE : Hid (∀ wF, Touch (fun i => i = g ∨ i = w.heap.size) wc wF → BytesS (fun k => w.heap.size ≤ k) wF [.slice q b.length d] b ∧ FrO B wF sb t L most room 0 (.slice (some ⟨gb, go, none⟩) L.length c) ∧ Touch (fun i => i = sb) w wF) := Lib.hid (fun wF hT => pk_end hpk hB hg hT)
      have hty : tyOf t L = if t then (L.getD 0 0).toNat else 0 := rfl
      have Hty := Lib.hid hty
      have hx0 := u8_bd (L.getD 0 0)
      generalize (L.getD 0 0).toNat = x0 at hb0 hx0 Hty
      clear hv hB hpk hin9 hty Hc2 HP HPa Hina HVa Hcl
      cases t
      · have Hty0 := Lib.hid (show tyOf false L = 0 by rw [Hty.out]; rfl)
        clear hb0
        go_wp2
        refine bodyPost_ret (v := .tuple #[.agg #[.int .u8 0, .slice q b.length d], .bool true, .int .i64 0]) (by simp [results, Tryz.results29, go_sem, hrc]) rfl ⟨q, d, by rw [Hty0.out] <;> rfl, HE.out _ ?_⟩
        exact ((Touch.refl (fun i => i = g ∨ i = w.heap.size) wc).setCell (x := ⟨w.heap.size, 0, none⟩) (fun _ => .inr rfl) _).setCell (x := ⟨w.heap.size, 1, none⟩) (fun _ => .inr rfl) _
      · have Hty0 := Lib.hid (show tyOf true L = x0 by rw [Hty.out]; rfl)
        go_wp2
        refine bodyPost_ret (v := .tuple #[.agg #[.int .u8 (x0 : Nat), .slice q b.length d], .bool true, .int .i64 0]) (by simp [results, Tryz.results29, go_sem, hrc]) rfl ⟨q, d, by rw [Hty0.out] <;> rfl, HE.out _ ?_⟩
        exact (((Touch.refl (fun i => i = g ∨ i = w.heap.size) wc).setCell (x := ⟨g, 0, none⟩) (fun _ => .inl rfl) _).setCell (x := ⟨w.heap.size, 0, none⟩) (fun _ => .inr rfl) _).setCell (x := ⟨w.heap.size, 1, none⟩) (fun _ => .inr rfl) _

end Go.Proofs.YtacnmdlefonjmaaGreat

/-
  The contract of frame's Next (layer 4).
-/
namespace Go.Proofs.YtacnmdlefonjmaaGreat
open Go.RowKit

/-- The first message: its type, what is in it, what is behind it. -/
def nextL (t : Bool) (most : Nat) (L : List UInt8) (wrong : Int) : Option (Nat × List UInt8 × List UInt8) :=
  if (frWhole t L most wrong).2.1 then some (tyOf t L, (L.drop (headN t + 4)).take ((frWhole t L most wrong).1.toNat - (headN t + 4)), L.drop (frWhole t L most wrong).1.toNat) else none
/-- What is wrong then. -/
def wrongL (t : Bool) (most : Nat) (L : List UInt8) (wrong : Int) : Int := (frWhole t L most wrong).2.2

theorem frWhole_yes {t : Bool} {L : List UInt8} {most : Nat} {wrong n r : Int} (h : frWhole t L most wrong = (n, true, r)) : wrong = 0 ∧ r = 0 ∧ ∃ m, n = ((headN t + 4 + m : Nat) : Int) ∧ headN t + 4 + m ≤ L.length := by
  unfold frWhole at h
  split at h
  · simp at h
  · rename_i hw
    split at h
    · simp at h
    · split at h
      · simp at h
      · rename_i he
        simp only [Prod.mk.injEq, decide_eq_true_eq] at h
        obtain ⟨h1, h2, h3⟩ := h
        have h4 : 4 ≤ frN t L := by
          by_cases h5 : frN t L < 4
          · exfalso
            apply he
            unfold frErr
            rw [if_pos h5]
            decide
          · omega
        refine ⟨by omega, h3.symm, (frN t L - 4).toNat, by omega, by omega⟩

def PeekR (t : Bool) (L : List UInt8) (most : Nat) (wrong : Int) (e : Ending) (w' : World) (S : Nat → Prop) : Prop :=
  (nextL t most L wrong = none ∧ e = .returned (.tuple #[.agg #[.int .u8 0, .slice none 0 0], .bool false, .int .i64 (wrongL t most L wrong)])) ∨
  (∃ ty b r q d, nextL t most L wrong = some (ty, b, r) ∧ wrong = 0 ∧ wrongL t most L wrong = 0 ∧ headN t + 4 + b.length ≤ L.length ∧ r = L.drop (headN t + 4 + b.length) ∧ e = .returned (.tuple #[.agg #[.int .u8 (ty : Nat), .slice q b.length d], .bool true, .int .i64 0]) ∧ BytesS S w' [.slice q b.length d] b)

theorem frPeek_any (B sb : Nat) (t : Bool) (L : List UInt8) (most room : Nat) (wrong : Int) (v : Value) (w : World) (h : FrO B w sb t L most room wrong v) (hr : 0 < room) (hL : L.length ≤ 262144) :
    Calls Tryz.prog 29 #[.pointer (some ⟨sb, 0, none⟩)] w fun e w' => PeekR t L most wrong e w' (fun k => w.heap.size ≤ k) ∧ FrO B w' sb t L most room (wrongL t most L wrong) v ∧ Touch (fun i => i = sb) w w' := by
  obtain ⟨n, b, r, hwh⟩ : ∃ n b r, frWhole t L most wrong = (n, b, r) := ⟨_, _, _, rfl⟩
  cases b
  · refine (frPeek_no B sb t L most room wrong v n r w h hr hwh).mono ?_
    rintro e w' ⟨rfl, hf, ht⟩
    have hn : nextL t most L wrong = none := by unfold nextL; rw [hwh]; rfl
    have hw : wrongL t most L wrong = r := by unfold wrongL; rw [hwh]
    rw [hw]
    exact ⟨.inl ⟨hn, by rw [hw]⟩, hf, ht⟩
  · obtain ⟨rfl, rfl, m, rfl, hm⟩ := frWhole_yes hwh
    have hw : wrongL t most L 0 = 0 := by unfold wrongL; rw [hwh]
    have hh : headN t ≤ 1 := by cases t <;> simp [headN]
    have hbl : ((L.drop (headN t + 4)).take m).length = m := by rw [List.length_take, List.length_drop]; omega
    have hn : nextL t most L 0 = some (tyOf t L, (L.drop (headN t + 4)).take m, L.drop (headN t + 4 + m)) := by
      unfold nextL
      rw [hwh]
      simp only [if_true, Int.toNat_natCast]
      rw [show headN t + 4 + m - (headN t + 4) = m from by omega]
    refine (frPeek_yes B sb t L most room v (headN t) m _ w h hr rfl hh hwh hm hL rfl).mono ?_
    rintro e w' ⟨q, d, rfl, hb, hf, ht⟩
    rw [hw]
    exact ⟨.inr ⟨_, _, _, q, d, hn, rfl, hw, by rw [hbl]; exact hm, by rw [hbl], rfl, hb⟩, hf, ht⟩

theorem frNext_nil (w : World) : Calls Tryz.prog 34 #[.pointer none] w fun e w' => e = .returned (.tuple #[.agg #[.int .u8 0, .slice none 0 0], .bool false, .int .i64 2]) ∧ Below w.heap.size w w' := by
  have Ha := Lib.hid ((Below.refl w.heap.size w).alloc (Nat.le_refl _) (.cells #[.int .u8 0, .slice none 0 0] 73))
  have Hr := Lib.hid (Blk.new w 73 #[.int .u8 0, .slice none 0 0])
  go_enter Tryz.func34, Tryz.ntmps34
  go_wp2_with fail
  generalize w.alloc (.cells #[.int .u8 0, .slice none 0 0] 73) = w1 at *
  refine (frPeek_nil w1).mono ?_
  rintro e w2 ⟨rfl, hb2⟩
  have hr2 := Hr.out.below hb2 Hr.out.lt
  have hl2 := hr2.lt
  have hrc := hr2.cell
  have hf0 := hr2.frozen 0
  have hf1 := hr2.frozen 1
  have Hb2 := Lib.hid (Ha.out.trans (hb2.mono Ha.out.size))
  have hz := Hb2.out.size
  clear hb2 hr2
  go_wp2
  exact bodyPost_ret (v := .tuple #[.agg #[.int .u8 0, .slice none 0 0], .bool false, .int .i64 2]) (by simp [results, Tryz.results34, go_sem, hrc, hl2]) rfl ⟨rfl, ((Hb2.out.setCell (by exact Nat.le_refl _) _).setCell (by exact Nat.le_refl _) _).alloc (by simpa [World.setCell] using hz) _⟩

/-- What the taking of a message leaves. -/
def NxC (w wx : World) (B sb : Nat) (t : Bool) (R : List UInt8) (most room : Nat) (v : Value) (g ty : Nat) (b : List UInt8) (q : Option Addr) (d : Nat) : Prop :=
  ∃ v', FrO B wx sb t R most room 0 v' ∧ (∀ k, rowOf v' = some k → rowOf v = some k) ∧ Blk wx g 73 #[.int .u8 (ty : Nat), .slice q b.length d] ∧ Blk wx w.heap.size 73 #[.int .u8 0, .slice none 0 0] ∧
    BytesS (fun k => w.heap.size < k) wx [.slice q b.length d] b ∧ Touch (fun i => i = sb ∨ rowOf v = some i) w wx

/-- What stays ahead of it. -/
structure NxI (w0 w : World) (B sb : Nat) (t : Bool) (L : List UInt8) (most room : Nat) (v : Value) (g ty : Nat) (b : List UInt8) (q : Option Addr) (d : Nat) : Prop where
  fr : FrO B w sb t L most room 0 v
  msg : Blk w g 73 #[.int .u8 (ty : Nat), .slice q b.length d]
  res : Blk w w0.heap.size 73 #[.int .u8 0, .slice none 0 0]
  body : BytesS (fun k => w0.heap.size < k) w [.slice q b.length d] b
  tch : Touch (fun i => i = sb) w0 w
  sbl : sb < w0.heap.size
  row : ∀ k, rowOf v = some k → k < w0.heap.size
  gl : w0.heap.size < g

theorem NxI.step {w0 w w' : World} {B sb : Nat} {t : Bool} {L : List UInt8} {most room : Nat} {v : Value} {g ty : Nat} {b : List UInt8} {q : Option Addr} {d : Nat} (h : NxI w0 w B sb t L most room v g ty b q d) (hb : Below w.heap.size w w') : NxI w0 w' B sb t L most room v g ty b q d :=
  ⟨h.fr.still hb, h.msg.below hb h.msg.lt, h.res.below hb h.res.lt, BytesS.still _ _ _ _ _ _ h.body (Kept.all hb), h.tch.then (Touch.of_below (p := fun i => i = sb) hb) (fun _ _ e => e), h.sbl, h.row, h.gl⟩

theorem nxC_end {w w4 w5 : World} {B sb : Nat} {t : Bool} {L R : List UInt8} {most room : Nat} {v v' : Value} {g ty : Nat} {b : List UInt8} {q : Option Addr} {d : Nat} (h : NxI w w4 B sb t L most room v g ty b q d) (ho : OwnBR B w5 v' R) (hr : rowOf v' = rowOf v) (hT : Touch (fun i => rowOf v = some i) w4 w5) :
    NxC w (w5.setCell ⟨sb, 1, none⟩ v') B sb t R most room v g ty b q d := by
  have hsl := h.sbl
  have hgl := h.gl
  have hT2 : Touch (fun i => i = sb) w5 (w5.setCell ⟨sb, 1, none⟩ v') := (Touch.refl (fun i => i = sb) w5).setCell (x := ⟨sb, 1, none⟩) (fun _ => rfl) _
  have hTT : Touch (fun i => i = sb ∨ rowOf v = some i) w4 (w5.setCell ⟨sb, 1, none⟩ v') := (hT.mono (fun _ _ e => .inr e)).trans (hT2.mono (fun _ _ e => .inl e))
  refine ⟨v', FrO.setBytes (hT.blk h.fr.blk h.fr.no) h.fr.sB ho (by rw [hr]; exact h.fr.no), fun k hk => by rw [← hr]; exact hk, hTT.blk h.msg ?_, hTT.blk h.res ?_, BytesS.still _ _ _ _ _ _ h.body (Kept.touch hTT (fun k _ hs => ⟨hs, ?_⟩)), (h.tch.mono (fun _ _ e => .inl e)).then hTT (fun i _ e => e)⟩
  · rintro (e | e)
    · omega
    · have := h.row _ e; omega
  · rintro (e | e)
    · omega
    · have := h.row _ e; omega
  · rintro (e | e)
    · omega
    · have := h.row _ e; omega

end Go.Proofs.YtacnmdlefonjmaaGreat

/-
  The contract of frame's Next on a framer that a call made (layer 4).
-/
namespace Go.Proofs.YtacnmdlefonjmaaGreat
open Go.RowKit

def NextR (B sb : Nat) (t : Bool) (L : List UInt8) (most room : Nat) (wrong : Int) (v : Value) (w : World) (e : Ending) (w' : World) : Prop :=
  (nextL t most L wrong = none ∧ e = .returned (.tuple #[.agg #[.int .u8 0, .slice none 0 0], .bool false, .int .i64 (wrongL t most L wrong)]) ∧ FrO B w' sb t L most room (wrongL t most L wrong) v ∧ Touch (fun i => i = sb) w w') ∨
  (∃ ty b r q d v', nextL t most L wrong = some (ty, b, r) ∧ wrong = 0 ∧ r.length < L.length ∧ b.length ≤ L.length ∧ e = .returned (.tuple #[.agg #[.int .u8 (ty : Nat), .slice q b.length d], .bool true, .int .i64 0]) ∧ BytesS (fun k => w.heap.size ≤ k) w' [.slice q b.length d] b ∧
    FrO B w' sb t r most room 0 v' ∧ (∀ k, rowOf v' = some k → rowOf v = some k) ∧ FrT sb v w w')

set_option maxRecDepth 100000 in
set_option maxHeartbeats 10000000 in
theorem frNext_any (B sb : Nat) (t : Bool) (L : List UInt8) (most room : Nat) (wrong : Int) (v : Value) (w : World) (h : FrO B w sb t L most room wrong v) (hr : 0 < room) (hL : L.length ≤ 262144) :
    Calls Tryz.prog 34 #[.pointer (some ⟨sb, 0, none⟩)] w fun e w' => NextR B sb t L most room wrong v w e w' := by
  have H1 := Lib.hid (h.alloc (.cells #[.int .u8 0, .slice none 0 0] 73))
  have Hres := Lib.hid (Blk.new w 73 #[.int .u8 0, .slice none 0 0])
  have HT1 := Lib.hid ((Touch.refl (fun i => i = sb) w).alloc (.cells #[.int .u8 0, .slice none 0 0] 73))
  have hsl := h.blk.lt
  have Hrow := Lib.hid (fun k hk => (h.own.row k hk).2)
  clear h
  go_enter Tryz.func34, Tryz.ntmps34
  go_wp2_with fail
  have hz1 : (w.alloc (.cells #[.int .u8 0, .slice none 0 0] 73)).heap.size = w.heap.size + 1 := by simp
  generalize w.alloc (.cells #[.int .u8 0, .slice none 0 0] 73) = w1 at *
  refine (frPeek_any B sb t L most room wrong v w1 H1.out hr hL).mono ?_
  rintro e w2 ⟨hp, hf2, hT2⟩
  have hres2 := hT2.blk Hres.out (by omega)
  have HT2 := Lib.hid (HT1.out.trans hT2)
  have hz2 := hT2.size
  rcases hp with ⟨hn, rfl⟩ | ⟨ty, b, r, q, d, hn, rfl, hw0, hbl, rfl, rfl, hbs⟩
  · have Hn := Lib.hid hn
    have Hf2 := Lib.hid hf2
    have hrl := hres2.lt
    have hrc := hres2.cell
    have hrf0 := hres2.frozen 0
    have hrf1 := hres2.frozen 1
    generalize hwl : wrongL t most L wrong = wl at *
    have Hwl := Lib.hid hwl
    clear hn hf2 hT2 hres2 hz1 hwl
    go_wp2
    refine bodyPost_ret (v := .tuple #[.agg #[.int .u8 0, .slice none 0 0], .bool false, .int .i64 wl]) (by simp [results, Tryz.results34, go_sem, hrc, hrl]) rfl (.inl ⟨Hn.out, by rw [Hwl.out], ?_, ?_⟩)
    · rw [Hwl.out]
      have hT : Touch (fun i => i = w.heap.size) w2 ((w2.setCell ⟨w.heap.size, 0, none⟩ (.int .u8 0)).setCell ⟨w.heap.size, 1, none⟩ (.slice none 0 0)) := ((Touch.refl (fun i => i = w.heap.size) w2).setCell (x := ⟨w.heap.size, 0, none⟩) (fun _ => rfl) _).setCell (x := ⟨w.heap.size, 1, none⟩) (fun _ => rfl) _
      exact (Hf2.out.touch hT (by omega) (fun k hk e => by have := Hrow.out k hk; omega)).alloc _
    · have hT : Touch (fun i => i = w.heap.size) w2 ((w2.setCell ⟨w.heap.size, 0, none⟩ (.int .u8 0)).setCell ⟨w.heap.size, 1, none⟩ (.slice none 0 0)) := ((Touch.refl (fun i => i = w.heap.size) w2).setCell (x := ⟨w.heap.size, 0, none⟩) (fun _ => rfl) _).setCell (x := ⟨w.heap.size, 1, none⟩) (fun _ => rfl) _
      exact (HT2.out.then hT (fun i hi e => by omega)).alloc _
  · rw [hw0] at hf2
    have hh1 : headN t ≤ 1 := by cases t <;> simp [headN]
    have Hn := Lib.hid hn
    have HI := Lib.hid (show NxI w (w2.alloc (.cells #[.int .u8 (ty : Nat), .slice q b.length d] 73)) B sb t L most room v w2.heap.size ty b q d from
      ⟨hf2.alloc _, Blk.new _ _ _, hres2.alloc _, BytesS.still _ _ _ _ _ _ hbs (fun k hk hs => ⟨by omega, Below.heap_alloc w2 _ k hk⟩), HT2.out.alloc _, hsl, Hrow.out, by omega⟩)
    clear hn hf2 hT2 hres2 hbs hw0 HT1 HT2 Hres H1
    go_upto_region 3 with (fail)
    generalize w2.alloc (.cells #[.int .u8 (ty : Nat), .slice q b.length d] 73) = w3 at *
    generalize w2.heap.size = g at *
    obtain ⟨pv, cv, rfl, hpv1, hpv2, _⟩ := HI.out.fr.own.slice
    have hfc := HI.out.fr.blk.cell
    have hmc := HI.out.msg.cell
    unfold maxLen at hpv2
    have hws : IntKind.i64.wrap ((headN t : Int) + 4) = (headN t : Int) + 4 := by rw [IntKind.wrap_i64]; omega
    have hws2 : IntKind.i64.wrap ((headN t : Int) + 4 + (b.length : Int)) = (headN t : Int) + 4 + (b.length : Int) := by rw [IntKind.wrap_i64]; omega
    have Hsum := Lib.hid (show (headN t : Int) + 4 + (b.length : Int) = ((headN t + 4 + b.length : Nat) : Int) by omega)
    go_cut [] (fun wx => NxC w wx B sb t (L.drop (headN t + 4 + b.length)) most room (.slice pv L.length cv) g ty b q d)
    case first =>
      go_region_with (first
        | (go_at_call 52; refine (frHead_any t _).mono ?_; rintro e w4 ⟨rfl, hb4⟩; have HI4 := Lib.hid (HI.out.step (below_ofDr hb4)); have hfc4 := HI4.out.fr.blk.cell; have hmc4 := HI4.out.msg.cell; clear hb4)
        | (go_at_call 62; rw [Hsum.out]; refine (delete_any B _ L (headN t + 4 + b.length) _ HI4.out.fr.own (by omega) hbl).mono ?_; rintro e w5 ⟨v5, rfl, ho5, hr5, hT5⟩; obtain ⟨p5, n5, c5, rfl⟩ : ∃ p n c, v5 = .slice p n c := (by obtain ⟨p, c, h, _⟩ := ho5.slice; exact ⟨p, _, c, h⟩); have hfb5 := hT5.blk HI4.out.fr.blk HI4.out.fr.no; have hfc5 := hfb5.cell; have hff5 := hfb5.frozen 1; have HO5 := Lib.hid (nxC_end HI4.out ho5 hr5 hT5); clear ho5 hr5 hT5 hfb5))
      all_goals
        go_wp2_with fail
        go_meet
        exact HO5.out
    case rest =>
      obtain ⟨v', hf, hrw, hm, hres, hbs, hT⟩ := hcut
      have hmc5 := hm.cell
      have hrc := hres.cell
      have hrf0 := hres.frozen 0
      have hrf1 := hres.frozen 1
      have Hf := Lib.hid hf
      have Hrw := Lib.hid hrw
      have Hbs := Lib.hid hbs
      have HT := Lib.hid hT
      have hTs : ∀ a c, Touch (fun i => i = w.heap.size) wc ((wc.setCell ⟨w.heap.size, 0, none⟩ a).setCell ⟨w.heap.size, 1, none⟩ c) := fun a c => ((Touch.refl (fun i => i = w.heap.size) wc).setCell (x := ⟨w.heap.size, 0, none⟩) (fun _ => rfl) a).setCell (x := ⟨w.heap.size, 1, none⟩) (fun _ => rfl) c
      have HTs := Lib.hid hTs
      have hrl : (L.drop (headN t + 4 + b.length)).length < L.length := by rw [List.length_drop]; omega
      have Hrl := Lib.hid hrl
      have hwg : ¬ g = w.heap.size := by omega
      have hwg2 : ¬ w.heap.size = g := by omega
      clear hf hrw hbs hT hTs hm hres hrl hfc hmc
      go_wp2
      refine bodyPost_ret (v := .tuple #[.agg #[.int .u8 (ty : Nat), .slice q b.length d], .bool true, .int .i64 0]) (by simp [results, Tryz.results34, go_sem, hrc]) rfl (.inr ⟨ty, b, _, q, d, v', Hn.out, rfl, Hrl.out, by omega, rfl, ?_, ?_, Hrw.out, ?_⟩)
      · exact BytesS.still _ _ _ _ _ _ Hbs.out (Kept.touch (HTs.out _ _) (fun k _ hs => ⟨by omega, by omega⟩))
      · exact Hf.out.touch (HTs.out _ _) (by omega) (fun k hk e => by have := Hrow.out k (Hrw.out k hk); omega)
      · exact HT.out.then (HTs.out _ _) (fun i hi e => by omega)

end Go.Proofs.YtacnmdlefonjmaaGreat

/-
  A client in memory (layer 39).
-/
namespace Go.Proofs.YtacnmdlefonjmaaGreat
open Go.RowKit
set_option linter.unusedVariables false
set_option linter.unusedSimpArgs false

/-- A client in memory: its struct in block cb, its framer. -/
structure ClO (B : Nat) (w : World) (cb sb : Nat) (t : Bool) (L : List UInt8) (most room : Nat) (wrong : Int) (v : Value) : Prop where
  blk : Blk w cb 65 #[.pointer (some ⟨sb, 0, none⟩), .bool t]
  fr : FrO B w sb t L most room wrong v
  cB : B ≤ cb
  ne : cb ≠ sb
  no : rowOf v ≠ some cb
section
variable {B : Nat} {w w' : World} {cb sb : Nat} {t : Bool} {L L' : List UInt8} {most room : Nat} {wrong wrong' : Int} {v v' : Value}
theorem ClO.touch {p : Nat → Prop} (h : ClO B w cb sb t L most room wrong v) (ht : Touch p w w') (h0 : ¬ p cb) (h1 : ¬ p sb) (h2 : ∀ k, rowOf v = some k → ¬ p k) : ClO B w' cb sb t L most room wrong v :=
  ⟨ht.blk h.blk h0, h.fr.touch ht h1 h2, h.cB, h.ne, h.no⟩
theorem ClO.still (h : ClO B w cb sb t L most room wrong v) (hb : Below w.heap.size w w') : ClO B w' cb sb t L most room wrong v :=
  h.touch (Touch.of_below (p := fun _ => False) hb) (fun e => e) (fun e => e) (fun _ _ e => e)
/-- The framer did a step. -/
theorem ClO.step (h : ClO B w cb sb t L most room wrong v) (hf : FrO B w' sb t L' most room wrong' v') (hr : ∀ k, rowOf v' = some k → rowOf v = some k ∨ w.heap.size ≤ k) (hT : Touch (fun i => i = sb ∨ rowOf v = some i) w w') : ClO B w' cb sb t L' most room wrong' v' :=
  ⟨hT.blk h.blk (fun e => by rcases e with e | e; (· exact h.ne e); (· exact h.no e)), hf, h.cB, h.ne, fun e => by
    rcases hr cb e with e' | e'
    · exact h.no e'
    · have := h.blk.lt; omega⟩
end
theorem clReady_nil (w : World) : Calls Tryz.prog 24 #[.pointer none] w fun e w' => e = .returned (.bool false) ∧ w = w' := by
  go_enter Tryz.func24, Tryz.ntmps24
  go_wp2
  go_ret
  exact ⟨rfl, rfl⟩
set_option maxRecDepth 100000 in
theorem clReady_blk (cb : Nat) (u : Value) (p : Option Addr) (w : World) (h : ∀ i, w.cell? ⟨cb, i, none⟩ = (#[.pointer p, u] : Array Value)[i]?) :
    Calls Tryz.prog 24 #[.pointer (some ⟨cb, 0, none⟩)] w fun e w' => e = .returned (.bool p.isSome) ∧ w = w' := by
  cases p with
  | none =>
    go_enter Tryz.func24, Tryz.ntmps24
    go_wp2
    go_ret
    exact ⟨rfl, rfl⟩
  | some a =>
    go_enter Tryz.func24, Tryz.ntmps24
    go_wp2
    go_ret
    exact ⟨rfl, rfl⟩
/-- What no call made. -/
theorem cl_none (x : Option Addr) (u : Value) (w : World) (h : x = none ∨ ∃ cb, x = some ⟨cb, 0, none⟩ ∧ ∀ i, w.cell? ⟨cb, i, none⟩ = (#[.pointer none, u] : Array Value)[i]?) :
    Calls Tryz.prog 24 #[.pointer x] w fun e w' => e = .returned (.bool false) ∧ w = w' := by
  rcases h with rfl | ⟨cb, rfl, h⟩
  · exact clReady_nil w
  · exact clReady_blk cb u none w h
theorem clFeed_none (x : Option Addr) (y : Value) (w : World) (h : Calls Tryz.prog 24 #[.pointer x] w fun e w' => e = .returned (.bool false) ∧ w = w') :
    Calls Tryz.prog 9 #[.pointer x, y] w fun e w' => e = .returned (.int .i64 2) ∧ w = w' := by
  have H := Lib.hid h
  clear h
  go_enter Tryz.func9, Tryz.ntmps9
  go_wp2_with fail
  refine H.out.mono ?_
  rintro e w1 ⟨rfl, rfl⟩
  go_wp2
  go_ret
  exact ⟨rfl, rfl⟩
theorem clSize_none (x : Option Addr) (w : World) (h : Calls Tryz.prog 24 #[.pointer x] w fun e w' => e = .returned (.bool false) ∧ w = w') :
    Calls Tryz.prog 17 #[.pointer x] w fun e w' => e = .returned (.int .i64 0) ∧ w = w' := by
  have H := Lib.hid h
  clear h
  go_enter Tryz.func17, Tryz.ntmps17
  go_wp2_with fail
  refine H.out.mono ?_
  rintro e w1 ⟨rfl, rfl⟩
  go_wp2
  go_ret
  exact ⟨rfl, rfl⟩
theorem clBegin_nil (w : World) : Calls Tryz.prog 16 #[.pointer none] w fun e w' => e = .returned (.tuple #[]) ∧ w = w' := by
  go_enter Tryz.func16, Tryz.ntmps16
  go_wp2_with fail
  refine (clReady_nil _).mono ?_
  rintro e w1 ⟨rfl, rfl⟩
  go_wp2
  go_end0
  exact ⟨rfl, rfl⟩

theorem frBegin_any (B sb : Nat) (t : Bool) (L : List UInt8) (most room : Nat) (wrong : Int) (v : Value) (w : World) (h : FrO B w sb t L most room wrong v) (hr : 0 < room) :
    Calls Tryz.prog 36 #[.pointer (some ⟨sb, 0, none⟩)] w fun e w' => e = .returned (.tuple #[]) ∧ FrO B w' sb true L most room wrong v ∧ Touch (fun i => i = sb) w w' := by
  obtain ⟨p, c, rfl, _⟩ := h.own.slice
  have hc := h.blk.cell
  have hf := h.blk.frozen
  have hd : decide (0 < room) = true := by simpa using hr
  have HR := frReady_blk sb _ _ _ _ room w hc
  rw [hd] at HR
  have HR := Lib.hid HR
  have hT : Touch (fun i => i = sb) w (w.setCell ⟨sb, 0, none⟩ (.bool true)) := (Touch.refl (fun i => i = sb) w).setCell (x := ⟨sb, 0, none⟩) (fun _ => rfl) _
  have HE : Hid (FrO B (w.setCell ⟨sb, 0, none⟩ (.bool true)) sb true L most room wrong (.slice p L.length c) ∧ Touch (fun i => i = sb) w (w.setCell ⟨sb, 0, none⟩ (.bool true))) := Lib.hid ⟨⟨by simpa using h.blk.set_ 0 (.bool true), h.own.touch hT (fun k hk e => h.no (by rw [hk, e])), h.sB, h.no⟩, hT⟩
  clear h hT hd
  go_enter Tryz.func36, Tryz.ntmps36
  go_wp2_with fail
  refine HR.out.mono ?_
  rintro e w1 ⟨rfl, rfl⟩
  go_wp2
  go_end0
  exact ⟨rfl, HE.out⟩
theorem frFeed_full (B sb : Nat) (t : Bool) (L : List UInt8) (most room : Nat) (wrong : Int) (v : Value) (p : Option Addr) (n c : Nat) (w : World) (h : FrO B w sb t L most room wrong v) (hr : 0 < room) (hrm : room ≤ 262144) (hL : L.length ≤ room) (hfull : room < L.length + n) :
    Calls Tryz.prog 25 #[.pointer (some ⟨sb, 0, none⟩), .slice p n c] w fun e w' => e = .returned (.int .i64 6) ∧ ∃ r, w' = w.drewN r := by
  obtain ⟨pv, cv, rfl, _⟩ := h.own.slice
  have hc := h.blk.cell
  have hd : decide (0 < room) = true := by simpa using hr
  have HR := frReady_blk sb _ _ _ _ room w hc
  rw [hd] at HR
  have HR := Lib.hid HR
  have hwr : IntKind.i64.wrap ((room : Int) - (L.length : Int)) = (room : Int) - (L.length : Int) := by rw [IntKind.wrap_i64]; omega
  have hgt : (room : Int) - (L.length : Int) < (n : Int) := by omega
  clear h hd
  go_enter Tryz.func25, Tryz.ntmps25
  go_wp2_with fail
  refine HR.out.mono ?_
  rintro e w1 ⟨rfl, rfl⟩
  go_wp2_with fail
  go_quiet (fail)
  go_wp2
  go_ret
  exact ⟨rfl, _, rfl⟩

theorem clNew_ok (most room : Nat) (w : World) (h1 : 4 ≤ most) (h2 : most ≤ 65536) (h3 : most < room) (h4 : room ≤ 262144) :
    Calls Tryz.prog 5 #[.int .i64 (most : Int), .int .i64 (room : Int)] w fun e w' => ∃ cb sb, e = .returned (.tuple #[.pointer (some ⟨cb, 0, none⟩), .int .i64 0]) ∧ ClO w.heap.size w' cb sb false [] most room 0 (.slice none 0 0) ∧ Below w.heap.size w w' := by
  have HN := Lib.hid (frNew_ok most room true w h1 h2 h3 h4)
  go_enter Tryz.func5, Tryz.ntmps5
  go_wp2_with fail
  refine HN.out.mono ?_
  rintro e w1 ⟨rfl, hf, hb⟩
  have hlt := hf.blk.lt
  have HF : Hid (ClO w.heap.size (w1.alloc (.cells #[.pointer (some ⟨w.heap.size, 0, none⟩), .bool false] 65)) w1.heap.size w.heap.size false [] most room 0 (.slice none 0 0)) := Lib.hid ⟨Blk.new _ _ _, hf.alloc _, hb.size, by omega, by simp [rowOf]⟩
  have HB := Lib.hid (hb.alloc hb.size (.cells #[.pointer (some ⟨w.heap.size, 0, none⟩), .bool false] 65))
  clear hf hb hlt HN
  go_wp2_with fail
  go_ret2
  exact ⟨_, _, rfl, HF.out, HB.out⟩
theorem clFeed_ok (B cb sb : Nat) (t : Bool) (L : List UInt8) (most room : Nat) (wrong : Int) (v : Value) (p : Option Addr) (l : List UInt8) (c : Nat) (w : World) (h : ClO B w cb sb t L most room wrong v) (hr : 0 < room) (hrm : room ≤ 262144)
    (hfit : L.length + l.length ≤ room) (hBw : B ≤ w.heap.size) (hl : BytesIn w p l) :
    Calls Tryz.prog 9 #[.pointer (some ⟨cb, 0, none⟩), .slice p l.length c] w fun e w' => ∃ v', e = .returned (.int .i64 0) ∧ ClO B w' cb sb t (L ++ l) most room wrong v' ∧ (∀ k, rowOf v' = some k → rowOf v = some k ∨ w.heap.size ≤ k) ∧ FrT sb v w w' := by
  have hc := h.blk.cell
  have HR := Lib.hid (clReady_blk cb _ _ w hc)
  have HF := Lib.hid (frFeed_ok B sb t L most room wrong v p l c w h.fr hr hrm hfit hBw hl)
  have H := Lib.hid h
  clear h hl
  go_enter Tryz.func9, Tryz.ntmps9
  go_wp2_with fail
  refine HR.out.mono ?_
  rintro e w1 ⟨rfl, rfl⟩
  go_wp2_with fail
  refine HF.out.mono ?_
  rintro e w2 ⟨v', rfl, hf, hr', hT⟩
  have HE := Lib.hid (And.intro (H.out.step hf hr' hT) (And.intro hr' hT))
  clear hf hr' hT HF
  go_wp2_with fail
  go_ret
  exact ⟨v', rfl, HE.out⟩
theorem clFeed_full (B cb sb : Nat) (t : Bool) (L : List UInt8) (most room : Nat) (wrong : Int) (v : Value) (p : Option Addr) (n c : Nat) (w : World) (h : ClO B w cb sb t L most room wrong v) (hr : 0 < room) (hrm : room ≤ 262144) (hL : L.length ≤ room) (hfull : room < L.length + n) :
    Calls Tryz.prog 9 #[.pointer (some ⟨cb, 0, none⟩), .slice p n c] w fun e w' => e = .returned (.int .i64 6) ∧ ∃ r, w' = w.drewN r := by
  have hc := h.blk.cell
  have HR := Lib.hid (clReady_blk cb _ _ w hc)
  have HF := Lib.hid (frFeed_full B sb t L most room wrong v p n c w h.fr hr hrm hL hfull)
  clear h
  go_enter Tryz.func9, Tryz.ntmps9
  go_wp2_with fail
  refine HR.out.mono ?_
  rintro e w1 ⟨rfl, rfl⟩
  go_wp2_with fail
  refine HF.out.mono ?_
  rintro e w2 ⟨rfl, r, rfl⟩
  go_wp2_with fail
  go_ret
  exact ⟨rfl, r, rfl⟩
theorem clSize_any (B cb sb : Nat) (t : Bool) (L : List UInt8) (most room : Nat) (wrong : Int) (v : Value) (w : World) (h : ClO B w cb sb t L most room wrong v) (hr : 0 < room) :
    Calls Tryz.prog 17 #[.pointer (some ⟨cb, 0, none⟩)] w fun e w' => e = .returned (.int .i64 (L.length : Nat)) ∧ w = w' := by
  have hc := h.blk.cell
  have HR := Lib.hid (clReady_blk cb _ _ w hc)
  have HF := Lib.hid (frSize_any B sb t L most room wrong v w h.fr hr)
  clear h
  go_enter Tryz.func17, Tryz.ntmps17
  go_wp2_with fail
  refine HR.out.mono ?_
  rintro e w1 ⟨rfl, rfl⟩
  go_wp2_with fail
  refine HF.out.mono ?_
  rintro e w2 ⟨rfl, rfl⟩
  go_wp2_with fail
  go_ret
  exact ⟨rfl, rfl⟩
theorem clBegin_any (B cb sb : Nat) (t : Bool) (L : List UInt8) (most room : Nat) (wrong : Int) (v : Value) (w : World) (h : ClO B w cb sb t L most room wrong v) (hr : 0 < room) :
    Calls Tryz.prog 16 #[.pointer (some ⟨cb, 0, none⟩)] w fun e w' => e = .returned (.tuple #[]) ∧ ClO B w' cb sb true L most room wrong v ∧ Touch (fun i => i = cb ∨ i = sb) w w' := by
  have hc := h.blk.cell
  have hf := h.blk.frozen
  have HR := Lib.hid (clReady_blk cb _ _ w hc)
  have hT1 : Touch (fun i => i = cb) w (w.setCell ⟨cb, 1, none⟩ (.bool true)) := (Touch.refl (fun i => i = cb) w).setCell (x := ⟨cb, 1, none⟩) (fun _ => rfl) _
  have hb1 : Blk (w.setCell ⟨cb, 1, none⟩ (.bool true)) cb 65 #[.pointer (some ⟨sb, 0, none⟩), .bool true] := by simpa using h.blk.set_ 1 (.bool true)
  have HF := Lib.hid (frBegin_any B sb t L most room wrong v _ (h.fr.touch hT1 (fun e => h.ne e.symm) (fun k hk e => h.no (by rw [hk, e]))) hr)
  have H := Lib.hid h
  have HB1 := Lib.hid hb1
  have HT1 := Lib.hid hT1
  have hc1 := hb1.cell
  clear h hT1 hb1
  go_enter Tryz.func16, Tryz.ntmps16
  go_wp2_with fail
  refine HR.out.mono ?_
  rintro e w1 ⟨rfl, rfl⟩
  go_upto_region 2 with (fail)
  generalize (w.setCell ⟨cb, 1, none⟩ (.bool true)) = w1 at *
  clear hc hf
  go_wp2_with fail
  refine HF.out.mono ?_
  rintro e w2 ⟨rfl, hf2, hT2⟩
  have HE : Hid (ClO B w2 cb sb true L most room wrong v ∧ Touch (fun i => i = cb ∨ i = sb) w w2) := Lib.hid ⟨⟨hT2.blk HB1.out H.out.ne, hf2, H.out.cB, H.out.ne, H.out.no⟩, (HT1.out.mono (fun _ _ e => .inl e)).trans (hT2.mono (fun _ _ e => .inr e))⟩
  clear hf2 hT2 HF
  go_wp2
  go_end0
  exact ⟨rfl, HE.out⟩

end Go.Proofs.YtacnmdlefonjmaaGreat

