/-
  The contract of frame's Peek, where a message is there (layer 4).
-/
import Derived.Test.YtpdkoijgemgaiaaFrC
namespace Go.Proofs.Ytpdkoijgemgaiaa
open Go.RowKit

def tyOf (t : Bool) (L : List UInt8) : Nat := if t then (L.getD 0 0).toNat else 0

theorem frBody {w w3 w4 : World} {g : Nat} {v : Value} {b : List UInt8} (ho : OwnBR w3.heap.size w4 v b) (h1 : w.heap.size < w3.heap.size) (h2 : g < w3.heap.size) : ∀ p n c, v = .slice p n c → n = b.length → BytesS (fun k => w.heap.size < k ∧ k ≠ g) w4 [.slice p b.length c] b := by
  intro p n c e hn
  obtain ⟨p', c', e', hB⟩ := ho.bytesS (S := fun k => w.heap.size < k ∧ k ≠ g) (fun k hk => ⟨by omega, by omega⟩)
  rw [e] at e'
  cases e'
  exact hB
theorem frBody0 {w w3 w4 : World} {v : Value} {b : List UInt8} (ho : OwnBR w3.heap.size w4 v b) (h1 : w.heap.size < w3.heap.size) : ∀ p n c, v = .slice p n c → n = b.length → BytesS (fun k => w.heap.size < k) w4 [.slice p b.length c] b := by
  intro p n c e hn
  obtain ⟨p', c', e', hB⟩ := ho.bytesS (S := fun k => w.heap.size < k) (fun k hk => by omega)
  rw [e] at e'
  cases e'
  exact hB

theorem pk_end {w wc wF : World} {B sb g : Nat} {t : Bool} {L : List UInt8} {most room : Nat} {v : Value} {b : List UInt8} {q : Option Addr} {d : Nat} (hpk : PkI w wc B sb t L most room 0 v) (hB : BytesS (fun k => w.heap.size < k ∧ k ≠ g) wc [.slice q b.length d] b) (hg : w.heap.size < g)
    (hT : Touch (fun i => i = g ∨ i = w.heap.size) wc wF) : BytesS (fun k => w.heap.size ≤ k) wF [.slice q b.length d] b ∧ FrO B wF sb t L most room 0 v ∧ Touch (fun i => i = sb) w wF := by
  have hsl := hpk.sbl
  refine ⟨BytesS.still _ _ _ _ _ _ hB (Kept.touch hT (fun k _ hs => ⟨by omega, by omega⟩)), hpk.fr.touch hT (by omega) (fun k hk e => by have := hpk.row k hk; omega), hpk.tch.then hT (fun i hi e => by omega)⟩

theorem below_len {w w' : World} (h : Below w.heap.size w w') : w.heap.size ≤ w'.heap.size := h.size

set_option maxRecDepth 100000 in
set_option maxHeartbeats 10000000 in
theorem frPeek_yes (B sb : Nat) (t : Bool) (L : List UInt8) (most room : Nat) (v : Value) (hd m : Nat) (b : List UInt8) (w : World) (h : FrO B w sb t L most room 0 v) (hr : 0 < room) (hhd : headN t = hd) (hh1 : hd ≤ 1)
    (hwh : frWhole t L most 0 = (((hd + 4 + m : Nat) : Int), true, 0)) (hlen : hd + 4 + m ≤ L.length) (hL : L.length ≤ 262144) (hb : b = (L.drop (hd + 4)).take m) :
    Calls Try.prog 43 #[.pointer (some ⟨sb, 0, none⟩)] w fun e w' => ∃ q d, e = .returned (.tuple #[.agg #[.int .u8 (tyOf t L : Nat), .slice q b.length d], .bool true, .int .i64 0]) ∧ BytesS (fun k => w.heap.size ≤ k) w' [.slice q b.length d] b ∧ FrO B w' sb t L most room 0 v ∧ Touch (fun i => i = sb) w w' := by
  have H1 := Lib.hid (PkI.start h)
  have Hwh := Lib.hid hwh
  have Hd := Lib.hid (show decide (0 < room) = true by simpa using hr)
  have hbl : b.length = m := by rw [hb, List.length_take, List.length_drop]; omega
  have Hbl := Lib.hid hbl
  have Hb := Lib.hid hb
  have Hhd := Lib.hid hhd
  clear h hwh hb hbl hhd
  go_enter Try.func43, Try.ntmps43
  go_wp2_with fail
  generalize w.alloc (.cells #[.int .u8 0, .slice none 0 0] 67) = w1 at *
  refine (frReady_blk sb _ _ _ _ room _ H1.out.fr.blk.cell).mono ?_
  rintro e w1' ⟨rfl, rfl⟩
  rw [Hd.out]
  go_wp2_with fail
  refine (frWhole_any B sb t L most room 0 v w1 H1.out.fr).mono ?_
  rintro e w2 ⟨n2, b2, r2, hw2, rfl, hf2, hT2⟩
  have hw3 := Hwh.out
  rw [hw3] at hw2
  simp only [Prod.mk.injEq] at hw2
  obtain ⟨rfl, rfl, rfl⟩ := hw2
  have hsl := H1.out.sbl
  have HP := Lib.hid (show PkI w w2 B sb t L most room 0 v from ⟨hf2, hT2.blk H1.out.res (by omega), H1.out.tch.trans hT2, hsl, H1.out.row⟩)
  clear hw3 hf2 hT2 H1 Hwh
  obtain ⟨p, c, rfl, hlc, hcm, hin, _⟩ := HP.out.fr.own.slice
  obtain ⟨gb, go, rfl⟩ := hin.addr (by omega)
  have Hc2 := HP.out.fr.blk.cell
  have hc0 := hin.cellAt 0 (by omega)
  rw [Nat.add_zero] at hc0
  have hgb : gb < w2.heap.size := World.block_lt_of_cell? w2 _ hc0
  have hz2 : w.heap.size < w2.heap.size := HP.out.res.lt
  have hs2 : sb < w2.heap.size := by omega
  have Hin := Lib.hid hin
  unfold maxLen at hcm
  have hwr : IntKind.i64.wrap ((hd : Int) + 4) = (hd : Int) + 4 := by rw [IntKind.wrap_i64]; omega
  have hk0 : (0 : Int) ≤ (hd : Int) + 4 := by omega
  have hk1 : ((hd : Int) + 4) ≤ ((hd + 4 + m : Nat) : Int) := by omega
  have hk2 : ((hd + 4 + m : Nat) : Int) ≤ (c : Int) := by omega
  have hk3 : ((hd : Int) + 4).toNat = hd + 4 := by omega
  have hk4 : hd + 4 + m - (hd + 4) = m := by omega
  have hk5 : ((hd : Int) + 4) ≤ (hd : Int) + 4 + (m : Int) := by omega
  have hk6 : (hd : Int) + 4 + (m : Int) ≤ (c : Int) := by omega
  have hk7 : ((hd : Int) + 4 + (m : Int)).toNat = hd + 4 + m := by omega
  have hk8 : (0 : Int) ≤ (hd : Int) + 4 + (m : Int) := by omega
  have hne2 : ¬ w2.heap.size = sb := by omega
  have HPa := Lib.hid (HP.out.alloc (.cells #[.int .u8 0, .slice none 0 0] 67))
  have Hina := Lib.hid (Hin.out.alloc (.cells #[.int .u8 0, .slice none 0 0] 67))
  have HVa := Lib.hid (Blk.new w2 67 #[.int .u8 0, .slice none 0 0])
  have hsa : (w2.alloc (.cells #[.int .u8 0, .slice none 0 0] 67)).heap.size = w2.heap.size + 1 := by simp
  have Hsa := Lib.hid hsa
  have hnew2 := World.new_ne w2 ⟨sb, 0, none⟩ (Hc2 0)
  clear hsa hc0 hin
  by_cases hcc : hd + 4 = c
  · subst hcc
    obtain rfl : m = 0 := by omega
    have hb0' : b = [] := List.eq_nil_of_length_eq_zero Hbl.out
    have Hcl : Hid (∀ w, BytesIn w (some ⟨gb, go, none⟩) L → Calls Try.prog 94 #[.slice (some ⟨gb, go, none⟩) 0 0] w fun e w' => ∃ v, e = .returned v ∧ OwnBR w.heap.size w' v b ∧ Below w.heap.size w w') := Lib.hid (by
      intro w hin
      rw [hb0']
      exact sclone_any (some ⟨gb, go, none⟩) [] 0 w (by simp) (BytesIn.nil _ _))
    clear hb0'
    go_upto_region 6 with (fail)
    go_cut [8] (fun s8 wx => PkC w wx B sb t L most room (.slice (some ⟨gb, go, none⟩) L.length (hd + 4)) s8 b)
    case first =>
      go_region_held3 (fun w' => ∀ i, w'.cell? ⟨sb, i, none⟩ = (#[.bool t, .slice (some ⟨gb, go, none⟩) L.length (hd + 4), .int .i64 (most : Int), .int .i64 (room : Int), .int .i64 0] : Array Value)[i]?)
        (first | exact Hc2 | exact HP4.out.fr.blk.cell | exact HP3.out.fr.blk.cell | exact HPa.out.fr.blk.cell | exact (HP3.out.alloc _).fr.blk.cell | exact (HP4.out.alloc _).fr.blk.cell | go_keep)
        (first
          | (go_at_call 92; refine (frHead_any t _).mono ?_; rintro e w3 ⟨rfl, hb3⟩; rw [Hhd.out]; (first
              | (have HP3 := Lib.hid (HP.out.drew.step hb3); have Hin3 := Lib.hid (Hin.out.below (below_ofDr hb3)); have hs3 : w2.heap.size ≤ w3.heap.size := hb3.size)
              | (have HP3 := Lib.hid (HPa.out.drew.step hb3); have Hin3 := Lib.hid (Hina.out.below (below_ofDr hb3)); have hs3 : w2.heap.size + 1 ≤ w3.heap.size := (by have := hb3.size; have := Hsa.out; exact Nat.le_trans (Nat.le_of_eq this.symm) hb3.size); have HV3 := Lib.hid (HVa.out.below (below_ofDr hb3) HVa.out.lt))); clear hb3)
          | (go_at_call 94; refine (Hcl.out _ ?_).mono ?_; (first | exact Hin3.out | exact Hin3.out.alloc _); rintro e w4 ⟨v4, rfl, ho4, hb4⟩; obtain ⟨p4, c4, rfl, _⟩ := ho4.slice; (first
              | (have HP4 := Lib.hid (HP3.out.step hb4); have HV4 := Lib.hid (HV3.out.below hb4 HV3.out.lt); have HB4 := Lib.hid (frBody (w := w) (g := w2.heap.size) ho4 (by omega) (by omega)); have hcV := HV4.out.cell; have hfV0 := HV4.out.frozen 0; have hfV1 := HV4.out.frozen 1)
              | (have HP4 := Lib.hid (HP3.out.step hb4); have HB4 := Lib.hid (frBody0 (w := w) ho4 (by omega)))
              | (have HP4 := Lib.hid ((HP3.out.alloc (.cells #[.int .u8 0, .slice none 0 0] 67)).step hb4); have HV4 := Lib.hid ((Blk.new w3 67 #[.int .u8 0, .slice none 0 0]).below hb4 (by simp)); have hsb3 : (w3.alloc (.cells #[.int .u8 0, .slice none 0 0] 67)).heap.size = w3.heap.size + 1 := (by simp); have HB4 := Lib.hid (frBody (w := w) (g := w3.heap.size) ho4 (by omega) (by omega)); have hne3 : ¬ w3.heap.size = sb := (by omega); have hcV := HV4.out.cell; have hfV0 := HV4.out.frozen 0; have hfV1 := HV4.out.frozen 1; clear hsb3)); clear ho4 hb4))
      all_goals
        go_wp2_with fail
        go_meet
        first
          | exact pkC_new HP4.out (HB4.out _ _ _ rfl rfl)
          | exact pkC_set HP4.out (HB4.out _ _ _ rfl rfl) (by omega) HV4.out
    case rest =>
      obtain ⟨g, q, d, rfl, hv, hB, hpk, hg⟩ := hcut
      have hvc := hv.cell
      have hvf := hv.frozen 0
      have hrc := hpk.res.cell
      have hrf0 := hpk.res.frozen 0
      have hrf1 := hpk.res.frozen 1
      have hfc := hpk.fr.blk.cell
      have hne4 : ¬ g = sb := by omega
      have hne5 : ¬ w.heap.size = sb := by omega
      have hne6 : ¬ g = w.heap.size := by omega
      have hne7 : ¬ w.heap.size = g := by omega
      obtain ⟨p9, c9, e9, _, _, hin9, _⟩ := hpk.fr.own.slice
      simp only [Value.slice.injEq] at e9
      obtain ⟨rfl, -, rfl⟩ := e9
      have hb0 := hin9.cellAt 0 (by omega)
      rw [Nat.add_zero] at hb0
      have hi0 : 0 < L.length := by omega
      have HE : Hid (∀ wF, Touch (fun i => i = g ∨ i = w.heap.size) wc wF → BytesS (fun k => w.heap.size ≤ k) wF [.slice q b.length d] b ∧ FrO B wF sb t L most room 0 (.slice (some ⟨gb, go, none⟩) L.length (hd + 4)) ∧ Touch (fun i => i = sb) w wF) := Lib.hid (fun wF hT => pk_end hpk hB hg hT)
      have hty : tyOf t L = if t then (L.getD 0 0).toNat else 0 := rfl
      have Hty := Lib.hid hty
      have hx0 := u8_bd (L.getD 0 0)
      generalize (L.getD 0 0).toNat = x0 at hb0 hx0 Hty
      clear hv hB hpk hin9 hty Hc2 HP HPa Hina HVa Hcl
      cases t
      · have Hty0 := Lib.hid (show tyOf false L = 0 by rw [Hty.out]; rfl)
        clear hb0
        go_wp2
        refine bodyPost_ret (v := .tuple #[.agg #[.int .u8 0, .slice q b.length d], .bool true, .int .i64 0]) (by simp [results, Try.results43, go_sem, hrc]) rfl ⟨q, d, by rw [Hty0.out] <;> rfl, HE.out _ ?_⟩
        exact ((Touch.refl (fun i => i = g ∨ i = w.heap.size) wc).setCell (x := ⟨w.heap.size, 0, none⟩) (fun _ => .inr rfl) _).setCell (x := ⟨w.heap.size, 1, none⟩) (fun _ => .inr rfl) _
      · have Hty0 := Lib.hid (show tyOf true L = x0 by rw [Hty.out]; rfl)
        go_wp2
        refine bodyPost_ret (v := .tuple #[.agg #[.int .u8 (x0 : Nat), .slice q b.length d], .bool true, .int .i64 0]) (by simp [results, Try.results43, go_sem, hrc]) rfl ⟨q, d, by rw [Hty0.out] <;> rfl, HE.out _ ?_⟩
        exact (((Touch.refl (fun i => i = g ∨ i = w.heap.size) wc).setCell (x := ⟨g, 0, none⟩) (fun _ => .inl rfl) _).setCell (x := ⟨w.heap.size, 0, none⟩) (fun _ => .inr rfl) _).setCell (x := ⟨w.heap.size, 1, none⟩) (fun _ => .inr rfl) _
  · have hcc2 : ¬ c = hd + 4 := fun e => hcc e.symm
    have Hcl : Hid (∀ w, BytesIn w (some ⟨gb, go, none⟩) L → Calls Try.prog 94 #[.slice (some ⟨gb, go + (hd + 4), none⟩) m (c - (hd + 4))] w fun e w' => ∃ v, e = .returned v ∧ OwnBR w.heap.size w' v b ∧ Below w.heap.size w w') := Lib.hid (by
      intro w hin
      have := sclone_any (some ⟨gb, go + (hd + 4), none⟩) ((L.drop (hd + 4)).take m) (c - (hd + 4)) w (by rw [← Hb.out, Hbl.out]; omega) ((hin.drop (hd + 4)).take m)
      rw [← Hb.out, Hbl.out] at this
      exact this)
    go_upto_region 6 with (fail)
    go_cut [8] (fun s8 wx => PkC w wx B sb t L most room (.slice (some ⟨gb, go, none⟩) L.length c) s8 b)
    case first =>
      go_region_held3 (fun w' => ∀ i, w'.cell? ⟨sb, i, none⟩ = (#[.bool t, .slice (some ⟨gb, go, none⟩) L.length c, .int .i64 (most : Int), .int .i64 (room : Int), .int .i64 0] : Array Value)[i]?)
        (first | exact Hc2 | exact HP4.out.fr.blk.cell | exact HP3.out.fr.blk.cell | exact HPa.out.fr.blk.cell | exact (HP3.out.alloc _).fr.blk.cell | exact (HP4.out.alloc _).fr.blk.cell | go_keep)
        (first
          | (go_at_call 92; refine (frHead_any t _).mono ?_; rintro e w3 ⟨rfl, hb3⟩; rw [Hhd.out]; (first
              | (have HP3 := Lib.hid (HP.out.drew.step hb3); have Hin3 := Lib.hid (Hin.out.below (below_ofDr hb3)); have hs3 : w2.heap.size ≤ w3.heap.size := hb3.size)
              | (have HP3 := Lib.hid (HPa.out.drew.step hb3); have Hin3 := Lib.hid (Hina.out.below (below_ofDr hb3)); have hs3 : w2.heap.size + 1 ≤ w3.heap.size := (by have := hb3.size; have := Hsa.out; exact Nat.le_trans (Nat.le_of_eq this.symm) hb3.size); have HV3 := Lib.hid (HVa.out.below (below_ofDr hb3) HVa.out.lt))); clear hb3)
          | (go_at_call 94; refine (Hcl.out _ ?_).mono ?_; (first | exact Hin3.out | exact Hin3.out.alloc _); rintro e w4 ⟨v4, rfl, ho4, hb4⟩; obtain ⟨p4, c4, rfl, _⟩ := ho4.slice; (first
              | (have HP4 := Lib.hid (HP3.out.step hb4); have HV4 := Lib.hid (HV3.out.below hb4 HV3.out.lt); have HB4 := Lib.hid (frBody (w := w) (g := w2.heap.size) ho4 (by omega) (by omega)); have hcV := HV4.out.cell; have hfV0 := HV4.out.frozen 0; have hfV1 := HV4.out.frozen 1)
              | (have HP4 := Lib.hid (HP3.out.step hb4); have HB4 := Lib.hid (frBody0 (w := w) ho4 (by omega)))
              | (have HP4 := Lib.hid ((HP3.out.alloc (.cells #[.int .u8 0, .slice none 0 0] 67)).step hb4); have HV4 := Lib.hid ((Blk.new w3 67 #[.int .u8 0, .slice none 0 0]).below hb4 (by simp)); have hsb3 : (w3.alloc (.cells #[.int .u8 0, .slice none 0 0] 67)).heap.size = w3.heap.size + 1 := (by simp); have HB4 := Lib.hid (frBody (w := w) (g := w3.heap.size) ho4 (by omega) (by omega)); have hne3 : ¬ w3.heap.size = sb := (by omega); have hcV := HV4.out.cell; have hfV0 := HV4.out.frozen 0; have hfV1 := HV4.out.frozen 1; clear hsb3)); clear ho4 hb4))
      all_goals
        go_wp2_with fail
        go_meet
        first
          | exact pkC_new HP4.out (HB4.out _ _ _ rfl rfl)
          | exact pkC_set HP4.out (HB4.out _ _ _ rfl rfl) (by omega) HV4.out
    case rest =>
      obtain ⟨g, q, d, rfl, hv, hB, hpk, hg⟩ := hcut
      have hvc := hv.cell
      have hvf := hv.frozen 0
      have hrc := hpk.res.cell
      have hrf0 := hpk.res.frozen 0
      have hrf1 := hpk.res.frozen 1
      have hfc := hpk.fr.blk.cell
      have hne4 : ¬ g = sb := by omega
      have hne5 : ¬ w.heap.size = sb := by omega
      have hne6 : ¬ g = w.heap.size := by omega
      have hne7 : ¬ w.heap.size = g := by omega
      obtain ⟨p9, c9, e9, _, _, hin9, _⟩ := hpk.fr.own.slice
      simp only [Value.slice.injEq] at e9
      obtain ⟨rfl, -, rfl⟩ := e9
      have hb0 := hin9.cellAt 0 (by omega)
      rw [Nat.add_zero] at hb0
      have hi0 : 0 < L.length := by omega
      have HE : Hid (∀ wF, Touch (fun i => i = g ∨ i = w.heap.size) wc wF → BytesS (fun k => w.heap.size ≤ k) wF [.slice q b.length d] b ∧ FrO B wF sb t L most room 0 (.slice (some ⟨gb, go, none⟩) L.length c) ∧ Touch (fun i => i = sb) w wF) := Lib.hid (fun wF hT => pk_end hpk hB hg hT)
      have hty : tyOf t L = if t then (L.getD 0 0).toNat else 0 := rfl
      have Hty := Lib.hid hty
      have hx0 := u8_bd (L.getD 0 0)
      generalize (L.getD 0 0).toNat = x0 at hb0 hx0 Hty
      clear hv hB hpk hin9 hty Hc2 HP HPa Hina HVa Hcl
      cases t
      · have Hty0 := Lib.hid (show tyOf false L = 0 by rw [Hty.out]; rfl)
        clear hb0
        go_wp2
        refine bodyPost_ret (v := .tuple #[.agg #[.int .u8 0, .slice q b.length d], .bool true, .int .i64 0]) (by simp [results, Try.results43, go_sem, hrc]) rfl ⟨q, d, by rw [Hty0.out] <;> rfl, HE.out _ ?_⟩
        exact ((Touch.refl (fun i => i = g ∨ i = w.heap.size) wc).setCell (x := ⟨w.heap.size, 0, none⟩) (fun _ => .inr rfl) _).setCell (x := ⟨w.heap.size, 1, none⟩) (fun _ => .inr rfl) _
      · have Hty0 := Lib.hid (show tyOf true L = x0 by rw [Hty.out]; rfl)
        go_wp2
        refine bodyPost_ret (v := .tuple #[.agg #[.int .u8 (x0 : Nat), .slice q b.length d], .bool true, .int .i64 0]) (by simp [results, Try.results43, go_sem, hrc]) rfl ⟨q, d, by rw [Hty0.out] <;> rfl, HE.out _ ?_⟩
        exact (((Touch.refl (fun i => i = g ∨ i = w.heap.size) wc).setCell (x := ⟨g, 0, none⟩) (fun _ => .inl rfl) _).setCell (x := ⟨w.heap.size, 0, none⟩) (fun _ => .inr rfl) _).setCell (x := ⟨w.heap.size, 1, none⟩) (fun _ => .inr rfl) _

end Go.Proofs.Ytpdkoijgemgaiaa
