/-
  Ground: RfB, FrD, RfC, ClAf.
-/
import Derived.Test.YtacnmdlefonjmaaGreatPcZP12
import Derived.BigQuiet
import Derived.Test.YtacnmdlefonjmaaGreatPcZP11
/-
  The document's framer (remudaref04): Peek where nothing is there.
-/
namespace Go.Proofs.YtacnmdlefonjmaaGreat
open Go.RowKit
set_option linter.unusedVariables false
set_option linter.unusedSimpArgs false

/-- What stays while Peek runs. -/
structure RkI (w0 w : World) (B sb : Nat) (hello : Bool) (L : List UInt8) (most room : Nat) (wrong : Int) (v : Value) : Prop where
  fr : RfO B w sb hello L most room wrong v
  res : Blk w w0.heap.size 73 #[.int .u8 0, .slice none 0 0]
  tch : Touch (fun i => i = sb) w0 w
  sbl : sb < w0.heap.size
  row : ∀ k, rowOf v = some k → k < w0.heap.size
section
variable {w0 w w' : World} {B sb : Nat} {hello : Bool} {L : List UInt8} {most room : Nat} {wrong : Int} {v : Value}
theorem RkI.step (h : RkI w0 w B sb hello L most room wrong v) (hb : Below w.heap.size w w') : RkI w0 w' B sb hello L most room wrong v :=
  ⟨h.fr.still hb, h.res.below hb h.res.lt, h.tch.then (Touch.of_below (p := fun i => i = sb) hb) (fun _ _ e => e), h.sbl, h.row⟩
theorem RkI.alloc (h : RkI w0 w B sb hello L most room wrong v) (o : Obj) : RkI w0 (w.alloc o) B sb hello L most room wrong v := h.step ((Below.refl _ _).alloc (Nat.le_refl _) o)
theorem RkI.start (h : RfO B w0 sb hello L most room wrong v) : RkI w0 (w0.alloc (.cells #[.int .u8 0, .slice none 0 0] 73)) B sb hello L most room wrong v :=
  ⟨h.still ((Below.refl _ _).alloc (Nat.le_refl _) _), Blk.new _ _ _, (Touch.refl _ _).alloc _, h.blk.lt, fun k hk => (h.own.row k hk).2⟩
/-- What is wrong is set. -/
theorem RkI.setW (h : RkI w0 w B sb hello L most room wrong v) (e : Int) : RkI w0 (w.setCell ⟨sb, 4, none⟩ (.int .i64 e)) B sb hello L most room e v := by
  have hT : Touch (fun i => i = sb) w (w.setCell ⟨sb, 4, none⟩ (.int .i64 e)) := (Touch.refl (fun i => i = sb) w).setCell (x := ⟨sb, 4, none⟩) (fun _ => rfl) _
  have hsl := h.sbl
  exact ⟨h.fr.setWrong e, hT.blk h.res (by omega), h.tch.trans hT, h.sbl, h.row⟩
/-- The end: nothing is there. -/
theorem RkI.fin (h : RkI w0 w B sb hello L most room wrong v) (a b : Value) : RfO B ((w.setCell ⟨w0.heap.size, 0, none⟩ a).setCell ⟨w0.heap.size, 1, none⟩ b) sb hello L most room wrong v ∧ Touch (fun i => i = sb) w0 ((w.setCell ⟨w0.heap.size, 0, none⟩ a).setCell ⟨w0.heap.size, 1, none⟩ b) := by
  have hT : Touch (fun i => i = w0.heap.size) w ((w.setCell ⟨w0.heap.size, 0, none⟩ a).setCell ⟨w0.heap.size, 1, none⟩ b) := ((Touch.refl (fun i => i = w0.heap.size) w).setCell (x := ⟨w0.heap.size, 0, none⟩) (fun _ => rfl) a).setCell (x := ⟨w0.heap.size, 1, none⟩) (fun _ => rfl) b
  have hsl := h.sbl
  exact ⟨h.fr.touch hT (by omega) (fun k hk e => by have := h.row k hk; omega), h.tch.then hT (fun i hi e => by omega)⟩
end
theorem getV_four {most : Nat} (L : List UInt8) (t : Bool) (n : Int) (b : Bool) (r : Int) (h : frWhole t L most 0 = (n, b, r)) : (L.length < headN t + 4 ∧ getV L (headN t : Nat) 4 = (0, 3)) ∨ (headN t + 4 ≤ L.length ∧ getV L (headN t : Nat) 4 = (frN t L, 0)) := by
  by_cases hl : L.length < headN t + 4
  · left
    refine ⟨hl, ?_⟩
    unfold getV
    rw [if_neg (by rintro (h | h); (· simp [sizedB] at h); (· omega)), if_pos (by omega)]
  · right
    refine ⟨by omega, ?_⟩
    unfold getV
    rw [if_neg (by rintro (h | h); (· simp [sizedB] at h); (· omega)), if_neg (by omega)]
    rfl

set_option maxRecDepth 100000 in
set_option maxHeartbeats 8000000 in
theorem rfPeek_no (B sb : Nat) (hello : Bool) (L : List UInt8) (most room : Nat) (wrong : Int) (v : Value) (n r : Int) (w : World) (h : RfO B w sb hello L most room wrong v) (hL : L.length ≤ 262144) (hm : most ≤ 65536) (hwh : frWhole (!hello) L most wrong = (n, false, r)) :
    Calls Tryz.prog 30 #[.pointer (some ⟨sb, 0, none⟩)] w fun e w' => e = .returned (.tuple #[.agg #[.int .u8 0, .slice none 0 0], .bool false, .int .i64 r]) ∧ RfO B w' sb hello L most room r v ∧ Touch (fun i => i = sb) w w' := by
  have H1 := Lib.hid (RkI.start h)
  obtain ⟨p, c, rfl, hlc, hcm, hin, _⟩ := h.own.slice
  have Hgo := Lib.hid (And.intro hlc hcm)
  have hz : w.heap.size < (w.alloc (.cells #[.int .u8 0, .slice none 0 0] 73)).heap.size := by simp
  have Hz := Lib.hid hz
  have hsl := h.blk.lt
  have hne : ¬ w.heap.size = sb := by omega
  have hne' : ¬ sb = w.heap.size := by omega
  clear h hin hz
  by_cases hw : wrong = 0
  · subst hw
    have Hg4 := Lib.hid (getV_four L (!hello) n false r hwh)
    have hq := frN_bd (!hello) L
    have hh1 : headN (!hello) ≤ 1 := by unfold headN; split <;> omega
    have Hwh := Lib.hid hwh
    clear hwh
    go_enter Tryz.func30, Tryz.ntmps30
    go_upto_region 1 with (fail)
    generalize w.alloc (.cells #[.int .u8 0, .slice none 0 0] 73) = w1 at *
    have hc1 := H1.out.fr.blk.cell
    have Hh : Hid (∀ k, Calls Tryz.prog 54 #[.pointer (some ⟨sb, 0, none⟩)] (w1.drewN k) fun e w' => e = .returned (.int .i64 (headN (!hello) : Nat)) ∧ w' = w1.drewN k) := Lib.hid (fun k => (rfHead_any sb _ _ _ _ hello (w1.drewN k) hc1).mono (fun e w' ⟨h1, h2⟩ => ⟨h1, h2.symm⟩))
    have HG : Hid (∀ k, Calls Tryz.prog 53 #[.slice p L.length c, .int .i64 (headN (!hello) : Nat), .int .i64 4] (w1.drewN k) fun e w' => e = .returned (.tuple #[.int .i64 (getV L (headN (!hello) : Nat) 4).1, .int .i64 (getV L (headN (!hello) : Nat) 4).2]) ∧ w' = w1.drewN k) := Lib.hid (fun k => by
      obtain ⟨p', c', e', h1, h2, h3, _⟩ := OwnBR.slice (H1.out.fr.own.below (belowDN w1 k))
      simp only [Value.slice.injEq, true_and] at e'
      obtain ⟨rfl, rfl⟩ := e'
      exact (getR_any p L c (headN (!hello) : Nat) 4 (w1.drewN k) h1 h2 h3).mono (fun e w' ⟨h1, h2⟩ => ⟨h1, h2.symm⟩))
    generalize hhd : headN (!hello) = hd at *
    have Hhd := Lib.hid hhd
    clear hhd
    rcases Hg4.out with ⟨hl, hg⟩ | ⟨hl, hg⟩
    · rw [hg] at HG
      have hr0 : r = 0 := by
        have := Hwh.out
        unfold frWhole at this
        rw [if_neg (by simp), if_pos (by rw [Hhd.out]; exact hl)] at this
        simp only [Prod.mk.injEq] at this
        exact this.2.2.symm
      subst hr0
      clear Hg4 hg
      go_wp2_with fail
      go_quiet (first | (go_at_call 54; exact Calls.quiet_of_same (Hh.out _)) | (go_at_call 53; exact Calls.quiet_of_same (HG.out _)))
      have H2 := Lib.hid (H1.out.step (belowDN w1 nq))
      clear hc1 Hh HG H1
      generalize w1.drewN nq = w2 at *
      have hrc := H2.out.res.cell
      have hf0 := H2.out.res.frozen 0
      have hf1 := H2.out.res.frozen 1
      go_wp2_with fail
      exact bodyPost_ret (v := .tuple #[.agg #[.int .u8 0, .slice none 0 0], .bool false, .int .i64 0]) (by simp [results, Tryz.results30, go_sem, hrc]) rfl ⟨rfl, H2.out.fin _ _⟩
    · rw [hg] at HG
      have Hwh2 : Hid (if frErr most (frN (!hello) L) ≠ 0 then r = frErr most (frN (!hello) L) else (r = 0 ∧ (L.length : Int) < (hd : Int) + frN (!hello) L)) := Lib.hid (by
        have := Hwh.out
        unfold frWhole at this
        rw [if_neg (by simp), if_neg (by rw [Hhd.out]; omega), Hhd.out] at this
        split at this
        · rename_i he
          rw [if_pos he]
          simp only [Prod.mk.injEq] at this
          exact this.2.2.symm
        · rename_i he
          rw [if_neg he]
          simp only [Prod.mk.injEq, decide_eq_false_iff_not] at this
          exact ⟨this.2.2.symm, by omega⟩)
      generalize frN (!hello) L = q at *
      clear Hg4 hg Hwh
      go_wp2_with fail
      go_quiet (first | (go_at_call 54; exact Calls.quiet_of_same (Hh.out _)) | (go_at_call 53; exact Calls.quiet_of_same (HG.out _)))
      have H2 := Lib.hid (H1.out.step (belowDN w1 nq))
      clear hc1 Hh HG H1
      generalize w1.drewN nq = w2 at *
      have hrc := H2.out.res.cell
      have hf0 := H2.out.res.frozen 0
      have hf1 := H2.out.res.frozen 1
      have hc2 := H2.out.fr.blk.cell
      have hfz := H2.out.fr.blk.frozen 4
      by_cases h4 : q < 4
      · have hre : r = 4 := by
          have := Hwh2.out
          unfold frErr at this
          rw [if_pos h4] at this
          simpa using this
        subst hre
        have H3 := Lib.hid (H2.out.setW 4)
        clear Hwh2
        go_upto_region 8 with (fail)
        generalize (w2.setCell ⟨sb, 4, none⟩ (.int .i64 4)) = w3 at *
        have hrc := H3.out.res.cell
        have hf0 := H3.out.res.frozen 0
        have hf1 := H3.out.res.frozen 1
        have hc3 := H3.out.fr.blk.cell
        clear hc2 hfz H2
        go_wp2_with fail
        go_region
        all_goals
          go_wp2_with fail
          exact bodyPost_ret (v := .tuple #[.agg #[.int .u8 0, .slice none 0 0], .bool false, .int .i64 4]) (by simp [results, Tryz.results30, go_sem, hrc]) rfl ⟨rfl, (H3.out.fin _ _).1.still (belowDr _), (H3.out.fin _ _).2.trans (Touch.of_below (belowDr _))⟩
      · by_cases h5 : (most : Int) < q
        · have hre : r = 5 := by
            have := Hwh2.out
            unfold frErr at this
            rw [if_neg h4, if_pos h5] at this
            simpa using this
          subst hre
          have H3 := Lib.hid (H2.out.setW 5)
          clear Hwh2
          go_upto_region 11 with (fail)
          generalize (w2.setCell ⟨sb, 4, none⟩ (.int .i64 5)) = w3 at *
          have hrc := H3.out.res.cell
          have hf0 := H3.out.res.frozen 0
          have hf1 := H3.out.res.frozen 1
          have hc3 := H3.out.fr.blk.cell
          clear hc2 hfz H2
          go_wp2_with fail
          go_region
          all_goals
            go_wp2_with fail
            exact bodyPost_ret (v := .tuple #[.agg #[.int .u8 0, .slice none 0 0], .bool false, .int .i64 5]) (by simp [results, Tryz.results30, go_sem, hrc]) rfl ⟨rfl, (H3.out.fin _ _).1.still (belowDr _), (H3.out.fin _ _).2.trans (Touch.of_below (belowDr _))⟩
        · have hre : r = 0 ∧ (L.length : Int) < (hd : Int) + q := by
            have := Hwh2.out
            unfold frErr at this
            rw [if_neg h4, if_neg h5] at this
            simpa using this
          obtain ⟨rfl, hlt⟩ := hre
          have hwr : IntKind.i64.wrap ((hd : Int) + q) = (hd : Int) + q := by rw [IntKind.wrap_i64]; omega
          have hdl : decide ((L.length : Int) < (hd : Int) + q) = true := by simpa using hlt
          have Hh2 : Hid (∀ k, Calls Tryz.prog 54 #[.pointer (some ⟨sb, 0, none⟩)] (w2.drewN k) fun e w' => e = .returned (.int .i64 (hd : Nat)) ∧ w' = w2.drewN k) := Lib.hid (fun k => (rfHead_any sb _ _ _ _ hello (w2.drewN k) hc2).mono (fun e w' ⟨h1, h2⟩ => ⟨by rw [h1, Hhd.out], h2.symm⟩))
          clear Hwh2
          go_wp2_with fail
          go_quiet (first | (go_at_call 54; exact Calls.quiet_of_same (Hh2.out _)))
          have H3 := Lib.hid (H2.out.step (belowDN w2 nq))
          clear hc2 Hh2 H2 hrc hf0 hf1 hfz
          generalize w2.drewN nq = w3 at *
          have hrc := H3.out.res.cell
          have hf0 := H3.out.res.frozen 0
          have hf1 := H3.out.res.frozen 1
          go_wp2_with fail
          exact bodyPost_ret (v := .tuple #[.agg #[.int .u8 0, .slice none 0 0], .bool false, .int .i64 0]) (by simp [results, Tryz.results30, go_sem, hrc]) rfl ⟨rfl, H3.out.fin _ _⟩
  · have hr0 : r = wrong := by
      unfold frWhole at hwh
      rw [if_pos hw] at hwh
      simp only [Prod.mk.injEq] at hwh
      exact hwh.2.2.symm
    subst hr0
    have hwb : (r == 0) = false := by simpa using hw
    go_enter Tryz.func30, Tryz.ntmps30
    go_upto_region 1 with (fail)
    generalize w.alloc (.cells #[.int .u8 0, .slice none 0 0] 73) = w1 at *
    have hrc := H1.out.res.cell
    have hf0 := H1.out.res.frozen 0
    have hf1 := H1.out.res.frozen 1
    have hc1 := H1.out.fr.blk.cell
    go_wp2_with fail
    go_region
    all_goals
      go_wp2_with fail
      exact bodyPost_ret (v := .tuple #[.agg #[.int .u8 0, .slice none 0 0], .bool false, .int .i64 r]) (by simp [results, Tryz.results30, go_sem, hrc]) rfl ⟨rfl, (H1.out.fin _ _).1.still (belowDr _), (H1.out.fin _ _).2.trans (Touch.of_below (belowDr _))⟩
end Go.Proofs.YtacnmdlefonjmaaGreat

/-
  The contract of frame's Peek, where a message is there (layer 4).
-/
namespace Go.Proofs.YtacnmdlefonjmaaGreat
open Go.RowKit

def tyOf (t : Bool) (L : List UInt8) : Nat := if t then (L.getD 0 0).toNat else 0

theorem frBody {w w3 w4 : World} {g : Nat} {v : Value} {b : List UInt8} (ho : OwnBR w3.heap.size w4 v b) (h1 : w.heap.size < w3.heap.size) (h2 : g < w3.heap.size) : ∀ p n c, v = .slice p n c → n = b.length → BytesS (fun k => w.heap.size < k ∧ k ≠ g) w4 [.slice p b.length c] b := by
  intro p n c e hn
  obtain ⟨p', c', e', hB⟩ := ho.bytesS (S := fun k => w.heap.size < k ∧ k ≠ g) (fun k hk => ⟨by omega, by omega⟩)
  rw [e] at e'
  cases e'
  exact hB
theorem frBody0 {w w3 w4 : World} {v : Value} {b : List UInt8} (ho : OwnBR w3.heap.size w4 v b) (h1 : w.heap.size < w3.heap.size) : ∀ p n c, v = .slice p n c → n = b.length → BytesS (fun k => w.heap.size < k) w4 [.slice p b.length c] b := by
  intro p n c e hn
  obtain ⟨p', c', e', hB⟩ := ho.bytesS (S := fun k => w.heap.size < k) (fun k hk => by omega)
  rw [e] at e'
  cases e'
  exact hB

theorem pk_end {w wc wF : World} {B sb g : Nat} {t : Bool} {L : List UInt8} {most room : Nat} {v : Value} {b : List UInt8} {q : Option Addr} {d : Nat} (hpk : PkI w wc B sb t L most room 0 v) (hB : BytesS (fun k => w.heap.size < k ∧ k ≠ g) wc [.slice q b.length d] b) (hg : w.heap.size < g)
    (hT : Touch (fun i => i = g ∨ i = w.heap.size) wc wF) : BytesS (fun k => w.heap.size ≤ k) wF [.slice q b.length d] b ∧ FrO B wF sb t L most room 0 v ∧ Touch (fun i => i = sb) w wF := by
  have hsl := hpk.sbl
  refine ⟨BytesS.still _ _ _ _ _ _ hB (Kept.touch hT (fun k _ hs => ⟨by omega, by omega⟩)), hpk.fr.touch hT (by omega) (fun k hk e => by have := hpk.row k hk; omega), hpk.tch.then hT (fun i hi e => by omega)⟩

theorem below_len {w w' : World} (h : Below w.heap.size w w') : w.heap.size ≤ w'.heap.size := h.size

set_option maxRecDepth 100000 in
set_option maxHeartbeats 10000000 in
theorem frPeek_yes (B sb : Nat) (t : Bool) (L : List UInt8) (most room : Nat) (v : Value) (hd m : Nat) (b : List UInt8) (w : World) (h : FrO B w sb t L most room 0 v) (hr : 0 < room) (hhd : headN t = hd) (hh1 : hd ≤ 1)
    (hwh : frWhole t L most 0 = (((hd + 4 + m : Nat) : Int), true, 0)) (hlen : hd + 4 + m ≤ L.length) (hL : L.length ≤ 262144) (hb : b = (L.drop (hd + 4)).take m) :
    Calls Tryz.prog 29 #[.pointer (some ⟨sb, 0, none⟩)] w fun e w' => ∃ q d, e = .returned (.tuple #[.agg #[.int .u8 (tyOf t L : Nat), .slice q b.length d], .bool true, .int .i64 0]) ∧ BytesS (fun k => w.heap.size ≤ k) w' [.slice q b.length d] b ∧ FrO B w' sb t L most room 0 v ∧ Touch (fun i => i = sb) w w' := by
  have H1 := Lib.hid (PkI.start h)
  have Hwh := Lib.hid hwh
  have Hd := Lib.hid (show decide (0 < room) = true by simpa using hr)
  have hbl : b.length = m := by rw [hb, List.length_take, List.length_drop]; omega
  have Hbl := Lib.hid hbl
  have Hb := Lib.hid hb
  have Hhd := Lib.hid hhd
  clear h hwh hb hbl hhd
  go_enter Tryz.func29, Tryz.ntmps29
  go_wp2_with fail
  generalize w.alloc (.cells #[.int .u8 0, .slice none 0 0] 73) = w1 at *
  refine (frReady_blk sb _ _ _ _ room _ H1.out.fr.blk.cell).mono ?_
  rintro e w1' ⟨rfl, rfl⟩
  rw [Hd.out]
  go_wp2_with fail
  refine (frWhole_any B sb t L most room 0 v w1 H1.out.fr).mono ?_
  rintro e w2 ⟨n2, b2, r2, hw2, rfl, hf2, hT2⟩
  have hw3 := Hwh.out
  rw [hw3] at hw2
  simp only [Prod.mk.injEq] at hw2
  obtain ⟨rfl, rfl, rfl⟩ := hw2
  have hsl := H1.out.sbl
  have HP := Lib.hid (show PkI w w2 B sb t L most room 0 v from ⟨hf2, hT2.blk H1.out.res (by omega), H1.out.tch.trans hT2, hsl, H1.out.row⟩)
  clear hw3 hf2 hT2 H1 Hwh
  obtain ⟨p, c, rfl, hlc, hcm, hin, _⟩ := HP.out.fr.own.slice
  obtain ⟨gb, go, rfl⟩ := hin.addr (by omega)
  have Hc2 := HP.out.fr.blk.cell
  have hc0 := hin.cellAt 0 (by omega)
  rw [Nat.add_zero] at hc0
  have hgb : gb < w2.heap.size := World.block_lt_of_cell? w2 _ hc0
  have hz2 : w.heap.size < w2.heap.size := HP.out.res.lt
  have hs2 : sb < w2.heap.size := by omega
  have Hin := Lib.hid hin
  unfold maxLen at hcm
  have hwr : IntKind.i64.wrap ((hd : Int) + 4) = (hd : Int) + 4 := by rw [IntKind.wrap_i64]; omega
  have hk0 : (0 : Int) ≤ (hd : Int) + 4 := by omega
  have hk1 : ((hd : Int) + 4) ≤ ((hd + 4 + m : Nat) : Int) := by omega
  have hk2 : ((hd + 4 + m : Nat) : Int) ≤ (c : Int) := by omega
  have hk3 : ((hd : Int) + 4).toNat = hd + 4 := by omega
  have hk4 : hd + 4 + m - (hd + 4) = m := by omega
  have hk5 : ((hd : Int) + 4) ≤ (hd : Int) + 4 + (m : Int) := by omega
  have hk6 : (hd : Int) + 4 + (m : Int) ≤ (c : Int) := by omega
  have hk7 : ((hd : Int) + 4 + (m : Int)).toNat = hd + 4 + m := by omega
  have hk8 : (0 : Int) ≤ (hd : Int) + 4 + (m : Int) := by omega
  have hne2 : ¬ w2.heap.size = sb := by omega
  have HPa := Lib.hid (HP.out.alloc (.cells #[.int .u8 0, .slice none 0 0] 73))
  have Hina := Lib.hid (Hin.out.alloc (.cells #[.int .u8 0, .slice none 0 0] 73))
  have HVa := Lib.hid (Blk.new w2 73 #[.int .u8 0, .slice none 0 0])
  have hsa : (w2.alloc (.cells #[.int .u8 0, .slice none 0 0] 73)).heap.size = w2.heap.size + 1 := by simp
  have Hsa := Lib.hid hsa
  have hnew2 := World.new_ne w2 ⟨sb, 0, none⟩ (Hc2 0)
  clear hsa hc0 hin
  by_cases hcc : hd + 4 = c
  · subst hcc
    obtain rfl : m = 0 := by omega
    have hb0' : b = [] := List.eq_nil_of_length_eq_zero Hbl.out
    have Hcl : Hid (∀ w, BytesIn w (some ⟨gb, go, none⟩) L → Calls Tryz.prog 51 #[.slice (some ⟨gb, go, none⟩) 0 0] w fun e w' => ∃ v, e = .returned v ∧ OwnBR w.heap.size w' v b ∧ Below w.heap.size w w') := Lib.hid (by
      intro w hin
      rw [hb0']
      exact sclone_any (some ⟨gb, go, none⟩) [] 0 w (by simp) (BytesIn.nil _ _))
    clear hb0'
    go_upto_region 6 with (fail)
    go_cut [8] (fun s8 wx => PkC w wx B sb t L most room (.slice (some ⟨gb, go, none⟩) L.length (hd + 4)) s8 b)
    case first =>
      go_region_held3 (fun w' => ∀ i, w'.cell? ⟨sb, i, none⟩ = (#[.bool t, .slice (some ⟨gb, go, none⟩) L.length (hd + 4), .int .i64 (most : Int), .int .i64 (room : Int), .int .i64 0] : Array Value)[i]?)
        (first | exact Hc2 | exact HP4.out.fr.blk.cell | exact HP3.out.fr.blk.cell | exact HPa.out.fr.blk.cell | exact (HP3.out.alloc _).fr.blk.cell | exact (HP4.out.alloc _).fr.blk.cell | go_keep)
        (first
          | (go_at_call 52; refine (frHead_any t _).mono ?_; rintro e w3 ⟨rfl, hb3⟩; rw [Hhd.out]; (first
              | (have HP3 := Lib.hid (HP.out.drew.step hb3); have Hin3 := Lib.hid (Hin.out.below (below_ofDr hb3)); have hs3 : w2.heap.size ≤ w3.heap.size := hb3.size)
              | (have HP3 := Lib.hid (HPa.out.drew.step hb3); have Hin3 := Lib.hid (Hina.out.below (below_ofDr hb3)); have hs3 : w2.heap.size + 1 ≤ w3.heap.size := (by have := hb3.size; have := Hsa.out; exact Nat.le_trans (Nat.le_of_eq this.symm) hb3.size); have HV3 := Lib.hid (HVa.out.below (below_ofDr hb3) HVa.out.lt))); clear hb3)
          | (go_at_call 51; refine (Hcl.out _ ?_).mono ?_; (first | exact Hin3.out | exact Hin3.out.alloc _); rintro e w4 ⟨v4, rfl, ho4, hb4⟩; obtain ⟨p4, c4, rfl, _⟩ := ho4.slice; (first
              | (have HP4 := Lib.hid (HP3.out.step hb4); have HV4 := Lib.hid (HV3.out.below hb4 HV3.out.lt); have HB4 := Lib.hid (frBody (w := w) (g := w2.heap.size) ho4 (by omega) (by omega)); have hcV := HV4.out.cell; have hfV0 := HV4.out.frozen 0; have hfV1 := HV4.out.frozen 1)
              | (have HP4 := Lib.hid (HP3.out.step hb4); have HB4 := Lib.hid (frBody0 (w := w) ho4 (by omega)))
              | (have HP4 := Lib.hid ((HP3.out.alloc (.cells #[.int .u8 0, .slice none 0 0] 73)).step hb4); have HV4 := Lib.hid ((Blk.new w3 73 #[.int .u8 0, .slice none 0 0]).below hb4 (by simp)); have hsb3 : (w3.alloc (.cells #[.int .u8 0, .slice none 0 0] 73)).heap.size = w3.heap.size + 1 := (by simp); have HB4 := Lib.hid (frBody (w := w) (g := w3.heap.size) ho4 (by omega) (by omega)); have hne3 : ¬ w3.heap.size = sb := (by omega); have hcV := HV4.out.cell; have hfV0 := HV4.out.frozen 0; have hfV1 := HV4.out.frozen 1; clear hsb3)); clear ho4 hb4))
      all_goals
        go_wp2_with fail
        go_meet
        first
          | exact pkC_new HP4.out (HB4.out _ _ _ rfl rfl)
          | exact pkC_set HP4.out (HB4.out _ _ _ rfl rfl) (by omega) HV4.out
    case rest =>
      obtain ⟨g, q, d, rfl, hv, hB, hpk, hg⟩ := hcut
      have hvc := hv.cell
      have hvf := hv.frozen 0
      have hrc := hpk.res.cell
      have hrf0 := hpk.res.frozen 0
      have hrf1 := hpk.res.frozen 1
      have hfc := hpk.fr.blk.cell
      have hne4 : ¬ g = sb := by omega
      have hne5 : ¬ w.heap.size = sb := by omega
      have hne6 : ¬ g = w.heap.size := by omega
      have hne7 : ¬ w.heap.size = g := by omega
      obtain ⟨p9, c9, e9, _, _, hin9, _⟩ := hpk.fr.own.slice
      simp only [Value.slice.injEq] at e9
      obtain ⟨rfl, -, rfl⟩ := e9
      have hb0 := hin9.cellAt 0 (by omega)
      rw [Nat.add_zero] at hb0
      have hi0 : 0 < L.length := by omega
      have HE : Hid (∀ wF, Touch (fun i => i = g ∨ i = w.heap.size) wc wF → BytesS (fun k => w.heap.size ≤ k) wF [.slice q b.length d] b ∧ FrO B wF sb t L most room 0 (.slice (some ⟨gb, go, none⟩) L.length (hd + 4)) ∧ Touch (fun i => i = sb) w wF) := Lib.hid (fun wF hT => pk_end hpk hB hg hT)
      have hty : tyOf t L = if t then (L.getD 0 0).toNat else 0 := rfl
      have Hty := Lib.hid hty
      have hx0 := u8_bd (L.getD 0 0)
      generalize (L.getD 0 0).toNat = x0 at hb0 hx0 Hty
      clear hv hB hpk hin9 hty Hc2 HP HPa Hina HVa Hcl
      cases t
      · have Hty0 := Lib.hid (show tyOf false L = 0 by rw [Hty.out]; rfl)
        clear hb0
        go_wp2
        refine bodyPost_ret (v := .tuple #[.agg #[.int .u8 0, .slice q b.length d], .bool true, .int .i64 0]) (by simp [results, Tryz.results29, go_sem, hrc]) rfl ⟨q, d, by rw [Hty0.out] <;> rfl, HE.out _ ?_⟩
        exact ((Touch.refl (fun i => i = g ∨ i = w.heap.size) wc).setCell (x := ⟨w.heap.size, 0, none⟩) (fun _ => .inr rfl) _).setCell (x := ⟨w.heap.size, 1, none⟩) (fun _ => .inr rfl) _
      · have Hty0 := Lib.hid (show tyOf true L = x0 by rw [Hty.out]; rfl)
        go_wp2
        refine bodyPost_ret (v := .tuple #[.agg #[.int .u8 (x0 : Nat), .slice q b.length d], .bool true, .int .i64 0]) (by simp [results, Tryz.results29, go_sem, hrc]) rfl ⟨q, d, by rw [Hty0.out] <;> rfl, HE.out _ ?_⟩
        exact (((Touch.refl (fun i => i = g ∨ i = w.heap.size) wc).setCell (x := ⟨g, 0, none⟩) (fun _ => .inl rfl) _).setCell (x := ⟨w.heap.size, 0, none⟩) (fun _ => .inr rfl) _).setCell (x := ⟨w.heap.size, 1, none⟩) (fun _ => .inr rfl) _
  · have hcc2 : ¬ c = hd + 4 := fun e => hcc e.symm
    have Hcl : Hid (∀ w, BytesIn w (some ⟨gb, go, none⟩) L → Calls Tryz.prog 51 #[.slice (some ⟨gb, go + (hd + 4), none⟩) m (c - (hd + 4))] w fun e w' => ∃ v, e = .returned v ∧ OwnBR w.heap.size w' v b ∧ Below w.heap.size w w') := Lib.hid (by
      intro w hin
      have := sclone_any (some ⟨gb, go + (hd + 4), none⟩) ((L.drop (hd + 4)).take m) (c - (hd + 4)) w (by rw [← Hb.out, Hbl.out]; omega) ((hin.drop (hd + 4)).take m)
      rw [← Hb.out, Hbl.out] at this
      exact this)
    go_upto_region 6 with (fail)
    go_cut [8] (fun s8 wx => PkC w wx B sb t L most room (.slice (some ⟨gb, go, none⟩) L.length c) s8 b)
    case first =>
      go_region_held3 (fun w' => ∀ i, w'.cell? ⟨sb, i, none⟩ = (#[.bool t, .slice (some ⟨gb, go, none⟩) L.length c, .int .i64 (most : Int), .int .i64 (room : Int), .int .i64 0] : Array Value)[i]?)
        (first | exact Hc2 | exact HP4.out.fr.blk.cell | exact HP3.out.fr.blk.cell | exact HPa.out.fr.blk.cell | exact (HP3.out.alloc _).fr.blk.cell | exact (HP4.out.alloc _).fr.blk.cell | go_keep)
        (first
          | (go_at_call 52; refine (frHead_any t _).mono ?_; rintro e w3 ⟨rfl, hb3⟩; rw [Hhd.out]; (first
              | (have HP3 := Lib.hid (HP.out.drew.step hb3); have Hin3 := Lib.hid (Hin.out.below (below_ofDr hb3)); have hs3 : w2.heap.size ≤ w3.heap.size := hb3.size)
              | (have HP3 := Lib.hid (HPa.out.drew.step hb3); have Hin3 := Lib.hid (Hina.out.below (below_ofDr hb3)); have hs3 : w2.heap.size + 1 ≤ w3.heap.size := (by have := hb3.size; have := Hsa.out; exact Nat.le_trans (Nat.le_of_eq this.symm) hb3.size); have HV3 := Lib.hid (HVa.out.below (below_ofDr hb3) HVa.out.lt))); clear hb3)
          | (go_at_call 51; refine (Hcl.out _ ?_).mono ?_; (first | exact Hin3.out | exact Hin3.out.alloc _); rintro e w4 ⟨v4, rfl, ho4, hb4⟩; obtain ⟨p4, c4, rfl, _⟩ := ho4.slice; (first
              | (have HP4 := Lib.hid (HP3.out.step hb4); have HV4 := Lib.hid (HV3.out.below hb4 HV3.out.lt); have HB4 := Lib.hid (frBody (w := w) (g := w2.heap.size) ho4 (by omega) (by omega)); have hcV := HV4.out.cell; have hfV0 := HV4.out.frozen 0; have hfV1 := HV4.out.frozen 1)
              | (have HP4 := Lib.hid (HP3.out.step hb4); have HB4 := Lib.hid (frBody0 (w := w) ho4 (by omega)))
              | (have HP4 := Lib.hid ((HP3.out.alloc (.cells #[.int .u8 0, .slice none 0 0] 73)).step hb4); have HV4 := Lib.hid ((Blk.new w3 73 #[.int .u8 0, .slice none 0 0]).below hb4 (by simp)); have hsb3 : (w3.alloc (.cells #[.int .u8 0, .slice none 0 0] 73)).heap.size = w3.heap.size + 1 := (by simp); have HB4 := Lib.hid (frBody (w := w) (g := w3.heap.size) ho4 (by omega) (by omega)); have hne3 : ¬ w3.heap.size = sb := (by omega); have hcV := HV4.out.cell; have hfV0 := HV4.out.frozen 0; have hfV1 := HV4.out.frozen 1; clear hsb3)); clear ho4 hb4))
      all_goals
        go_wp2_with fail
        go_meet
        first
          | exact pkC_new HP4.out (HB4.out _ _ _ rfl rfl)
          | exact pkC_set HP4.out (HB4.out _ _ _ rfl rfl) (by omega) HV4.out
    case rest =>
      obtain ⟨g, q, d, rfl, hv, hB, hpk, hg⟩ := hcut
      have hvc := hv.cell
      have hvf := hv.frozen 0
      have hrc := hpk.res.cell
      have hrf0 := hpk.res.frozen 0
      have hrf1 := hpk.res.frozen 1
      have hfc := hpk.fr.blk.cell
      have hne4 : ¬ g = sb := by omega
      have hne5 : ¬ w.heap.size = sb := by omega
      have hne6 : ¬ g = w.heap.size := by omega
      have hne7 : ¬ w.heap.size = g := by omega
      obtain ⟨p9, c9, e9, _, _, hin9, _⟩ := hpk.fr.own.slice
      simp only [Value.slice.injEq] at e9
      obtain ⟨rfl, -, rfl⟩ := e9
      have hb0 := hin9.cellAt 0 (by omega)
      rw [Nat.add_zero] at hb0
      have hi0 : 0 < L.length := by omega
      have HE : Hid (∀ wF, Touch (fun i => i = g ∨ i = w.heap.size) wc wF → BytesS (fun k => w.heap.size ≤ k) wF [.slice q b.length d] b ∧ FrO B wF sb t L most room 0 (.slice (some ⟨gb, go, none⟩) L.length c) ∧ Touch (fun i => i = sb) w wF) := Lib.hid (fun wF hT => pk_end hpk hB hg hT)
      have hty : tyOf t L = if t then (L.getD 0 0).toNat else 0 := rfl
      have Hty := Lib.hid hty
      have hx0 := u8_bd (L.getD 0 0)
      generalize (L.getD 0 0).toNat = x0 at hb0 hx0 Hty
      clear hv hB hpk hin9 hty Hc2 HP HPa Hina HVa Hcl
      cases t
      · have Hty0 := Lib.hid (show tyOf false L = 0 by rw [Hty.out]; rfl)
        clear hb0
        go_wp2
        refine bodyPost_ret (v := .tuple #[.agg #[.int .u8 0, .slice q b.length d], .bool true, .int .i64 0]) (by simp [results, Tryz.results29, go_sem, hrc]) rfl ⟨q, d, by rw [Hty0.out] <;> rfl, HE.out _ ?_⟩
        exact ((Touch.refl (fun i => i = g ∨ i = w.heap.size) wc).setCell (x := ⟨w.heap.size, 0, none⟩) (fun _ => .inr rfl) _).setCell (x := ⟨w.heap.size, 1, none⟩) (fun _ => .inr rfl) _
      · have Hty0 := Lib.hid (show tyOf true L = x0 by rw [Hty.out]; rfl)
        go_wp2
        refine bodyPost_ret (v := .tuple #[.agg #[.int .u8 (x0 : Nat), .slice q b.length d], .bool true, .int .i64 0]) (by simp [results, Tryz.results29, go_sem, hrc]) rfl ⟨q, d, by rw [Hty0.out] <;> rfl, HE.out _ ?_⟩
        exact (((Touch.refl (fun i => i = g ∨ i = w.heap.size) wc).setCell (x := ⟨g, 0, none⟩) (fun _ => .inl rfl) _).setCell (x := ⟨w.heap.size, 0, none⟩) (fun _ => .inr rfl) _).setCell (x := ⟨w.heap.size, 1, none⟩) (fun _ => .inr rfl) _

end Go.Proofs.YtacnmdlefonjmaaGreat

/-
  The document's framer (remudaref04): Peek where a message is there (printed by gen_rfc.py).
-/
namespace Go.Proofs.YtacnmdlefonjmaaGreat
open Go.RowKit
set_option linter.unusedVariables false
set_option linter.unusedSimpArgs false

def RkC (w wx : World) (B sb : Nat) (hello : Bool) (L : List UInt8) (most room : Nat) (v s : Value) (b : List UInt8) : Prop :=
  ∃ g q d, s = .pointer (some ⟨g, 0, none⟩) ∧ Blk wx g 73 #[.int .u8 0, .slice q b.length d] ∧ BytesS (fun k => w.heap.size < k ∧ k ≠ g) wx [.slice q b.length d] b ∧ RkI w wx B sb hello L most room 0 v ∧ w.heap.size < g

theorem rkC_new {w w3 : World} {B sb : Nat} {hello : Bool} {L : List UInt8} {most room : Nat} {v : Value} {b : List UInt8} {q : Option Addr} {d : Nat} (h : RkI w w3 B sb hello L most room 0 v) (hb : BytesS (fun k => w.heap.size < k) w3 [.slice q b.length d] b) :
    RkC w (w3.alloc (.cells #[.int .u8 0, .slice q b.length d] 73)) B sb hello L most room v (.pointer (some ⟨w3.heap.size, 0, none⟩)) b := by
  have h1 := h.res.lt
  refine ⟨_, q, d, rfl, Blk.new _ _ _, BytesS.still _ _ _ _ _ _ hb (fun k hk hs => ⟨⟨hs, by omega⟩, Below.heap_alloc w3 _ k hk⟩), h.alloc _, h1⟩

theorem rkC_set {w w3 : World} {B sb g : Nat} {hello : Bool} {L : List UInt8} {most room : Nat} {v : Value} {b : List UInt8} {q : Option Addr} {d : Nat} (h : RkI w w3 B sb hello L most room 0 v) (hb : BytesS (fun k => w.heap.size < k ∧ k ≠ g) w3 [.slice q b.length d] b) (hg : w.heap.size < g)
    (hv : Blk w3 g 73 #[.int .u8 0, .slice none 0 0]) (hsg : sb ≠ g) (hrow : ∀ k, rowOf v = some k → k ≠ g) : RkC w ((w3.setCell ⟨g, 0, none⟩ (.int .u8 0)).setCell ⟨g, 1, none⟩ (.slice q b.length d)) B sb hello L most room v (.pointer (some ⟨g, 0, none⟩)) b := by
  have hT : Touch (fun i => i = g) w3 ((w3.setCell ⟨g, 0, none⟩ (.int .u8 0)).setCell ⟨g, 1, none⟩ (.slice q b.length d)) := ((Touch.refl (fun i => i = g) w3).setCell (x := ⟨g, 0, none⟩) (fun _ => rfl) _).setCell (x := ⟨g, 1, none⟩) (fun _ => rfl) _
  have hsl := h.sbl
  have hv2 := (hv.set_ 0 (.int .u8 0)).set_ 1 (.slice q b.length d)
  refine ⟨g, q, d, rfl, by simpa using hv2, BytesS.still _ _ _ _ _ _ hb (Kept.touch hT (fun k _ hs => ⟨hs, hs.2⟩)), ⟨h.fr.touch hT (fun e => by omega) (fun k hk e => by have := h.row k hk; omega), hT.blk h.res (by omega), h.tch.then hT (fun i hi e => by omega), h.sbl, h.row⟩, hg⟩

theorem rk_end {w wc wF : World} {B sb g : Nat} {hello : Bool} {L : List UInt8} {most room : Nat} {v : Value} {b : List UInt8} {q : Option Addr} {d : Nat} (hpk : RkI w wc B sb hello L most room 0 v) (hB : BytesS (fun k => w.heap.size < k ∧ k ≠ g) wc [.slice q b.length d] b) (hg : w.heap.size < g)
    (hT : Touch (fun i => i = g ∨ i = w.heap.size) wc wF) : BytesS (fun k => w.heap.size ≤ k) wF [.slice q b.length d] b ∧ RfO B wF sb hello L most room 0 v ∧ Touch (fun i => i = sb) w wF := by
  have hsl := hpk.sbl
  refine ⟨BytesS.still _ _ _ _ _ _ hB (Kept.touch hT (fun k _ hs => ⟨by omega, by omega⟩)), hpk.fr.touch hT (by omega) (fun k hk e => by have := hpk.row k hk; omega), hpk.tch.then hT (fun i hi e => by omega)⟩

set_option maxRecDepth 100000 in
set_option maxHeartbeats 10000000 in
theorem rfPeek_yes (B sb : Nat) (hello : Bool) (L : List UInt8) (most room : Nat) (v : Value) (hd m : Nat) (b : List UInt8) (w : World) (h : RfO B w sb hello L most room 0 v) (hhd : headN (!hello) = hd) (hh1 : hd ≤ 1)
    (hwh : frWhole (!hello) L most 0 = (((hd + 4 + m : Nat) : Int), true, 0)) (hlen : hd + 4 + m ≤ L.length) (hL : L.length ≤ 262144) (hb : b = (L.drop (hd + 4)).take m) :
    Calls Tryz.prog 30 #[.pointer (some ⟨sb, 0, none⟩)] w fun e w' => ∃ q d, e = .returned (.tuple #[.agg #[.int .u8 (tyOf (!hello) L : Nat), .slice q b.length d], .bool true, .int .i64 0]) ∧ BytesS (fun k => w.heap.size ≤ k) w' [.slice q b.length d] b ∧ RfO B w' sb hello L most room 0 v ∧ Touch (fun i => i = sb) w w' := by
  have H1 := Lib.hid (RkI.start h)
  have hbl : b.length = m := by rw [hb, List.length_take, List.length_drop]; omega
  have Hbl := Lib.hid hbl
  have Hb := Lib.hid hb
  obtain ⟨p, c, rfl, hlc, hcm, hin, _⟩ := h.own.slice
  have hsl := h.blk.lt
  obtain ⟨gb, go, rfl⟩ := hin.addr (by omega)
  have Hhd := Lib.hid hhd
  have Hqm : Hid (getV L (headN (!hello) : Nat) 4 = (((4 + m : Nat) : Int), 0) ∧ ¬ ((4 + m : Nat) : Int) < 4 ∧ ¬ (most : Int) < ((4 + m : Nat) : Int)) := Lib.hid (by
    have hl4 : ¬ L.length < headN (!hello) + 4 := by omega
    have hg := getV_four L (!hello) _ _ _ hwh
    rcases hg with ⟨h1, _⟩ | ⟨_, h2⟩
    · omega
    · unfold frWhole at hwh
      rw [if_neg (by simp), if_neg hl4] at hwh
      split at hwh
      · simp at hwh
      · rename_i he
        simp only [Prod.mk.injEq] at hwh
        have hq : frN (!hello) L = ((4 + m : Nat) : Int) := by omega
        rw [hq] at h2 he
        unfold frErr at he
        refine ⟨h2, ?_, ?_⟩
        · intro e; rw [if_pos e] at he; exact he (by decide)
        · intro e
          by_cases e4 : ((4 + m : Nat) : Int) < 4
          · omega
          · rw [if_neg e4, if_pos e] at he; exact he (by decide))
  clear h hwh hb hbl hhd hin
  go_enter Tryz.func30, Tryz.ntmps30
  go_upto_region 1 with (fail)
  generalize w.alloc (.cells #[.int .u8 0, .slice none 0 0] 73) = w1 at *
  have hc1 := H1.out.fr.blk.cell
  have Hh : Hid (∀ k, Calls Tryz.prog 54 #[.pointer (some ⟨sb, 0, none⟩)] (w1.drewN k) fun e w' => e = .returned (.int .i64 (hd : Nat)) ∧ w' = w1.drewN k) := Lib.hid (fun k => (rfHead_any sb _ _ _ _ hello (w1.drewN k) hc1).mono (fun e w' ⟨h1, h2⟩ => ⟨by rw [h1, Hhd.out], h2.symm⟩))
  have HG : Hid (∀ k, Calls Tryz.prog 53 #[.slice (some ⟨gb, go, none⟩) L.length c, .int .i64 (hd : Nat), .int .i64 4] (w1.drewN k) fun e w' => e = .returned (.tuple #[.int .i64 ((4 + m : Nat) : Int), .int .i64 0]) ∧ w' = w1.drewN k) := Lib.hid (fun k => by
    obtain ⟨p', c', e', h1, h2, h3, _⟩ := OwnBR.slice (H1.out.fr.own.below (belowDN w1 k))
    simp only [Value.slice.injEq, true_and] at e'
    obtain ⟨rfl, rfl⟩ := e'
    have hg := Hqm.out.1
    rw [Hhd.out] at hg
    have := getR_any _ L c (hd : Nat) 4 (w1.drewN k) h1 h2 h3
    rw [hg] at this
    exact this.mono (fun e w' ⟨h1, h2⟩ => ⟨h1, h2.symm⟩))
  have hq4 := Hqm.out.2.1
  have hqm := Hqm.out.2.2
  obtain ⟨x, hx⟩ : ∃ x : Int, ((4 + m : Nat) : Int) = x := ⟨_, rfl⟩
  have Hx := Lib.hid hx
  rw [hx] at HG hq4 hqm
  clear Hqm hx
  go_wp2_with fail
  go_quiet (first | (go_at_call 54; exact Calls.quiet_of_same (Hh.out _)) | (go_at_call 53; exact Calls.quiet_of_same (HG.out _)))
  have H2 := Lib.hid (H1.out.step (belowDN w1 nq))
  clear hc1 Hh HG H1
  generalize w1.drewN nq = w2 at *
  have hc2 := H2.out.fr.blk.cell
  have Hh2 : Hid (∀ k, Calls Tryz.prog 54 #[.pointer (some ⟨sb, 0, none⟩)] (w2.drewN k) fun e w' => e = .returned (.int .i64 (hd : Nat)) ∧ w' = w2.drewN k) := Lib.hid (fun k => (rfHead_any sb _ _ _ _ hello (w2.drewN k) hc2).mono (fun e w' ⟨h1, h2⟩ => ⟨by rw [h1, Hhd.out], h2.symm⟩))
  have hwr : IntKind.i64.wrap ((hd : Int) + x) = (hd : Int) + x := by have := Hx.out; rw [IntKind.wrap_i64]; omega
  have hle : ¬ (L.length : Int) < (hd : Int) + x := by have := Hx.out; omega
  have hdl : decide ((L.length : Int) < (hd : Int) + x) = false := by simpa using hle
  go_wp2_with fail
  go_quiet (first | (go_at_call 54; exact Calls.quiet_of_same (Hh2.out _)))
  have HP := Lib.hid (H2.out.step (belowDN w2 nq))
  clear hc2 Hh2 H2 hle
  generalize w2.drewN nq = w3 at *
  go_upto_region 14 with (fail)
  have Hc3 := HP.out.fr.blk.cell
  obtain ⟨p8, c8, e8, _, _, hin, _⟩ := HP.out.fr.own.slice
  simp only [Value.slice.injEq, true_and] at e8
  obtain ⟨rfl, rfl⟩ := e8
  have hc0 := hin.cellAt 0 (by omega)
  rw [Nat.add_zero] at hc0
  have hgb : gb < w3.heap.size := World.block_lt_of_cell? w3 _ hc0
  have hz2 : w.heap.size < w3.heap.size := HP.out.res.lt
  have hs2 : sb < w3.heap.size := by omega
  have Hin := Lib.hid hin
  unfold maxLen at hcm
  have hwr4 : IntKind.i64.wrap ((hd : Int) + 4) = (hd : Int) + 4 := by rw [IntKind.wrap_i64]; omega
  have hk0 : (0 : Int) ≤ (hd : Int) + 4 := by omega
  have hk1 : ((hd : Int) + 4) ≤ (hd : Int) + x := by have := Hx.out; omega
  have hk2 : (hd : Int) + x ≤ (c : Int) := by have := Hx.out; omega
  have hk3 : ((hd : Int) + 4).toNat = hd + 4 := by omega
  have hk5 : ((hd : Int) + x).toNat - (hd + 4) = m := by have := Hx.out; omega
  have hk6 : ((hd : Int) + x).toNat = hd + 4 + m := by have := Hx.out; omega
  have hk7 : hd + 4 + m - (hd + 4) = m := by omega
  have hne2 : ¬ w3.heap.size = sb := by omega
  have hne2' : ¬ sb = w3.heap.size := by omega
  have HPa := Lib.hid (HP.out.alloc (.cells #[.int .u8 0, .slice none 0 0] 73))
  have Hca := HPa.out.fr.blk.cell
  have Hina := Lib.hid (Hin.out.alloc (.cells #[.int .u8 0, .slice none 0 0] 73))
  have HVa := Lib.hid (Blk.new w3 73 #[.int .u8 0, .slice none 0 0])
  have hsa : w3.heap.size + 1 ≤ (w3.alloc (.cells #[.int .u8 0, .slice none 0 0] 73)).heap.size := by simp
  have Hrm : Hid (([] : List UInt8).length + b.length ≤ 140737488355328) := Lib.hid (by rw [Hbl.out]; simp; omega)
  have hnew2 := World.new_ne w3 ⟨sb, 0, none⟩ (Hc3 0)
  have Hrow := Lib.hid (fun k hk => HP.out.row k hk)
  clear hc0 hin
  by_cases hcc : hd + 4 = c
  · subst hcc
    obtain rfl : m = 0 := by omega
    obtain rfl : x = 4 := by have := Hx.out; omega
    have hb0' : b = [] := List.eq_nil_of_length_eq_zero Hbl.out
    have HinB : Hid (∀ w, BytesIn w (some ⟨gb, go, none⟩) L → BytesIn w (some ⟨gb, go, none⟩) b) := Lib.hid (fun w _ => by rw [hb0']; exact BytesIn.nil _ _)
    clear hb0'
    go_cut [7] (fun s7 wx => RkC w wx B sb hello L most room (.slice (some ⟨gb, go, none⟩) L.length (hd + 4)) s7 b)
    case first =>
      go_region_held3 (fun w' => ∀ i, w'.cell? ⟨sb, i, none⟩ = (#[(.slice (some ⟨gb, go, none⟩) L.length (hd + 4)), .int .i64 (most : Int), .int .i64 (room : Int), .bool hello, .int .i64 0] : Array Value)[i]?)
        (first | exact Hc3 | exact Hca | exact HP4.out.fr.blk.cell | exact (HP4.out.alloc _).fr.blk.cell | go_keep)
        (first
          | (go_at_call 54; refine (rfHead_any sb (.slice (some ⟨gb, go, none⟩) L.length (hd + 4)) (.int .i64 (most : Int)) (.int .i64 (room : Int)) (.int .i64 0) hello _ ?_).mono ?_; (first | exact Hc3 | exact Hca); rintro e w9 ⟨rfl, rfl⟩; rw [Hhd.out])
          | (refine rgn_appendBR rfl (.const (.slice none 0 0)) (.tmp 77) rfl (w3.heap.size + 1) (.slice none 0 0) [] rfl (OwnBR.empty _ _ _) (some ⟨gb, go, none⟩) b 0 0 Hbl.out rfl ((HinB.out _ Hina.out).drewN 1) Hrm.out hsa ?_; intro v4 w4 ho4 hg4 _; have hb4 : Below (w3.alloc (.cells #[.int .u8 0, .slice none 0 0] 73)).heap.size (w3.alloc (.cells #[.int .u8 0, .slice none 0 0] 73)) w4 := (belowDN _ 1).trans (Below.of_row hg4 (Nat.le_refl _) (fun k hk => by simp [rowOf] at hk)); have HP4 := Lib.hid (HPa.out.step hb4); have HV4 := Lib.hid (HVa.out.below hb4 HVa.out.lt); obtain ⟨p4, c4, hv4, hB4⟩ := (show OwnBR (w3.heap.size + 1) w4 v4 b from ho4).bytesS (S := fun k => w.heap.size < k ∧ k ≠ w3.heap.size) (fun k hk => ⟨by omega, by omega⟩); subst hv4; have HB4 := Lib.hid hB4; have hcV := HV4.out.cell; have hfV0 := HV4.out.frozen 0; have hfV1 := HV4.out.frozen 1; clear ho4 hg4 hb4 hB4)
          | (refine rgn_appendBR rfl (.const (.slice none 0 0)) (.tmp 77) rfl w3.heap.size (.slice none 0 0) [] rfl (OwnBR.empty _ _ _) (some ⟨gb, go, none⟩) b 0 0 Hbl.out rfl ((HinB.out _ Hin.out).drewN 1) Hrm.out (Nat.le_refl _) ?_; intro v4 w4 ho4 hg4 _; have hb4 : Below w3.heap.size w3 w4 := (belowDN _ 1).trans (Below.of_row hg4 (Nat.le_refl _) (fun k hk => by simp [rowOf] at hk)); have HP4 := Lib.hid (HP.out.step hb4); obtain ⟨p4, c4, hv4, hB4⟩ := (show OwnBR w3.heap.size w4 v4 b from ho4).bytesS (S := fun k => w.heap.size < k) (fun k hk => by omega); subst hv4; have HB4 := Lib.hid hB4; clear ho4 hg4 hb4 hB4))
      all_goals
        go_wp2_with fail
        go_meet
        first
          | exact rkC_new HP4.out HB4.out
          | exact rkC_set HP4.out HB4.out (by omega) HV4.out (by omega) (fun k hk e => by have := Hrow.out k hk; omega)
    case rest =>
      obtain ⟨g, q, d, rfl, hv, hB, hpk, hg⟩ := hcut
      have hvc := hv.cell
      have hvf := hv.frozen 0
      have hrc := hpk.res.cell
      have hrf0 := hpk.res.frozen 0
      have hrf1 := hpk.res.frozen 1
      have hfc := hpk.fr.blk.cell
      have hne4 : ¬ g = sb := by
        intro e
        have h1 := hv.cell 1
        have h2 := hfc 1
        rw [e, h2] at h1
        simp at h1
      have hne5 : ¬ w.heap.size = sb := by omega
      have hne6 : ¬ g = w.heap.size := by omega
      have hne7 : ¬ w.heap.size = g := by omega
      obtain ⟨p9, c9, e9, _, _, hin9, _⟩ := hpk.fr.own.slice
      simp only [Value.slice.injEq] at e9
      obtain ⟨rfl, -, rfl⟩ := e9
      have hb0 := hin9.cellAt 0 (by omega)
      rw [Nat.add_zero] at hb0
      have hi0 : 0 < L.length := by omega
      have HE : Hid (∀ wF, Touch (fun i => i = g ∨ i = w.heap.size) wc wF → BytesS (fun k => w.heap.size ≤ k) wF [.slice q b.length d] b ∧ RfO B wF sb hello L most room 0 (.slice (some ⟨gb, go, none⟩) L.length (hd + 4)) ∧ Touch (fun i => i = sb) w wF) := Lib.hid (fun wF hT => rk_end hpk hB hg hT)
      have hty : tyOf (!hello) L = if (!hello) then (L.getD 0 0).toNat else 0 := rfl
      have Hty := Lib.hid hty
      have hx0 := u8_bd (L.getD 0 0)
      generalize (L.getD 0 0).toNat = x0 at hb0 hx0 Hty
      clear hv hB hpk hin9 hty Hc3 HP HPa Hina HVa Hca HinB
      cases hello
      · have Hty0 := Lib.hid (show tyOf true L = x0 from Hty.out.trans rfl)
        go_wp2
        refine bodyPost_ret (v := .tuple #[.agg #[.int .u8 (x0 : Nat), .slice q b.length d], .bool true, .int .i64 0]) (by simp [results, Tryz.results30, go_sem, hrc]) rfl ⟨q, d, by rw [Hty0.out] <;> rfl, HE.out _ ?_⟩
        exact (((Touch.refl (fun i => i = g ∨ i = w.heap.size) wc).setCell (x := ⟨g, 0, none⟩) (fun _ => .inl rfl) _).setCell (x := ⟨w.heap.size, 0, none⟩) (fun _ => .inr rfl) _).setCell (x := ⟨w.heap.size, 1, none⟩) (fun _ => .inr rfl) _
      · have Hty0 := Lib.hid (show tyOf false L = 0 from Hty.out.trans rfl)
        clear hb0
        go_wp2
        refine bodyPost_ret (v := .tuple #[.agg #[.int .u8 0, .slice q b.length d], .bool true, .int .i64 0]) (by simp [results, Tryz.results30, go_sem, hrc]) rfl ⟨q, d, by rw [Hty0.out] <;> rfl, HE.out _ ?_⟩
        exact ((Touch.refl (fun i => i = g ∨ i = w.heap.size) wc).setCell (x := ⟨w.heap.size, 0, none⟩) (fun _ => .inr rfl) _).setCell (x := ⟨w.heap.size, 1, none⟩) (fun _ => .inr rfl) _
  · have hcc2 : ¬ c = hd + 4 := fun e => hcc e.symm
    have HinB : Hid (∀ w, BytesIn w (some ⟨gb, go, none⟩) L → BytesIn w (some ⟨gb, go + (hd + 4), none⟩) b) := Lib.hid (fun w hin => by rw [Hb.out]; exact (hin.drop (hd + 4)).take m)
    go_cut [7] (fun s7 wx => RkC w wx B sb hello L most room (.slice (some ⟨gb, go, none⟩) L.length c) s7 b)
    case first =>
      go_region_held3 (fun w' => ∀ i, w'.cell? ⟨sb, i, none⟩ = (#[(.slice (some ⟨gb, go, none⟩) L.length c), .int .i64 (most : Int), .int .i64 (room : Int), .bool hello, .int .i64 0] : Array Value)[i]?)
        (first | exact Hc3 | exact Hca | exact HP4.out.fr.blk.cell | exact (HP4.out.alloc _).fr.blk.cell | go_keep)
        (first
          | (go_at_call 54; refine (rfHead_any sb (.slice (some ⟨gb, go, none⟩) L.length c) (.int .i64 (most : Int)) (.int .i64 (room : Int)) (.int .i64 0) hello _ ?_).mono ?_; (first | exact Hc3 | exact Hca); rintro e w9 ⟨rfl, rfl⟩; rw [Hhd.out])
          | (refine rgn_appendBR rfl (.const (.slice none 0 0)) (.tmp 77) rfl (w3.heap.size + 1) (.slice none 0 0) [] rfl (OwnBR.empty _ _ _) (some ⟨gb, go + (hd + 4), none⟩) b m (c - (hd + 4)) Hbl.out rfl ((HinB.out _ Hina.out).drewN 1) Hrm.out hsa ?_; intro v4 w4 ho4 hg4 _; have hb4 : Below (w3.alloc (.cells #[.int .u8 0, .slice none 0 0] 73)).heap.size (w3.alloc (.cells #[.int .u8 0, .slice none 0 0] 73)) w4 := (belowDN _ 1).trans (Below.of_row hg4 (Nat.le_refl _) (fun k hk => by simp [rowOf] at hk)); have HP4 := Lib.hid (HPa.out.step hb4); have HV4 := Lib.hid (HVa.out.below hb4 HVa.out.lt); obtain ⟨p4, c4, hv4, hB4⟩ := (show OwnBR (w3.heap.size + 1) w4 v4 b from ho4).bytesS (S := fun k => w.heap.size < k ∧ k ≠ w3.heap.size) (fun k hk => ⟨by omega, by omega⟩); subst hv4; have HB4 := Lib.hid hB4; have hcV := HV4.out.cell; have hfV0 := HV4.out.frozen 0; have hfV1 := HV4.out.frozen 1; clear ho4 hg4 hb4 hB4)
          | (refine rgn_appendBR rfl (.const (.slice none 0 0)) (.tmp 77) rfl w3.heap.size (.slice none 0 0) [] rfl (OwnBR.empty _ _ _) (some ⟨gb, go + (hd + 4), none⟩) b m (c - (hd + 4)) Hbl.out rfl ((HinB.out _ Hin.out).drewN 1) Hrm.out (Nat.le_refl _) ?_; intro v4 w4 ho4 hg4 _; have hb4 : Below w3.heap.size w3 w4 := (belowDN _ 1).trans (Below.of_row hg4 (Nat.le_refl _) (fun k hk => by simp [rowOf] at hk)); have HP4 := Lib.hid (HP.out.step hb4); obtain ⟨p4, c4, hv4, hB4⟩ := (show OwnBR w3.heap.size w4 v4 b from ho4).bytesS (S := fun k => w.heap.size < k) (fun k hk => by omega); subst hv4; have HB4 := Lib.hid hB4; clear ho4 hg4 hb4 hB4))
      all_goals
        go_wp2_with fail
        go_meet
        first
          | exact rkC_new HP4.out HB4.out
          | exact rkC_set HP4.out HB4.out (by omega) HV4.out (by omega) (fun k hk e => by have := Hrow.out k hk; omega)
    case rest =>
      obtain ⟨g, q, d, rfl, hv, hB, hpk, hg⟩ := hcut
      have hvc := hv.cell
      have hvf := hv.frozen 0
      have hrc := hpk.res.cell
      have hrf0 := hpk.res.frozen 0
      have hrf1 := hpk.res.frozen 1
      have hfc := hpk.fr.blk.cell
      have hne4 : ¬ g = sb := by
        intro e
        have h1 := hv.cell 1
        have h2 := hfc 1
        rw [e, h2] at h1
        simp at h1
      have hne5 : ¬ w.heap.size = sb := by omega
      have hne6 : ¬ g = w.heap.size := by omega
      have hne7 : ¬ w.heap.size = g := by omega
      obtain ⟨p9, c9, e9, _, _, hin9, _⟩ := hpk.fr.own.slice
      simp only [Value.slice.injEq] at e9
      obtain ⟨rfl, -, rfl⟩ := e9
      have hb0 := hin9.cellAt 0 (by omega)
      rw [Nat.add_zero] at hb0
      have hi0 : 0 < L.length := by omega
      have HE : Hid (∀ wF, Touch (fun i => i = g ∨ i = w.heap.size) wc wF → BytesS (fun k => w.heap.size ≤ k) wF [.slice q b.length d] b ∧ RfO B wF sb hello L most room 0 (.slice (some ⟨gb, go, none⟩) L.length c) ∧ Touch (fun i => i = sb) w wF) := Lib.hid (fun wF hT => rk_end hpk hB hg hT)
      have hty : tyOf (!hello) L = if (!hello) then (L.getD 0 0).toNat else 0 := rfl
      have Hty := Lib.hid hty
      have hx0 := u8_bd (L.getD 0 0)
      generalize (L.getD 0 0).toNat = x0 at hb0 hx0 Hty
      clear hv hB hpk hin9 hty Hc3 HP HPa Hina HVa Hca HinB
      cases hello
      · have Hty0 := Lib.hid (show tyOf true L = x0 from Hty.out.trans rfl)
        go_wp2
        refine bodyPost_ret (v := .tuple #[.agg #[.int .u8 (x0 : Nat), .slice q b.length d], .bool true, .int .i64 0]) (by simp [results, Tryz.results30, go_sem, hrc]) rfl ⟨q, d, by rw [Hty0.out] <;> rfl, HE.out _ ?_⟩
        exact (((Touch.refl (fun i => i = g ∨ i = w.heap.size) wc).setCell (x := ⟨g, 0, none⟩) (fun _ => .inl rfl) _).setCell (x := ⟨w.heap.size, 0, none⟩) (fun _ => .inr rfl) _).setCell (x := ⟨w.heap.size, 1, none⟩) (fun _ => .inr rfl) _
      · have Hty0 := Lib.hid (show tyOf false L = 0 from Hty.out.trans rfl)
        clear hb0
        go_wp2
        refine bodyPost_ret (v := .tuple #[.agg #[.int .u8 0, .slice q b.length d], .bool true, .int .i64 0]) (by simp [results, Tryz.results30, go_sem, hrc]) rfl ⟨q, d, by rw [Hty0.out] <;> rfl, HE.out _ ?_⟩
        exact ((Touch.refl (fun i => i = g ∨ i = w.heap.size) wc).setCell (x := ⟨w.heap.size, 0, none⟩) (fun _ => .inr rfl) _).setCell (x := ⟨w.heap.size, 1, none⟩) (fun _ => .inr rfl) _
end Go.Proofs.YtacnmdlefonjmaaGreat

/-
  What comes of a client (layer 39): a first message.
-/
namespace Go.Proofs.YtacnmdlefonjmaaGreat
open Go.RowKit
set_option linter.unusedVariables false
set_option linter.unusedSimpArgs false

set_option maxRecDepth 100000 in
set_option maxHeartbeats 8000000 in
theorem first_any (ty : Int) (p0 : Option Addr) (b : List UInt8) (cap : Nat) (w : World) (hl : b.length ≤ 100000) (hb : BytesIn w p0 b) :
    Calls Tryz.prog 49 #[.agg #[.int .u8 ty, .slice p0 b.length cap]] w (ItR (firstV b) w) := by
  have ha1 := (Below.refl w.heap.size w).alloc (Nat.le_refl _) (.cells #[.int .u8 ty, .slice p0 b.length cap] 73)
  have ha2 := ha1.alloc ha1.size (.cells itZ 48)
  have hm := ((Blk.new w 73 #[.int .u8 ty, .slice p0 b.length cap]).alloc (.cells itZ 48)).cell
  have hbg := it_hz (w.alloc (.cells #[.int .u8 ty, .slice p0 b.length cap] 73))
  have hz2 : ((w.alloc (.cells #[.int .u8 ty, .slice p0 b.length cap] 73)).alloc (.cells itZ 48)).heap.size = w.heap.size + 1 + 1 := by simp
  rw [World.size_alloc] at hbg
  have hp := parse_any p0 b cap _ hl (hb.below ha2)
  generalize hy : firstV b = y
  unfold firstV at hy
  have Hy := Lib.hid hy
  clear hy
  unfold itZ at *
  go_enter Tryz.func49, Tryz.ntmps49
  go_wp2_with fail
  generalize ((w.alloc (.cells #[.int .u8 ty, .slice p0 b.length cap] 73)).alloc (.cells #[.int .i64 0, .int .i64 0, .int .i64 0, .int .i64 0, .slice none 0 0, .int .u8 0, .int .u8 0, .string ⟨#[]⟩, .string ⟨#[]⟩, .string ⟨#[]⟩, .slice none 0 0, .slice none 0 0, .slice none 0 0, .slice none 0 0, .int .i64 0, .string ⟨#[]⟩, .string ⟨#[]⟩] 48)) = w2 at *
  have Hz2 := Lib.hid hz2
  have HBw := Lib.hid ha2
  have HBg := Lib.hid hbg
  have Hp := Lib.hid hp
  clear ha1 ha2 hz2 hbg hp hm
  obtain ⟨g, hg0⟩ : ∃ g, g = w.heap.size + 1 := ⟨_, rfl⟩
  rw [← hg0] at HBg ⊢
  have Hle : Hid (w.heap.size ≤ g) := Lib.hid (by omega)
  have Hlt : Hid (g < w2.heap.size) := Lib.hid (by have := Hz2.out; omega)
  clear hg0 Hz2
  refine Hp.out.mono ?_
  rintro e w3 ⟨p, c, rfl, hs3, hb3⟩
  have HBg := Lib.hid (HBg.out.below hb3 Hlt.out)
  have HBw := Lib.hid (HBw.out.trans (hb3.mono HBw.out.size))
  have Hs3 := Lib.hid (hs3.weak PrS.still (S' := fun j => w.heap.size ≤ j ∧ j ≠ g) (fun k hk hS => ⟨by have := Hle.out; have := Hlt.out; omega, by have := Hlt.out; omega⟩))
  have Hlt : Hid (g < w3.heap.size) := Lib.hid (by have := Hlt.out; have := hb3.size; omega)
  clear hs3 hb3 Hp
  generalize (parseV b).1 = h at *
  generalize (parseV b).2 = er at *
  have ha4 := (Below.refl w3.heap.size w3).alloc (Nat.le_refl _) (.cells #[.int .i64 h.code, .int .i64 h.process, .int .i64 h.secret, .slice p h.params.length c] 42)
  have hh4 := (Blk.new w3 42 #[.int .i64 h.code, .int .i64 h.process, .int .i64 h.secret, .slice p h.params.length c]).cell
  have HBg := Lib.hid (HBg.out.below ha4 Hlt.out)
  have HBw := Lib.hid (HBw.out.trans (ha4.mono HBw.out.size))
  have Hlt : Hid (g < (w3.alloc (.cells #[.int .i64 h.code, .int .i64 h.process, .int .i64 h.secret, .slice p h.params.length c] 42)).heap.size) := Lib.hid (by have := Hlt.out; have := ha4.size; omega)
  have Hs4 := Lib.hid (Hs3.out.below PrS.still ha4)
  clear ha4 Hs3
  unfold helArg helCells
  by_cases he : er = 0
  · subst he
    obtain rfl : (⟨1, h, foZero 0, ⟨#[]⟩, ⟨#[]⟩⟩ : ItV) = y := (if_pos rfl).symm.trans Hy.out
    clear Hy
    go_upto_region 4 with (fail)
    generalize (w3.alloc (.cells #[.int .i64 h.code, .int .i64 h.process, .int .i64 h.secret, .slice p h.params.length c] 42)) = w4 at *
    clear Hlt
    go_wp2_with (refine wpList_store_it _ rfl (.tmp 2) (.tmp 16) rfl g _ _ rfl rfl HBg.out rfl rfl (by simp [Value.oneCell']) ?_; intro w8 hb8 hT8; have HB8 := Lib.hid hb8; have HT8 := Lib.hid hT8; clear hb8 hT8)
    exact bodyPost_ret (v := .agg #[.int .i64 1, .int .i64 h.code, .int .i64 h.process, .int .i64 h.secret, .slice p h.params.length c, .int .u8 0, .int .u8 0, .string ⟨#[]⟩, .string ⟨#[]⟩, .string ⟨#[]⟩, .slice none 0 0, .slice none 0 0, .slice none 0 0, .slice none 0 0, .int .i64 0, .string ⟨#[]⟩, .string ⟨#[]⟩]) (results_cell_row (fn := Tryz.f49) (p := 2) (by kernel_rfl) _ _ g _ _ (0, 0) _ rfl HB8.out Tryz.underlying48 rfl it_info) rfl (it_fin HT8.out HBw.out Hle.out (⟨1, h, foZero 0, ⟨#[]⟩, ⟨#[]⟩⟩) (p) (c) (foNil) (Hs4.out) (FoL.zero _ _ 0))
  · obtain rfl : faultV er = y := (if_neg he).symm.trans Hy.out
    clear Hy
    have heb : (er == 0) = false := by simpa using he
    have Hw := Lib.hid (fun W => wrong_any er W)
    generalize faultV er = y at *
    go_wp2_with fail
    generalize (w3.alloc (.cells #[.int .i64 h.code, .int .i64 h.process, .int .i64 h.secret, .slice p h.params.length c] 42)) = w4 at *
    refine (Hw.out _).mono ?_
    rintro e w9 ⟨p9, c9, a9, rfl, hs9, hl9, hb9⟩
    have HBg := Lib.hid (HBg.out.below hb9 Hlt.out)
    have HBw := Lib.hid (HBw.out.trans (hb9.mono HBw.out.size))
    have Hs9 := Lib.hid (hs9.weak PrS.still (S' := fun j => w.heap.size ≤ j ∧ j ≠ g) (fun k hk hS => ⟨by have := Hlt.out; have := Hle.out; omega, by have := Hlt.out; omega⟩))
    have Hl9 := Lib.hid (hl9.weak (S' := fun j => w.heap.size ≤ j ∧ j ≠ g) (fun k hk hS => ⟨by have := Hlt.out; have := Hle.out; omega, by have := Hlt.out; omega⟩))
    clear hs9 hl9 hb9
    unfold itArg itCells
    go_wp2_with (refine wpList_store_it _ rfl (.tmp 2) (.tmp 14) rfl g _ _ rfl rfl HBg.out rfl rfl (by simp [Value.oneCell']) ?_; intro w8 hb8 hT8; have HB8 := Lib.hid hb8; have HT8 := Lib.hid hT8; clear hb8 hT8)
    exact bodyPost_ret (v := .agg #[.int .i64 y.kind, .int .i64 y.hel.code, .int .i64 y.hel.process, .int .i64 y.hel.secret, .slice p9 y.hel.params.length c9, .int .u8 y.front.kind, .int .u8 y.front.what, .string y.front.name, .string y.front.portal, .string y.front.text, .slice a9.po y.front.oids.length a9.co, .slice a9.pf y.front.formats.length a9.cf, .slice a9.pr y.front.results.length a9.cr, .slice a9.pp y.front.params.length a9.cp, .int .i64 y.front.max, .string y.code, .string y.text]) (results_cell_row (fn := Tryz.f49) (p := 2) (by kernel_rfl) _ _ g _ _ (0, 0) _ rfl HB8.out Tryz.underlying48 rfl it_info) rfl (it_fin HT8.out HBw.out Hle.out (y) (p9) (c9) (a9) (Hs9.out) (Hl9.out))

end Go.Proofs.YtacnmdlefonjmaaGreat

