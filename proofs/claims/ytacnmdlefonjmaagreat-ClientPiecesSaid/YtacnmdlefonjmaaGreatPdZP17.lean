/-
  Ground: ClC, RcK.
-/
import Derived.Test.YtacnmdlefonjmaaGreatPdZP16
import Derived.Test.YtacnmdlefonjmaaGreatPdZP13
/-
  What is next of a client (layer 39): Peek, Take.
-/
namespace Go.Proofs.YtacnmdlefonjmaaGreat
open Go.RowKit
set_option linter.unusedVariables false
set_option linter.unusedSimpArgs false

/-- What is left: the item, its lists. -/
def ItE (B : Nat) (x : ItV) (e : Ending) (w' : World) : Prop :=
  ∃ p c a, e = .returned (itArg x p c a) ∧ SliceS 2 PrS (fun j => B ≤ j) w' [.slice p x.hel.params.length c] x.hel.params ∧ FoL (fun j => B ≤ j) w' x.front a
theorem it_finE {B : Nat} {w w8 : World} {g : Nat} (hT : Touch (fun k => k = g) w w8) (x : ItV) (p : Option Addr) (c : Nat) (a : FoP)
    (hs : SliceS 2 PrS (fun j => B ≤ j ∧ j ≠ g) w [.slice p x.hel.params.length c] x.hel.params) (hl : FoL (fun j => B ≤ j ∧ j ≠ g) w x.front a) : ItE B x (.returned (itArg x p c a)) w8 :=
  ⟨p, c, a, rfl, (SliceS.still PrS.still) _ _ _ _ _ _ hs (Kept.touch hT (fun j _ h => ⟨h.1, h.2⟩)), hl.keep (Kept.touch hT (fun j _ h => ⟨h.1, h.2⟩))⟩
/-- What is next. -/
def peekV (t : Bool) (most : Nat) (L : List UInt8) (wrong : Int) : ItV :=
  match nextL t most L wrong with
  | some (ty, b, _) => itemV t true (ty : Int) b 0
  | none => itemV t false 0 [] (wrongL t most L wrong)
/-- What is behind it. -/
def restL (t : Bool) (most : Nat) (L : List UInt8) (wrong : Int) : List UInt8 :=
  match nextL t most L wrong with
  | some (_, _, r) => r
  | none => L
theorem peekV_none {t : Bool} {most : Nat} {L : List UInt8} {wrong : Int} (h : nextL t most L wrong = none) : peekV t most L wrong = itemV t false 0 [] (wrongL t most L wrong) ∧ restL t most L wrong = L := by
  unfold peekV restL
  rw [h]
  exact ⟨rfl, rfl⟩
theorem peekV_some {t : Bool} {most : Nat} {L : List UInt8} {wrong : Int} {ty : Nat} {b r : List UInt8} (h : nextL t most L wrong = some (ty, b, r)) : peekV t most L wrong = itemV t true (ty : Int) b 0 ∧ restL t most L wrong = r := by
  unfold peekV restL
  rw [h]
  exact ⟨rfl, rfl⟩
theorem tyOf_bd (t : Bool) (L : List UInt8) : tyOf t L < 256 := by
  unfold tyOf
  split
  · exact UInt8.toNat_lt _
  · omega
theorem next_wrong {t : Bool} {most : Nat} {L : List UInt8} {wrong : Int} {x : Nat × List UInt8 × List UInt8} (h : nextL t most L wrong = some x) : wrongL t most L wrong = 0 := by
  unfold nextL at h
  unfold wrongL
  split at h
  · rename_i hw
    obtain ⟨n, b, r, e⟩ : ∃ n b r, frWhole t L most wrong = (n, b, r) := ⟨_, _, _, rfl⟩
    rw [e] at hw ⊢
    simp only at hw
    subst hw
    exact (frWhole_yes e).2.1
  · cases h
theorem nextL_bd {t : Bool} {most : Nat} {L : List UInt8} {wrong : Int} {ty : Nat} {b r : List UInt8} (h : nextL t most L wrong = some (ty, b, r)) : ty < 256 ∧ b.length ≤ most := by
  unfold nextL at h
  split at h
  · rename_i hw
    simp only [Option.some.injEq, Prod.mk.injEq] at h
    obtain ⟨h1, h2, h3⟩ := h
    refine ⟨by rw [← h1]; exact tyOf_bd t L, ?_⟩
    rw [← h2, List.length_take]
    have : (frWhole t L most wrong).1.toNat - (headN t + 4) ≤ most := by
      unfold frWhole at hw ⊢
      split at hw
      · simp at hw
      · split at hw
        · simp at hw
        · split at hw
          · simp at hw
          · rename_i h5 h6 h7
            rw [if_neg h5, if_neg h6, if_neg h7]
            have h8 : frErr most (frN t L) = 0 := by omega
            unfold frErr at h8
            split at h8
            · omega
            · split at h8
              · omega
              · show ((headN t : Int) + frN t L).toNat - (headN t + 4) ≤ most
                omega
    omega
  · cases h

set_option maxRecDepth 100000 in
set_option maxHeartbeats 8000000 in
theorem clPeek_any (B cb sb : Nat) (t : Bool) (L : List UInt8) (most room : Nat) (wrong : Int) (v : Value) (w : World) (h : ClO B w cb sb t L most room wrong v) (hr : 0 < room) (hL : L.length ≤ 262144) (hm : most ≤ 65536) :
    Calls Tryz.prog 12 #[.pointer (some ⟨cb, 0, none⟩)] w fun e w' => ItE w.heap.size (peekV t most L wrong) e w' ∧ ClO B w' cb sb t L most room (wrongL t most L wrong) v ∧ Touch (fun i => i = sb) w w' := by
  have ha1 := (Below.refl w.heap.size w).alloc (Nat.le_refl _) (.cells itZ 48)
  have HBg := Lib.hid (it_hz w)
  have h1 := h.still ha1
  have hc1 := h1.blk.cell
  have HR := Lib.hid (clReady_blk cb _ _ _ hc1)
  have HF := Lib.hid (frPeek_any B sb t L most room wrong v _ h1.fr hr hL)
  have H1 := Lib.hid h1
  have hz1 : w.heap.size < (w.alloc (.cells itZ 48)).heap.size := by simp
  have hlt : cb < w.heap.size ∧ sb < w.heap.size := ⟨h.blk.lt, h.fr.blk.lt⟩
  have hrow : ∀ k, rowOf v = some k → k < w.heap.size := fun k hk => (h.fr.own.row k hk).2
  have HRow := Lib.hid hrow
  have HT1 : Hid (Touch (fun i => i = sb) w (w.alloc (.cells itZ 48))) := Lib.hid (Touch.of_below ha1)
  unfold itZ at *
  clear h h1 ha1 hrow
  obtain ⟨pk, hpk⟩ : ∃ pk, pk = peekV t most L wrong := ⟨_, rfl⟩
  obtain ⟨rs, hrs⟩ : ∃ rs, rs = restL t most L wrong := ⟨_, rfl⟩
  rw [← hpk]
  have Hpk := Lib.hid (And.intro hpk hrs)
  clear hpk hrs
  go_enter Tryz.func12, Tryz.ntmps12
  go_wp2_with fail
  generalize w.alloc (.cells #[.int .i64 0, .int .i64 0, .int .i64 0, .int .i64 0, .slice none 0 0, .int .u8 0, .int .u8 0, .string ⟨#[]⟩, .string ⟨#[]⟩, .string ⟨#[]⟩, .slice none 0 0, .slice none 0 0, .slice none 0 0, .slice none 0 0, .int .i64 0, .string ⟨#[]⟩, .string ⟨#[]⟩] 48) = w1 at *
  have Hz1 := Lib.hid hz1
  have Hlt := Lib.hid hlt
  clear hz1 hlt
  obtain ⟨g, hg0⟩ : ∃ g, g = w.heap.size := ⟨_, rfl⟩
  have Hg : Hid (g = w.heap.size) := Lib.hid hg0
  rw [← hg0] at HBg ⊢
  clear hg0
  refine HR.out.mono ?_
  rintro e wx ⟨rfl, rfl⟩
  go_wp2_with fail
  refine HF.out.mono ?_
  rintro e w2 ⟨hP, hf2, hT2⟩
  have Hz2 : Hid (w.heap.size < w2.heap.size) := Lib.hid (Nat.lt_of_lt_of_le Hz1.out hT2.size)
  have H2 := Lib.hid (H1.out.step hf2 (fun k hk => .inl hk) (hT2.mono (fun _ _ e => .inl e)))
  have HBg := Lib.hid (hT2.blk HBg.out (by have := Hg.out; have := Hlt.out; omega))
  have HTw := Lib.hid (HT1.out.trans (hT2.mono (fun _ _ e => e)))
  clear hf2 hT2 HF H1 HT1 HR hc1
  rcases hP with ⟨hn, rfl⟩ | ⟨ty, b, r, q, d, hn, hw0, hw1, hhl, hrr, rfl, hby⟩
  · have Hpv := Lib.hid (peekV_none hn)
    clear hn
    have he := (Hpv.out.1.symm.trans Hpk.out.1.symm)
    clear Hpv Hpk
    have hc2 := H2.out.blk.cell
    have HI := Lib.hid (item_any cb _ t 0 (by omega) (by omega) none 0 [] 0 false (wrongL t most L wrong) w2 hc2 H2.out.blk.lt (fun _ e => by cases e))
    rw [he] at HI
    clear he
    go_wp2_with fail
    refine HI.out.mono ?_
    rintro e w9 ⟨p9, c9, a9, rfl, hs9, hl9, hb9⟩
    have HBg := Lib.hid (HBg.out.below hb9 (by have := Hz2.out; have := Hg.out; omega))
    have Hs9 := Lib.hid (hs9.weak PrS.still (S' := fun j => w.heap.size ≤ j ∧ j ≠ g) (fun k hk hS => ⟨by have := Hz2.out; omega, by have := Hz2.out; have := Hg.out; omega⟩))
    have Hl9 := Lib.hid (hl9.weak (S' := fun j => w.heap.size ≤ j ∧ j ≠ g) (fun k hk hS => ⟨by have := Hz2.out; omega, by have := Hz2.out; have := Hg.out; omega⟩))
    have H9 := Lib.hid (H2.out.still hb9)
    have HTw := Lib.hid (HTw.out.then (Touch.of_below (p := fun _ => False) hb9) (fun _ _ e => e.elim))
    clear hs9 hl9 hb9 HI
    unfold itArg itCells
    go_wp2_with (refine wpList_store_it _ rfl (.tmp 2) (.tmp 16) rfl g _ _ rfl rfl HBg.out rfl rfl (by simp [Value.oneCell']) ?_; intro w8 hb8 hT8; have HB8 := Lib.hid hb8; have HT8 := Lib.hid hT8; clear hb8 hT8)
    exact bodyPost_ret (v := .agg #[.int .i64 pk.kind, .int .i64 pk.hel.code, .int .i64 pk.hel.process, .int .i64 pk.hel.secret, .slice p9 pk.hel.params.length c9, .int .u8 pk.front.kind, .int .u8 pk.front.what, .string pk.front.name, .string pk.front.portal, .string pk.front.text, .slice a9.po pk.front.oids.length a9.co, .slice a9.pf pk.front.formats.length a9.cf, .slice a9.pr pk.front.results.length a9.cr, .slice a9.pp pk.front.params.length a9.cp, .int .i64 pk.front.max, .string pk.code, .string pk.text]) (results_cell_row (fn := Tryz.f12) (p := 2) (by kernel_rfl) _ _ g _ _ (0, 0) _ rfl HB8.out Tryz.underlying48 rfl it_info) rfl (⟨it_finE HT8.out pk p9 c9 a9 Hs9.out Hl9.out, H9.out.touch HT8.out (by have := Hg.out; have := Hlt.out; omega) (by have := Hg.out; have := Hlt.out; omega) (fun k hk => by have := HRow.out k hk; have := Hg.out; omega), HTw.out.then HT8.out (fun i hi e => by have := Hg.out; omega)⟩)
  · have Hbd := Lib.hid (nextL_bd hn)
    have Hpv := Lib.hid (peekV_some hn)
    have Hw1 := Lib.hid hw1
    obtain ⟨q', d', e', -, -, hq, -⟩ := hby
    simp only [List.cons.injEq, Value.slice.injEq, and_true] at e'
    obtain ⟨rfl, -, rfl⟩ := e'
    have Hby := Lib.hid hq
    clear hn hw0 hw1 hhl hrr hq
    have he := (Hpv.out.1.symm.trans Hpk.out.1.symm)
    clear Hpv Hpk
    have hc2 := H2.out.blk.cell
    have HI := Lib.hid (item_any cb _ t (ty : Int) (by omega) (by have := Hbd.out.1; omega) q _ b d true 0 w2 hc2 H2.out.blk.lt (fun _ _ => ⟨rfl, by have := Hbd.out.2; omega, Hby.out⟩))
    rw [he] at HI
    clear he
    go_wp2_with fail
    refine HI.out.mono ?_
    rintro e w9 ⟨p9, c9, a9, rfl, hs9, hl9, hb9⟩
    have HBg := Lib.hid (HBg.out.below hb9 (by have := Hz2.out; have := Hg.out; omega))
    have Hs9 := Lib.hid (hs9.weak PrS.still (S' := fun j => w.heap.size ≤ j ∧ j ≠ g) (fun k hk hS => ⟨by have := Hz2.out; omega, by have := Hz2.out; have := Hg.out; omega⟩))
    have Hl9 := Lib.hid (hl9.weak (S' := fun j => w.heap.size ≤ j ∧ j ≠ g) (fun k hk hS => ⟨by have := Hz2.out; omega, by have := Hz2.out; have := Hg.out; omega⟩))
    have H9 := Lib.hid (H2.out.still hb9)
    have HTw := Lib.hid (HTw.out.then (Touch.of_below (p := fun _ => False) hb9) (fun _ _ e => e.elim))
    clear hs9 hl9 hb9 HI
    unfold itArg itCells
    go_wp2_with (refine wpList_store_it _ rfl (.tmp 2) (.tmp 16) rfl g _ _ rfl rfl HBg.out rfl rfl (by simp [Value.oneCell']) ?_; intro w8 hb8 hT8; have HB8 := Lib.hid hb8; have HT8 := Lib.hid hT8; clear hb8 hT8)
    exact bodyPost_ret (v := .agg #[.int .i64 pk.kind, .int .i64 pk.hel.code, .int .i64 pk.hel.process, .int .i64 pk.hel.secret, .slice p9 pk.hel.params.length c9, .int .u8 pk.front.kind, .int .u8 pk.front.what, .string pk.front.name, .string pk.front.portal, .string pk.front.text, .slice a9.po pk.front.oids.length a9.co, .slice a9.pf pk.front.formats.length a9.cf, .slice a9.pr pk.front.results.length a9.cr, .slice a9.pp pk.front.params.length a9.cp, .int .i64 pk.front.max, .string pk.code, .string pk.text]) (results_cell_row (fn := Tryz.f12) (p := 2) (by kernel_rfl) _ _ g _ _ (0, 0) _ rfl HB8.out Tryz.underlying48 rfl it_info) rfl (⟨it_finE HT8.out pk p9 c9 a9 Hs9.out Hl9.out, H9.out.touch HT8.out (by have := Hg.out; have := Hlt.out; omega) (by have := Hg.out; have := Hlt.out; omega) (fun k hk => by have := HRow.out k hk; have := Hg.out; omega), HTw.out.then HT8.out (fun i hi e => by have := Hg.out; omega)⟩)

set_option maxRecDepth 100000 in
set_option maxHeartbeats 8000000 in
theorem clTake_any (B cb sb : Nat) (t : Bool) (L : List UInt8) (most room : Nat) (wrong : Int) (v : Value) (w : World) (h : ClO B w cb sb t L most room wrong v) (hr : 0 < room) (hL : L.length ≤ 262144) (hm : most ≤ 65536) :
    Calls Tryz.prog 14 #[.pointer (some ⟨cb, 0, none⟩)] w fun e w' => ItE w.heap.size (peekV t most L wrong) e w' ∧ ∃ v', ClO B w' cb sb t (restL t most L wrong) most room (wrongL t most L wrong) v' ∧ (∀ k, rowOf v' = some k → rowOf v = some k) ∧ FrT sb v w w' := by
  have ha1 := (Below.refl w.heap.size w).alloc (Nat.le_refl _) (.cells itZ 48)
  have HBg := Lib.hid (it_hz w)
  have h1 := h.still ha1
  have hc1 := h1.blk.cell
  have HR := Lib.hid (clReady_blk cb _ _ _ hc1)
  have HF := Lib.hid (frNext_any B sb t L most room wrong v _ h1.fr hr hL)
  have H1 := Lib.hid h1
  have hz1 : w.heap.size < (w.alloc (.cells itZ 48)).heap.size := by simp
  have hlt : cb < w.heap.size ∧ sb < w.heap.size := ⟨h.blk.lt, h.fr.blk.lt⟩
  have hrow : ∀ k, rowOf v = some k → k < w.heap.size := fun k hk => (h.fr.own.row k hk).2
  have HRow := Lib.hid hrow
  have HT1 : Hid (Touch (fun i => i = sb) w (w.alloc (.cells itZ 48))) := Lib.hid (Touch.of_below ha1)
  unfold itZ at *
  clear h h1 ha1 hrow
  obtain ⟨pk, hpk⟩ : ∃ pk, pk = peekV t most L wrong := ⟨_, rfl⟩
  obtain ⟨rs, hrs⟩ : ∃ rs, rs = restL t most L wrong := ⟨_, rfl⟩
  rw [← hpk, ← hrs]
  have Hpk := Lib.hid (And.intro hpk hrs)
  clear hpk hrs
  go_enter Tryz.func14, Tryz.ntmps14
  go_wp2_with fail
  generalize w.alloc (.cells #[.int .i64 0, .int .i64 0, .int .i64 0, .int .i64 0, .slice none 0 0, .int .u8 0, .int .u8 0, .string ⟨#[]⟩, .string ⟨#[]⟩, .string ⟨#[]⟩, .slice none 0 0, .slice none 0 0, .slice none 0 0, .slice none 0 0, .int .i64 0, .string ⟨#[]⟩, .string ⟨#[]⟩] 48) = w1 at *
  have Hz1 := Lib.hid hz1
  have Hlt := Lib.hid hlt
  clear hz1 hlt
  obtain ⟨g, hg0⟩ : ∃ g, g = w.heap.size := ⟨_, rfl⟩
  have Hg : Hid (g = w.heap.size) := Lib.hid hg0
  rw [← hg0] at HBg ⊢
  clear hg0
  refine HR.out.mono ?_
  rintro e wx ⟨rfl, rfl⟩
  go_wp2_with fail
  refine HF.out.mono ?_
  rintro e w2 (⟨hn, rfl, hf2, hT2⟩ | ⟨ty, b, r, q, d, v', hn, hw0, hrl, hbl, rfl, hby, hf2, hr2, hT2⟩)
  · have Hz2 : Hid (w.heap.size < w2.heap.size) := Lib.hid (Nat.lt_of_lt_of_le Hz1.out hT2.size)
    have H2 := Lib.hid (H1.out.step hf2 (fun k hk => .inl hk) (hT2.mono (fun _ _ e => .inl e)))
    have HBg := Lib.hid (hT2.blk HBg.out (by have := Hg.out; have := Hlt.out; omega))
    have HTw : Hid (FrT sb v w w2) := Lib.hid ((HT1.out.trans (hT2.mono (fun _ _ e => e))).mono (fun _ _ e => .inl e))
    have Hr2 : Hid (∀ k, rowOf v = some k → rowOf v = some k) := Lib.hid (fun _ h => h)
    have Hpv := Lib.hid (peekV_none hn)
    clear hf2 hT2 HF H1 HT1 HR hc1 hn
    have he := (Hpv.out.1.symm.trans Hpk.out.1.symm)
    obtain rfl := (Hpv.out.2.symm.trans Hpk.out.2.symm)
    clear Hpv Hpk
    have hc2 := H2.out.blk.cell
    have HI := Lib.hid (item_any cb _ t 0 (by omega) (by omega) none 0 [] 0 false (wrongL t most L wrong) w2 hc2 H2.out.blk.lt (fun _ e => by cases e))
    rw [he] at HI
    clear he
    go_wp2_with fail
    refine HI.out.mono ?_
    rintro e w9 ⟨p9, c9, a9, rfl, hs9, hl9, hb9⟩
    have HBg := Lib.hid (HBg.out.below hb9 (by have := Hz2.out; have := Hg.out; omega))
    have Hs9 := Lib.hid (hs9.weak PrS.still (S' := fun j => w.heap.size ≤ j ∧ j ≠ g) (fun k hk hS => ⟨by have := Hz2.out; omega, by have := Hz2.out; have := Hg.out; omega⟩))
    have Hl9 := Lib.hid (hl9.weak (S' := fun j => w.heap.size ≤ j ∧ j ≠ g) (fun k hk hS => ⟨by have := Hz2.out; omega, by have := Hz2.out; have := Hg.out; omega⟩))
    have H9 := Lib.hid (H2.out.still hb9)
    have HTw := Lib.hid (HTw.out.then (Touch.of_below (p := fun _ => False) hb9) (fun _ _ e => e.elim))
    clear hs9 hl9 hb9 HI
    unfold itArg itCells
    go_wp2_with (refine wpList_store_it _ rfl (.tmp 2) (.tmp 16) rfl g _ _ rfl rfl HBg.out rfl rfl (by simp [Value.oneCell']) ?_; intro w8 hb8 hT8; have HB8 := Lib.hid hb8; have HT8 := Lib.hid hT8; clear hb8 hT8)
    exact bodyPost_ret (v := .agg #[.int .i64 pk.kind, .int .i64 pk.hel.code, .int .i64 pk.hel.process, .int .i64 pk.hel.secret, .slice p9 pk.hel.params.length c9, .int .u8 pk.front.kind, .int .u8 pk.front.what, .string pk.front.name, .string pk.front.portal, .string pk.front.text, .slice a9.po pk.front.oids.length a9.co, .slice a9.pf pk.front.formats.length a9.cf, .slice a9.pr pk.front.results.length a9.cr, .slice a9.pp pk.front.params.length a9.cp, .int .i64 pk.front.max, .string pk.code, .string pk.text]) (results_cell_row (fn := Tryz.f14) (p := 2) (by kernel_rfl) _ _ g _ _ (0, 0) _ rfl HB8.out Tryz.underlying48 rfl it_info) rfl (⟨it_finE HT8.out pk p9 c9 a9 Hs9.out Hl9.out, _, H9.out.touch HT8.out (by have := Hg.out; have := Hlt.out; omega) (by have := Hg.out; have := Hlt.out; omega) (fun k hk => by have := HRow.out k (Hr2.out k hk); have := Hg.out; omega), Hr2.out, HTw.out.then HT8.out (fun i hi e => by have := Hg.out; omega)⟩)
  · have Hz2 : Hid (w.heap.size < w2.heap.size) := Lib.hid (Nat.lt_of_lt_of_le Hz1.out hT2.size)
    have Hbd := Lib.hid (nextL_bd hn)
    have hwl : wrongL t most L wrong = 0 := next_wrong hn
    rw [← hwl] at hf2
    have H2 := Lib.hid (H1.out.step hf2 (fun k hk => .inl (hr2 k hk)) hT2)
    have HBg := Lib.hid (hT2.blk HBg.out (fun e => by
      have h1 := Hg.out
      rcases e with e | e
      · have := Hlt.out; omega
      · have := HRow.out g e; omega))
    have HTw : Hid (FrT sb v w w2) := Lib.hid ((HT1.out.mono (fun _ _ e => .inl e)).then hT2 (fun _ _ e => e))
    have Hr2 := Lib.hid hr2
    have Hpv := Lib.hid (peekV_some hn)
    obtain ⟨q', d', e', -, -, hq, -⟩ := hby
    simp only [List.cons.injEq, Value.slice.injEq, and_true] at e'
    obtain ⟨rfl, -, rfl⟩ := e'
    have Hby := Lib.hid hq
    clear hf2 hT2 HF H1 HT1 HR hc1 hn hw0 hrl hbl hq hr2 hwl
    have he := (Hpv.out.1.symm.trans Hpk.out.1.symm)
    obtain rfl := (Hpv.out.2.symm.trans Hpk.out.2.symm)
    clear Hpv Hpk
    have hc2 := H2.out.blk.cell
    have HI := Lib.hid (item_any cb _ t (ty : Int) (by omega) (by have := Hbd.out.1; omega) q _ b d true 0 w2 hc2 H2.out.blk.lt (fun _ _ => ⟨rfl, by have := Hbd.out.2; omega, Hby.out⟩))
    rw [he] at HI
    clear he
    go_wp2_with fail
    refine HI.out.mono ?_
    rintro e w9 ⟨p9, c9, a9, rfl, hs9, hl9, hb9⟩
    have HBg := Lib.hid (HBg.out.below hb9 (by have := Hz2.out; have := Hg.out; omega))
    have Hs9 := Lib.hid (hs9.weak PrS.still (S' := fun j => w.heap.size ≤ j ∧ j ≠ g) (fun k hk hS => ⟨by have := Hz2.out; omega, by have := Hz2.out; have := Hg.out; omega⟩))
    have Hl9 := Lib.hid (hl9.weak (S' := fun j => w.heap.size ≤ j ∧ j ≠ g) (fun k hk hS => ⟨by have := Hz2.out; omega, by have := Hz2.out; have := Hg.out; omega⟩))
    have H9 := Lib.hid (H2.out.still hb9)
    have HTw := Lib.hid (HTw.out.then (Touch.of_below (p := fun _ => False) hb9) (fun _ _ e => e.elim))
    clear hs9 hl9 hb9 HI
    unfold itArg itCells
    go_wp2_with (refine wpList_store_it _ rfl (.tmp 2) (.tmp 16) rfl g _ _ rfl rfl HBg.out rfl rfl (by simp [Value.oneCell']) ?_; intro w8 hb8 hT8; have HB8 := Lib.hid hb8; have HT8 := Lib.hid hT8; clear hb8 hT8)
    exact bodyPost_ret (v := .agg #[.int .i64 pk.kind, .int .i64 pk.hel.code, .int .i64 pk.hel.process, .int .i64 pk.hel.secret, .slice p9 pk.hel.params.length c9, .int .u8 pk.front.kind, .int .u8 pk.front.what, .string pk.front.name, .string pk.front.portal, .string pk.front.text, .slice a9.po pk.front.oids.length a9.co, .slice a9.pf pk.front.formats.length a9.cf, .slice a9.pr pk.front.results.length a9.cr, .slice a9.pp pk.front.params.length a9.cp, .int .i64 pk.front.max, .string pk.code, .string pk.text]) (results_cell_row (fn := Tryz.f14) (p := 2) (by kernel_rfl) _ _ g _ _ (0, 0) _ rfl HB8.out Tryz.underlying48 rfl it_info) rfl (⟨it_finE HT8.out pk p9 c9 a9 Hs9.out Hl9.out, _, H9.out.touch HT8.out (by have := Hg.out; have := Hlt.out; omega) (by have := Hg.out; have := Hlt.out; omega) (fun k hk => by have := HRow.out k (Hr2.out k hk); have := Hg.out; omega), Hr2.out, HTw.out.then HT8.out (fun i hi e => by have := Hg.out; omega)⟩)

set_option maxRecDepth 100000 in
set_option maxHeartbeats 8000000 in
theorem clPeek_none (x : Option Addr) (w : World) (hR : Calls Tryz.prog 24 #[.pointer x] (w.alloc (.cells itZ 48)) fun e w' => e = .returned (.bool false) ∧ (w.alloc (.cells itZ 48)) = w') :
    Calls Tryz.prog 12 #[.pointer x] w fun e w' => (∃ p c a, e = .returned (itArg itNo p c a)) ∧ Below w.heap.size w w' := by
  have ha1 := (Below.refl w.heap.size w).alloc (Nat.le_refl _) (.cells itZ 48)
  have HBg := Lib.hid (it_hz w)
  have HR := Lib.hid hR
  have Ha1 := Lib.hid ha1
  clear hR ha1
  unfold itZ at *
  go_enter Tryz.func12, Tryz.ntmps12
  go_wp2_with fail
  generalize w.alloc (.cells #[.int .i64 0, .int .i64 0, .int .i64 0, .int .i64 0, .slice none 0 0, .int .u8 0, .int .u8 0, .string ⟨#[]⟩, .string ⟨#[]⟩, .string ⟨#[]⟩, .slice none 0 0, .slice none 0 0, .slice none 0 0, .slice none 0 0, .int .i64 0, .string ⟨#[]⟩, .string ⟨#[]⟩] 48) = w1 at *
  obtain ⟨g, hg0⟩ : ∃ g, g = w.heap.size := ⟨_, rfl⟩
  have Hg : Hid (g = w.heap.size) := Lib.hid hg0
  rw [← hg0] at HBg ⊢
  clear hg0
  refine HR.out.mono ?_
  rintro e wx ⟨rfl, rfl⟩
  go_wp2_with (refine wpList_store_it _ rfl (.tmp 2) (.tmp 6) rfl g _ _ rfl rfl HBg.out rfl rfl (by simp [Value.oneCell']) ?_; intro w8 hb8 hT8; have HB8 := Lib.hid hb8; have HT8 := Lib.hid hT8; clear hb8 hT8)
  exact bodyPost_ret (v := .agg #[.int .i64 0, .int .i64 0, .int .i64 0, .int .i64 0, .slice none 0 0, .int .u8 0, .int .u8 0, .string ⟨#[]⟩, .string ⟨#[]⟩, .string ⟨#[]⟩, .slice none 0 0, .slice none 0 0, .slice none 0 0, .slice none 0 0, .int .i64 0, .string ⟨#[]⟩, .string ⟨#[]⟩]) (results_cell_row (fn := Tryz.f12) (p := 2) (by kernel_rfl) _ _ g _ _ (0, 0) _ rfl HB8.out Tryz.underlying48 rfl it_info) rfl (⟨⟨none, 0, foNil, rfl⟩, Ha1.out.trans (HT8.out.below Ha1.out.size (fun k e => by have := Hg.out; omega))⟩)
set_option maxRecDepth 100000 in
set_option maxHeartbeats 8000000 in
theorem clTake_none (x : Option Addr) (w : World) (hR : Calls Tryz.prog 24 #[.pointer x] (w.alloc (.cells itZ 48)) fun e w' => e = .returned (.bool false) ∧ (w.alloc (.cells itZ 48)) = w') :
    Calls Tryz.prog 14 #[.pointer x] w fun e w' => (∃ p c a, e = .returned (itArg itNo p c a)) ∧ Below w.heap.size w w' := by
  have ha1 := (Below.refl w.heap.size w).alloc (Nat.le_refl _) (.cells itZ 48)
  have HBg := Lib.hid (it_hz w)
  have HR := Lib.hid hR
  have Ha1 := Lib.hid ha1
  clear hR ha1
  unfold itZ at *
  go_enter Tryz.func14, Tryz.ntmps14
  go_wp2_with fail
  generalize w.alloc (.cells #[.int .i64 0, .int .i64 0, .int .i64 0, .int .i64 0, .slice none 0 0, .int .u8 0, .int .u8 0, .string ⟨#[]⟩, .string ⟨#[]⟩, .string ⟨#[]⟩, .slice none 0 0, .slice none 0 0, .slice none 0 0, .slice none 0 0, .int .i64 0, .string ⟨#[]⟩, .string ⟨#[]⟩] 48) = w1 at *
  obtain ⟨g, hg0⟩ : ∃ g, g = w.heap.size := ⟨_, rfl⟩
  have Hg : Hid (g = w.heap.size) := Lib.hid hg0
  rw [← hg0] at HBg ⊢
  clear hg0
  refine HR.out.mono ?_
  rintro e wx ⟨rfl, rfl⟩
  go_wp2_with (refine wpList_store_it _ rfl (.tmp 2) (.tmp 6) rfl g _ _ rfl rfl HBg.out rfl rfl (by simp [Value.oneCell']) ?_; intro w8 hb8 hT8; have HB8 := Lib.hid hb8; have HT8 := Lib.hid hT8; clear hb8 hT8)
  exact bodyPost_ret (v := .agg #[.int .i64 0, .int .i64 0, .int .i64 0, .int .i64 0, .slice none 0 0, .int .u8 0, .int .u8 0, .string ⟨#[]⟩, .string ⟨#[]⟩, .string ⟨#[]⟩, .slice none 0 0, .slice none 0 0, .slice none 0 0, .slice none 0 0, .int .i64 0, .string ⟨#[]⟩, .string ⟨#[]⟩]) (results_cell_row (fn := Tryz.f14) (p := 2) (by kernel_rfl) _ _ g _ _ (0, 0) _ rfl HB8.out Tryz.underlying48 rfl it_info) rfl (⟨⟨none, 0, foNil, rfl⟩, Ha1.out.trans (HT8.out.below Ha1.out.size (fun k e => by have := Hg.out; omega))⟩)

end Go.Proofs.YtacnmdlefonjmaaGreat

/-
  Plain laws of messages in pieces (layer 39).
-/
namespace Go.Proofs.YtacnmdlefonjmaaGreat
open Go.RowKit
set_option linter.unusedVariables false
set_option linter.unusedSimpArgs false

/-- A message that may be. -/
structure VaF (f : FoV) : Prop where
  ck : checkF f = 0
  fb : FoB f
  few : FewF f
  len : (bodyF f).length ≤ 50000

theorem kind_ne {f : FoV} (hc : checkF f = 0) (hb : FoB f) : UInt8.ofNat f.kind.toNat ≠ 0 := by
  have hk := known_kinds (check_ok hc).1
  intro e
  have h1 := kind_u8 hb
  rw [e] at h1
  have h2 : ((0 : UInt8).toNat : Int) = 0 := rfl
  rw [h2] at h1
  omega
theorem frame_form {f : FoV} (h : VaF f) : ∃ P : List UInt8, P.length = 4 ∧ be P = ((bodyF f).length : Int) + 4 ∧ frameB f = [UInt8.ofNat f.kind.toNat] ++ (P ++ bodyF f) := by
  have hl := h.len
  refine ⟨putB (((bodyF f).length : Int) + 4) 4 4, putB_length _ _ _, be_put4 (by omega) (by omega), ?_⟩
  unfold frameB msgL
  rw [if_pos h.ck, if_neg (kind_ne h.ck h.fb)]
  have := putV_right (l := [UInt8.ofNat f.kind.toNat]) (n := ((bodyF f).length : Int) + 4) (z := 4) (rightB_4 (by omega) (by omega))
  have h4 : putV [UInt8.ofNat f.kind.toNat] (((bodyF f).length : Int) + 4) 4 = putV [UInt8.ofNat f.kind.toNat] (((bodyF f).length : Int) + 4) ((4 : Nat) : Int) := rfl
  rw [h4, this, List.append_assoc]
/-- What is seen of a message's first bytes. -/
theorem whole_pre (k : UInt8) (P Y : List UInt8) (m : Nat) (hP : P.length = 4) (hb : be P = (m : Int) + 4) (hm : m ≤ 50000) :
    frWhole true ([k] ++ (P ++ Y)) 60000 0 = (((5 + m : Nat) : Int), decide (m ≤ Y.length), 0) := by
  have hlen : ([k] ++ (P ++ Y)).length = 5 + Y.length := by simp [hP]; omega
  have hh : headN true = 1 := rfl
  have hN : frN true ([k] ++ (P ++ Y)) = (m : Int) + 4 := by
    unfold frN
    rw [hh, show ([k] ++ (P ++ Y)).drop 1 = P ++ Y from rfl, ← hP, List.take_left, hb]
  have he : frErr 60000 ((m : Int) + 4) = 0 := by
    unfold frErr
    rw [if_neg (by omega), if_neg (by omega)]
  unfold frWhole
  rw [if_neg (by simp), if_neg (by rw [hh]; omega), hN, if_neg (by rw [he]; simp), hh, hlen]
  simp only [Prod.mk.injEq, and_true]
  exact ⟨by omega, decide_eq_decide.2 (by omega)⟩
theorem next_frame {f : FoV} (h : VaF f) (R : List UInt8) : nextL true 60000 (frameB f ++ R) 0 = some ((UInt8.ofNat f.kind.toNat).toNat, bodyF f, R) := by
  obtain ⟨P, hP, hb, he⟩ := frame_form h
  have hw := whole_pre (UInt8.ofNat f.kind.toNat) P (bodyF f ++ R) (bodyF f).length hP hb h.len
  rw [he, show [UInt8.ofNat f.kind.toNat] ++ (P ++ bodyF f) ++ R = [UInt8.ofNat f.kind.toNat] ++ (P ++ (bodyF f ++ R)) by simp]
  unfold nextL
  rw [hw]
  have hd : decide ((bodyF f).length ≤ (bodyF f ++ R).length) = true := by simp
  simp only [hd, if_true, Int.toNat_natCast, Option.some.injEq, Prod.mk.injEq]
  have hh : headN true = 1 := rfl
  have h5 : ([UInt8.ofNat f.kind.toNat] ++ (P ++ (bodyF f ++ R))).drop 5 = bodyF f ++ R := by
    rw [show (5 : Nat) = 1 + 4 from rfl, ← List.drop_drop, show ([UInt8.ofNat f.kind.toNat] ++ (P ++ (bodyF f ++ R))).drop 1 = P ++ (bodyF f ++ R) from rfl, ← hP, List.drop_left]
  refine ⟨by simp [tyOf, List.getD], ?_, ?_⟩
  · rw [hh, show 1 + 4 = 5 from rfl, h5, show 5 + (bodyF f).length - 5 = (bodyF f).length by omega, List.take_left]
  · rw [← List.drop_drop, h5, List.drop_left]
theorem part_none {f : FoV} (h : VaF f) {X M R : List UInt8} (he : X ++ M = frameB f ++ R) (hl : X.length < (frameB f).length) : nextL true 60000 X 0 = none ∧ wrongL true 60000 X 0 = 0 := by
  obtain ⟨P, hP, hb, hf⟩ := frame_form h
  have hfl : (frameB f).length = 5 + (bodyF f).length := by rw [hf]; simp [hP]; omega
  by_cases h5 : X.length < 5
  · have hw : frWhole true X 60000 0 = (0, false, 0) := by
      unfold frWhole
      rw [if_neg (by simp), if_pos (show X.length < headN true + 4 from h5)]
    unfold nextL wrongL
    rw [hw]
    exact ⟨rfl, rfl⟩
  · have hX : X = [UInt8.ofNat f.kind.toNat] ++ (P ++ X.drop 5) := by
      have h1 : X.take 5 = [UInt8.ofNat f.kind.toNat] ++ P := by
        have := congrArg (List.take 5) he
        rw [List.take_append_of_le_length (by omega), hf, show [UInt8.ofNat f.kind.toNat] ++ (P ++ bodyF f) ++ R = ([UInt8.ofNat f.kind.toNat] ++ P) ++ (bodyF f ++ R) by simp, List.take_append_of_le_length (by simp [hP])] at this
        rw [this]
        exact List.take_of_length_le (by simp [hP])
      rw [← List.append_assoc, ← h1, List.take_append_drop]
    have hw := whole_pre (UInt8.ofNat f.kind.toNat) P (X.drop 5) (bodyF f).length hP hb h.len
    rw [← hX] at hw
    have hd : decide ((bodyF f).length ≤ (X.drop 5).length) = false := by
      rw [decide_eq_false_iff_not, List.length_drop]
      omega
    rw [hd] at hw
    unfold nextL wrongL
    rw [hw]
    exact ⟨rfl, rfl⟩
theorem nil_none : nextL true 60000 [] 0 = none ∧ wrongL true 60000 [] 0 = 0 := by
  have hw : frWhole true [] 60000 0 = (0, false, 0) := by
    unfold frWhole
    rw [if_neg (by simp), if_pos (by show ([] : List UInt8).length < 1 + 4; simp)]
  unfold nextL wrongL
  rw [hw]
  exact ⟨rfl, rfl⟩

/-- What is next of bytes that messages begin with. -/
theorem next_of {V : List FoV} (hV : ∀ f ∈ V, VaF f) {X M : List UInt8} (he : X ++ M = framesB V) :
    (nextL true 60000 X 0 = none ∧ wrongL true 60000 X 0 = 0 ∧ (M = [] → X = [])) ∨
    (∃ f V' X', V = f :: V' ∧ VaF f ∧ X = frameB f ++ X' ∧ X' ++ M = framesB V' ∧ nextL true 60000 X 0 = some ((UInt8.ofNat f.kind.toNat).toNat, bodyF f, X')) := by
  cases V with
  | nil =>
    have : X = [] := by
      have := congrArg List.length he
      simp [framesB] at this
      exact this.1
    subst this
    exact .inl ⟨nil_none.1, nil_none.2, fun _ => rfl⟩
  | cons f V' =>
    have hf := hV f (List.mem_cons_self ..)
    have he2 : X ++ M = frameB f ++ framesB V' := by rw [he]; simp [framesB]
    by_cases hl : X.length < (frameB f).length
    · have hp := part_none hf he2 hl
      refine .inl ⟨hp.1, hp.2, fun hM => ?_⟩
      exfalso
      have := congrArg List.length he2
      rw [hM] at this
      simp at this
      omega
    · have hX : X = frameB f ++ X.drop (frameB f).length := by
        have := congrArg (List.take (frameB f).length) he2
        rw [List.take_append_of_le_length (by omega), List.take_left] at this
        calc X = X.take (frameB f).length ++ X.drop (frameB f).length := (List.take_append_drop _ _).symm
          _ = _ := by rw [this]
      refine .inr ⟨f, V', X.drop (frameB f).length, rfl, hf, hX, ?_, ?_⟩
      · rw [hX, List.append_assoc] at he2
        exact List.append_cancel_left he2
      · have := next_frame hf (X.drop (frameB f).length)
        rw [← hX] at this
        exact this
/-- The item that is next. -/
def itF (f : FoV) : ItV := ⟨2, helNo, f, ⟨#[]⟩, ⟨#[]⟩⟩
theorem peek_frame {f : FoV} (h : VaF f) {X R : List UInt8} (hn : nextL true 60000 X 0 = some ((UInt8.ofNat f.kind.toNat).toNat, bodyF f, R)) : peekV true 60000 X 0 = itF f ∧ restL true 60000 X 0 = R ∧ wrongL true 60000 X 0 = 0 := by
  obtain ⟨h1, h2⟩ := peekV_some hn
  refine ⟨?_, h2, next_wrong hn⟩
  rw [h1, kind_u8 h.fb]
  show messageV f.kind (bodyF f) = _
  unfold messageV
  rw [dec_enc h.fb h.ck, if_pos rfl]
  rfl
theorem peek_none {X : List UInt8} (hn : nextL true 60000 X 0 = none) (hw : wrongL true 60000 X 0 = 0) : peekV true 60000 X 0 = itNo ∧ restL true 60000 X 0 = X := by
  obtain ⟨h1, h2⟩ := peekV_none hn
  refine ⟨?_, h2⟩
  rw [h1, hw]
  rfl
/-- The messages that have bytes. -/
theorem framesB_filter (L : List FoV) : framesB (L.filter (fun f => checkF f == 0)) = framesB L := by
  induction L with
  | nil => rfl
  | cons f L ih =>
    by_cases h : checkF f = 0
    · rw [List.filter_cons_of_pos (by simpa using h)]
      simp only [framesB, List.map_cons, List.flatten_cons] at *
      rw [ih]
    · rw [List.filter_cons_of_neg (by simpa using h), ih]
      have h0 : frameB f = [] := if_neg h
      simp [framesB, h0]
theorem frameB_mem {f : FoV} {V : List FoV} (h : f ∈ V) : (frameB f).length ≤ (framesB V).length := by
  induction V with
  | nil => cases h
  | cons g V ih =>
    have e : framesB (g :: V) = frameB g ++ framesB V := by simp [framesB]
    rw [e, List.length_append]
    rcases List.mem_cons.1 h with rfl | h
    · omega
    · have := ih h; omega
theorem vaF_of {L : List FoV} (hfb : ∀ f ∈ L, FoB f) (hfew : ∀ f ∈ L, FewF f) (hlen : (framesB L).length ≤ 30000) : ∀ f ∈ L.filter (fun f => checkF f == 0), VaF f := by
  intro f hf
  obtain ⟨h1, h2⟩ := List.mem_filter.1 hf
  have hc : checkF f = 0 := by simpa using h2
  have hb := hfb f h1
  have hw := hfew f h1
  have hl := frameB_mem h1
  refine ⟨hc, hb, hw, ?_⟩
  have h3 : frameB f = msgL (UInt8.ofNat f.kind.toNat) (bodyF f) := if_pos hc
  rw [h3] at hl
  unfold msgL at hl
  rw [List.length_append] at hl
  omega

end Go.Proofs.YtacnmdlefonjmaaGreat

