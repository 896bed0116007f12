/-
  Ground: ClC, RfD, RcB.
-/
import Derived.Test.YtacnmdlefonjmaaGreatPcZP14
import Derived.Test.YtacnmdlefonjmaaGreatPcZP13
import Derived.Test.YtacnmdlefonjmaaGreatPcZP11
/-
  What is next of a client (layer 39): Peek, Take.
-/
namespace Go.Proofs.YtacnmdlefonjmaaGreat
open Go.RowKit
set_option linter.unusedVariables false
set_option linter.unusedSimpArgs false

/-- What is left: the item, its lists. -/
def ItE (B : Nat) (x : ItV) (e : Ending) (w' : World) : Prop :=
  ∃ p c a, e = .returned (itArg x p c a) ∧ SliceS 2 PrS (fun j => B ≤ j) w' [.slice p x.hel.params.length c] x.hel.params ∧ FoL (fun j => B ≤ j) w' x.front a
theorem it_finE {B : Nat} {w w8 : World} {g : Nat} (hT : Touch (fun k => k = g) w w8) (x : ItV) (p : Option Addr) (c : Nat) (a : FoP)
    (hs : SliceS 2 PrS (fun j => B ≤ j ∧ j ≠ g) w [.slice p x.hel.params.length c] x.hel.params) (hl : FoL (fun j => B ≤ j ∧ j ≠ g) w x.front a) : ItE B x (.returned (itArg x p c a)) w8 :=
  ⟨p, c, a, rfl, (SliceS.still PrS.still) _ _ _ _ _ _ hs (Kept.touch hT (fun j _ h => ⟨h.1, h.2⟩)), hl.keep (Kept.touch hT (fun j _ h => ⟨h.1, h.2⟩))⟩
/-- What is next. -/
def peekV (t : Bool) (most : Nat) (L : List UInt8) (wrong : Int) : ItV :=
  match nextL t most L wrong with
  | some (ty, b, _) => itemV t true (ty : Int) b 0
  | none => itemV t false 0 [] (wrongL t most L wrong)
/-- What is behind it. -/
def restL (t : Bool) (most : Nat) (L : List UInt8) (wrong : Int) : List UInt8 :=
  match nextL t most L wrong with
  | some (_, _, r) => r
  | none => L
theorem peekV_none {t : Bool} {most : Nat} {L : List UInt8} {wrong : Int} (h : nextL t most L wrong = none) : peekV t most L wrong = itemV t false 0 [] (wrongL t most L wrong) ∧ restL t most L wrong = L := by
  unfold peekV restL
  rw [h]
  exact ⟨rfl, rfl⟩
theorem peekV_some {t : Bool} {most : Nat} {L : List UInt8} {wrong : Int} {ty : Nat} {b r : List UInt8} (h : nextL t most L wrong = some (ty, b, r)) : peekV t most L wrong = itemV t true (ty : Int) b 0 ∧ restL t most L wrong = r := by
  unfold peekV restL
  rw [h]
  exact ⟨rfl, rfl⟩
theorem tyOf_bd (t : Bool) (L : List UInt8) : tyOf t L < 256 := by
  unfold tyOf
  split
  · exact UInt8.toNat_lt _
  · omega
theorem next_wrong {t : Bool} {most : Nat} {L : List UInt8} {wrong : Int} {x : Nat × List UInt8 × List UInt8} (h : nextL t most L wrong = some x) : wrongL t most L wrong = 0 := by
  unfold nextL at h
  unfold wrongL
  split at h
  · rename_i hw
    obtain ⟨n, b, r, e⟩ : ∃ n b r, frWhole t L most wrong = (n, b, r) := ⟨_, _, _, rfl⟩
    rw [e] at hw ⊢
    simp only at hw
    subst hw
    exact (frWhole_yes e).2.1
  · cases h
theorem nextL_bd {t : Bool} {most : Nat} {L : List UInt8} {wrong : Int} {ty : Nat} {b r : List UInt8} (h : nextL t most L wrong = some (ty, b, r)) : ty < 256 ∧ b.length ≤ most := by
  unfold nextL at h
  split at h
  · rename_i hw
    simp only [Option.some.injEq, Prod.mk.injEq] at h
    obtain ⟨h1, h2, h3⟩ := h
    refine ⟨by rw [← h1]; exact tyOf_bd t L, ?_⟩
    rw [← h2, List.length_take]
    have : (frWhole t L most wrong).1.toNat - (headN t + 4) ≤ most := by
      unfold frWhole at hw ⊢
      split at hw
      · simp at hw
      · split at hw
        · simp at hw
        · split at hw
          · simp at hw
          · rename_i h5 h6 h7
            rw [if_neg h5, if_neg h6, if_neg h7]
            have h8 : frErr most (frN t L) = 0 := by omega
            unfold frErr at h8
            split at h8
            · omega
            · split at h8
              · omega
              · show ((headN t : Int) + frN t L).toNat - (headN t + 4) ≤ most
                omega
    omega
  · cases h

set_option maxRecDepth 100000 in
set_option maxHeartbeats 8000000 in
theorem clPeek_any (B cb sb : Nat) (t : Bool) (L : List UInt8) (most room : Nat) (wrong : Int) (v : Value) (w : World) (h : ClO B w cb sb t L most room wrong v) (hr : 0 < room) (hL : L.length ≤ 262144) (hm : most ≤ 65536) :
    Calls Tryz.prog 12 #[.pointer (some ⟨cb, 0, none⟩)] w fun e w' => ItE w.heap.size (peekV t most L wrong) e w' ∧ ClO B w' cb sb t L most room (wrongL t most L wrong) v ∧ Touch (fun i => i = sb) w w' := by
  have ha1 := (Below.refl w.heap.size w).alloc (Nat.le_refl _) (.cells itZ 48)
  have HBg := Lib.hid (it_hz w)
  have h1 := h.still ha1
  have hc1 := h1.blk.cell
  have HR := Lib.hid (clReady_blk cb _ _ _ hc1)
  have HF := Lib.hid (frPeek_any B sb t L most room wrong v _ h1.fr hr hL)
  have H1 := Lib.hid h1
  have hz1 : w.heap.size < (w.alloc (.cells itZ 48)).heap.size := by simp
  have hlt : cb < w.heap.size ∧ sb < w.heap.size := ⟨h.blk.lt, h.fr.blk.lt⟩
  have hrow : ∀ k, rowOf v = some k → k < w.heap.size := fun k hk => (h.fr.own.row k hk).2
  have HRow := Lib.hid hrow
  have HT1 : Hid (Touch (fun i => i = sb) w (w.alloc (.cells itZ 48))) := Lib.hid (Touch.of_below ha1)
  unfold itZ at *
  clear h h1 ha1 hrow
  obtain ⟨pk, hpk⟩ : ∃ pk, pk = peekV t most L wrong := ⟨_, rfl⟩
  obtain ⟨rs, hrs⟩ : ∃ rs, rs = restL t most L wrong := ⟨_, rfl⟩
  rw [← hpk]
  have Hpk := Lib.hid (And.intro hpk hrs)
  clear hpk hrs
  go_enter Tryz.func12, Tryz.ntmps12
  go_wp2_with fail
  generalize w.alloc (.cells #[.int .i64 0, .int .i64 0, .int .i64 0, .int .i64 0, .slice none 0 0, .int .u8 0, .int .u8 0, .string ⟨#[]⟩, .string ⟨#[]⟩, .string ⟨#[]⟩, .slice none 0 0, .slice none 0 0, .slice none 0 0, .slice none 0 0, .int .i64 0, .string ⟨#[]⟩, .string ⟨#[]⟩] 48) = w1 at *
  have Hz1 := Lib.hid hz1
  have Hlt := Lib.hid hlt
  clear hz1 hlt
  obtain ⟨g, hg0⟩ : ∃ g, g = w.heap.size := ⟨_, rfl⟩
  have Hg : Hid (g = w.heap.size) := Lib.hid hg0
  rw [← hg0] at HBg ⊢
  clear hg0
  refine HR.out.mono ?_
  rintro e wx ⟨rfl, rfl⟩
  go_wp2_with fail
  refine HF.out.mono ?_
  rintro e w2 ⟨hP, hf2, hT2⟩
  have Hz2 : Hid (w.heap.size < w2.heap.size) := Lib.hid (Nat.lt_of_lt_of_le Hz1.out hT2.size)
  have H2 := Lib.hid (H1.out.step hf2 (fun k hk => .inl hk) (hT2.mono (fun _ _ e => .inl e)))
  have HBg := Lib.hid (hT2.blk HBg.out (by have := Hg.out; have := Hlt.out; omega))
  have HTw := Lib.hid (HT1.out.trans (hT2.mono (fun _ _ e => e)))
  clear hf2 hT2 HF H1 HT1 HR hc1
  rcases hP with ⟨hn, rfl⟩ | ⟨ty, b, r, q, d, hn, hw0, hw1, hhl, hrr, rfl, hby⟩
  · have Hpv := Lib.hid (peekV_none hn)
    clear hn
    have he := (Hpv.out.1.symm.trans Hpk.out.1.symm)
    clear Hpv Hpk
    have hc2 := H2.out.blk.cell
    have HI := Lib.hid (item_any cb _ t 0 (by omega) (by omega) none 0 [] 0 false (wrongL t most L wrong) w2 hc2 H2.out.blk.lt (fun _ e => by cases e))
    rw [he] at HI
    clear he
    go_wp2_with fail
    refine HI.out.mono ?_
    rintro e w9 ⟨p9, c9, a9, rfl, hs9, hl9, hb9⟩
    have HBg := Lib.hid (HBg.out.below hb9 (by have := Hz2.out; have := Hg.out; omega))
    have Hs9 := Lib.hid (hs9.weak PrS.still (S' := fun j => w.heap.size ≤ j ∧ j ≠ g) (fun k hk hS => ⟨by have := Hz2.out; omega, by have := Hz2.out; have := Hg.out; omega⟩))
    have Hl9 := Lib.hid (hl9.weak (S' := fun j => w.heap.size ≤ j ∧ j ≠ g) (fun k hk hS => ⟨by have := Hz2.out; omega, by have := Hz2.out; have := Hg.out; omega⟩))
    have H9 := Lib.hid (H2.out.still hb9)
    have HTw := Lib.hid (HTw.out.then (Touch.of_below (p := fun _ => False) hb9) (fun _ _ e => e.elim))
    clear hs9 hl9 hb9 HI
    unfold itArg itCells
    go_wp2_with (refine wpList_store_it _ rfl (.tmp 2) (.tmp 16) rfl g _ _ rfl rfl HBg.out rfl rfl (by simp [Value.oneCell']) ?_; intro w8 hb8 hT8; have HB8 := Lib.hid hb8; have HT8 := Lib.hid hT8; clear hb8 hT8)
    exact bodyPost_ret (v := .agg #[.int .i64 pk.kind, .int .i64 pk.hel.code, .int .i64 pk.hel.process, .int .i64 pk.hel.secret, .slice p9 pk.hel.params.length c9, .int .u8 pk.front.kind, .int .u8 pk.front.what, .string pk.front.name, .string pk.front.portal, .string pk.front.text, .slice a9.po pk.front.oids.length a9.co, .slice a9.pf pk.front.formats.length a9.cf, .slice a9.pr pk.front.results.length a9.cr, .slice a9.pp pk.front.params.length a9.cp, .int .i64 pk.front.max, .string pk.code, .string pk.text]) (results_cell_row (fn := Tryz.f12) (p := 2) (by kernel_rfl) _ _ g _ _ (0, 0) _ rfl HB8.out Tryz.underlying48 rfl it_info) rfl (⟨it_finE HT8.out pk p9 c9 a9 Hs9.out Hl9.out, H9.out.touch HT8.out (by have := Hg.out; have := Hlt.out; omega) (by have := Hg.out; have := Hlt.out; omega) (fun k hk => by have := HRow.out k hk; have := Hg.out; omega), HTw.out.then HT8.out (fun i hi e => by have := Hg.out; omega)⟩)
  · have Hbd := Lib.hid (nextL_bd hn)
    have Hpv := Lib.hid (peekV_some hn)
    have Hw1 := Lib.hid hw1
    obtain ⟨q', d', e', -, -, hq, -⟩ := hby
    simp only [List.cons.injEq, Value.slice.injEq, and_true] at e'
    obtain ⟨rfl, -, rfl⟩ := e'
    have Hby := Lib.hid hq
    clear hn hw0 hw1 hhl hrr hq
    have he := (Hpv.out.1.symm.trans Hpk.out.1.symm)
    clear Hpv Hpk
    have hc2 := H2.out.blk.cell
    have HI := Lib.hid (item_any cb _ t (ty : Int) (by omega) (by have := Hbd.out.1; omega) q _ b d true 0 w2 hc2 H2.out.blk.lt (fun _ _ => ⟨rfl, by have := Hbd.out.2; omega, Hby.out⟩))
    rw [he] at HI
    clear he
    go_wp2_with fail
    refine HI.out.mono ?_
    rintro e w9 ⟨p9, c9, a9, rfl, hs9, hl9, hb9⟩
    have HBg := Lib.hid (HBg.out.below hb9 (by have := Hz2.out; have := Hg.out; omega))
    have Hs9 := Lib.hid (hs9.weak PrS.still (S' := fun j => w.heap.size ≤ j ∧ j ≠ g) (fun k hk hS => ⟨by have := Hz2.out; omega, by have := Hz2.out; have := Hg.out; omega⟩))
    have Hl9 := Lib.hid (hl9.weak (S' := fun j => w.heap.size ≤ j ∧ j ≠ g) (fun k hk hS => ⟨by have := Hz2.out; omega, by have := Hz2.out; have := Hg.out; omega⟩))
    have H9 := Lib.hid (H2.out.still hb9)
    have HTw := Lib.hid (HTw.out.then (Touch.of_below (p := fun _ => False) hb9) (fun _ _ e => e.elim))
    clear hs9 hl9 hb9 HI
    unfold itArg itCells
    go_wp2_with (refine wpList_store_it _ rfl (.tmp 2) (.tmp 16) rfl g _ _ rfl rfl HBg.out rfl rfl (by simp [Value.oneCell']) ?_; intro w8 hb8 hT8; have HB8 := Lib.hid hb8; have HT8 := Lib.hid hT8; clear hb8 hT8)
    exact bodyPost_ret (v := .agg #[.int .i64 pk.kind, .int .i64 pk.hel.code, .int .i64 pk.hel.process, .int .i64 pk.hel.secret, .slice p9 pk.hel.params.length c9, .int .u8 pk.front.kind, .int .u8 pk.front.what, .string pk.front.name, .string pk.front.portal, .string pk.front.text, .slice a9.po pk.front.oids.length a9.co, .slice a9.pf pk.front.formats.length a9.cf, .slice a9.pr pk.front.results.length a9.cr, .slice a9.pp pk.front.params.length a9.cp, .int .i64 pk.front.max, .string pk.code, .string pk.text]) (results_cell_row (fn := Tryz.f12) (p := 2) (by kernel_rfl) _ _ g _ _ (0, 0) _ rfl HB8.out Tryz.underlying48 rfl it_info) rfl (⟨it_finE HT8.out pk p9 c9 a9 Hs9.out Hl9.out, H9.out.touch HT8.out (by have := Hg.out; have := Hlt.out; omega) (by have := Hg.out; have := Hlt.out; omega) (fun k hk => by have := HRow.out k hk; have := Hg.out; omega), HTw.out.then HT8.out (fun i hi e => by have := Hg.out; omega)⟩)

set_option maxRecDepth 100000 in
set_option maxHeartbeats 8000000 in
theorem clTake_any (B cb sb : Nat) (t : Bool) (L : List UInt8) (most room : Nat) (wrong : Int) (v : Value) (w : World) (h : ClO B w cb sb t L most room wrong v) (hr : 0 < room) (hL : L.length ≤ 262144) (hm : most ≤ 65536) :
    Calls Tryz.prog 14 #[.pointer (some ⟨cb, 0, none⟩)] w fun e w' => ItE w.heap.size (peekV t most L wrong) e w' ∧ ∃ v', ClO B w' cb sb t (restL t most L wrong) most room (wrongL t most L wrong) v' ∧ (∀ k, rowOf v' = some k → rowOf v = some k) ∧ FrT sb v w w' := by
  have ha1 := (Below.refl w.heap.size w).alloc (Nat.le_refl _) (.cells itZ 48)
  have HBg := Lib.hid (it_hz w)
  have h1 := h.still ha1
  have hc1 := h1.blk.cell
  have HR := Lib.hid (clReady_blk cb _ _ _ hc1)
  have HF := Lib.hid (frNext_any B sb t L most room wrong v _ h1.fr hr hL)
  have H1 := Lib.hid h1
  have hz1 : w.heap.size < (w.alloc (.cells itZ 48)).heap.size := by simp
  have hlt : cb < w.heap.size ∧ sb < w.heap.size := ⟨h.blk.lt, h.fr.blk.lt⟩
  have hrow : ∀ k, rowOf v = some k → k < w.heap.size := fun k hk => (h.fr.own.row k hk).2
  have HRow := Lib.hid hrow
  have HT1 : Hid (Touch (fun i => i = sb) w (w.alloc (.cells itZ 48))) := Lib.hid (Touch.of_below ha1)
  unfold itZ at *
  clear h h1 ha1 hrow
  obtain ⟨pk, hpk⟩ : ∃ pk, pk = peekV t most L wrong := ⟨_, rfl⟩
  obtain ⟨rs, hrs⟩ : ∃ rs, rs = restL t most L wrong := ⟨_, rfl⟩
  rw [← hpk, ← hrs]
  have Hpk := Lib.hid (And.intro hpk hrs)
  clear hpk hrs
  go_enter Tryz.func14, Tryz.ntmps14
  go_wp2_with fail
  generalize w.alloc (.cells #[.int .i64 0, .int .i64 0, .int .i64 0, .int .i64 0, .slice none 0 0, .int .u8 0, .int .u8 0, .string ⟨#[]⟩, .string ⟨#[]⟩, .string ⟨#[]⟩, .slice none 0 0, .slice none 0 0, .slice none 0 0, .slice none 0 0, .int .i64 0, .string ⟨#[]⟩, .string ⟨#[]⟩] 48) = w1 at *
  have Hz1 := Lib.hid hz1
  have Hlt := Lib.hid hlt
  clear hz1 hlt
  obtain ⟨g, hg0⟩ : ∃ g, g = w.heap.size := ⟨_, rfl⟩
  have Hg : Hid (g = w.heap.size) := Lib.hid hg0
  rw [← hg0] at HBg ⊢
  clear hg0
  refine HR.out.mono ?_
  rintro e wx ⟨rfl, rfl⟩
  go_wp2_with fail
  refine HF.out.mono ?_
  rintro e w2 (⟨hn, rfl, hf2, hT2⟩ | ⟨ty, b, r, q, d, v', hn, hw0, hrl, hbl, rfl, hby, hf2, hr2, hT2⟩)
  · have Hz2 : Hid (w.heap.size < w2.heap.size) := Lib.hid (Nat.lt_of_lt_of_le Hz1.out hT2.size)
    have H2 := Lib.hid (H1.out.step hf2 (fun k hk => .inl hk) (hT2.mono (fun _ _ e => .inl e)))
    have HBg := Lib.hid (hT2.blk HBg.out (by have := Hg.out; have := Hlt.out; omega))
    have HTw : Hid (FrT sb v w w2) := Lib.hid ((HT1.out.trans (hT2.mono (fun _ _ e => e))).mono (fun _ _ e => .inl e))
    have Hr2 : Hid (∀ k, rowOf v = some k → rowOf v = some k) := Lib.hid (fun _ h => h)
    have Hpv := Lib.hid (peekV_none hn)
    clear hf2 hT2 HF H1 HT1 HR hc1 hn
    have he := (Hpv.out.1.symm.trans Hpk.out.1.symm)
    obtain rfl := (Hpv.out.2.symm.trans Hpk.out.2.symm)
    clear Hpv Hpk
    have hc2 := H2.out.blk.cell
    have HI := Lib.hid (item_any cb _ t 0 (by omega) (by omega) none 0 [] 0 false (wrongL t most L wrong) w2 hc2 H2.out.blk.lt (fun _ e => by cases e))
    rw [he] at HI
    clear he
    go_wp2_with fail
    refine HI.out.mono ?_
    rintro e w9 ⟨p9, c9, a9, rfl, hs9, hl9, hb9⟩
    have HBg := Lib.hid (HBg.out.below hb9 (by have := Hz2.out; have := Hg.out; omega))
    have Hs9 := Lib.hid (hs9.weak PrS.still (S' := fun j => w.heap.size ≤ j ∧ j ≠ g) (fun k hk hS => ⟨by have := Hz2.out; omega, by have := Hz2.out; have := Hg.out; omega⟩))
    have Hl9 := Lib.hid (hl9.weak (S' := fun j => w.heap.size ≤ j ∧ j ≠ g) (fun k hk hS => ⟨by have := Hz2.out; omega, by have := Hz2.out; have := Hg.out; omega⟩))
    have H9 := Lib.hid (H2.out.still hb9)
    have HTw := Lib.hid (HTw.out.then (Touch.of_below (p := fun _ => False) hb9) (fun _ _ e => e.elim))
    clear hs9 hl9 hb9 HI
    unfold itArg itCells
    go_wp2_with (refine wpList_store_it _ rfl (.tmp 2) (.tmp 16) rfl g _ _ rfl rfl HBg.out rfl rfl (by simp [Value.oneCell']) ?_; intro w8 hb8 hT8; have HB8 := Lib.hid hb8; have HT8 := Lib.hid hT8; clear hb8 hT8)
    exact bodyPost_ret (v := .agg #[.int .i64 pk.kind, .int .i64 pk.hel.code, .int .i64 pk.hel.process, .int .i64 pk.hel.secret, .slice p9 pk.hel.params.length c9, .int .u8 pk.front.kind, .int .u8 pk.front.what, .string pk.front.name, .string pk.front.portal, .string pk.front.text, .slice a9.po pk.front.oids.length a9.co, .slice a9.pf pk.front.formats.length a9.cf, .slice a9.pr pk.front.results.length a9.cr, .slice a9.pp pk.front.params.length a9.cp, .int .i64 pk.front.max, .string pk.code, .string pk.text]) (results_cell_row (fn := Tryz.f14) (p := 2) (by kernel_rfl) _ _ g _ _ (0, 0) _ rfl HB8.out Tryz.underlying48 rfl it_info) rfl (⟨it_finE HT8.out pk p9 c9 a9 Hs9.out Hl9.out, _, H9.out.touch HT8.out (by have := Hg.out; have := Hlt.out; omega) (by have := Hg.out; have := Hlt.out; omega) (fun k hk => by have := HRow.out k (Hr2.out k hk); have := Hg.out; omega), Hr2.out, HTw.out.then HT8.out (fun i hi e => by have := Hg.out; omega)⟩)
  · have Hz2 : Hid (w.heap.size < w2.heap.size) := Lib.hid (Nat.lt_of_lt_of_le Hz1.out hT2.size)
    have Hbd := Lib.hid (nextL_bd hn)
    have hwl : wrongL t most L wrong = 0 := next_wrong hn
    rw [← hwl] at hf2
    have H2 := Lib.hid (H1.out.step hf2 (fun k hk => .inl (hr2 k hk)) hT2)
    have HBg := Lib.hid (hT2.blk HBg.out (fun e => by
      have h1 := Hg.out
      rcases e with e | e
      · have := Hlt.out; omega
      · have := HRow.out g e; omega))
    have HTw : Hid (FrT sb v w w2) := Lib.hid ((HT1.out.mono (fun _ _ e => .inl e)).then hT2 (fun _ _ e => e))
    have Hr2 := Lib.hid hr2
    have Hpv := Lib.hid (peekV_some hn)
    obtain ⟨q', d', e', -, -, hq, -⟩ := hby
    simp only [List.cons.injEq, Value.slice.injEq, and_true] at e'
    obtain ⟨rfl, -, rfl⟩ := e'
    have Hby := Lib.hid hq
    clear hf2 hT2 HF H1 HT1 HR hc1 hn hw0 hrl hbl hq hr2 hwl
    have he := (Hpv.out.1.symm.trans Hpk.out.1.symm)
    obtain rfl := (Hpv.out.2.symm.trans Hpk.out.2.symm)
    clear Hpv Hpk
    have hc2 := H2.out.blk.cell
    have HI := Lib.hid (item_any cb _ t (ty : Int) (by omega) (by have := Hbd.out.1; omega) q _ b d true 0 w2 hc2 H2.out.blk.lt (fun _ _ => ⟨rfl, by have := Hbd.out.2; omega, Hby.out⟩))
    rw [he] at HI
    clear he
    go_wp2_with fail
    refine HI.out.mono ?_
    rintro e w9 ⟨p9, c9, a9, rfl, hs9, hl9, hb9⟩
    have HBg := Lib.hid (HBg.out.below hb9 (by have := Hz2.out; have := Hg.out; omega))
    have Hs9 := Lib.hid (hs9.weak PrS.still (S' := fun j => w.heap.size ≤ j ∧ j ≠ g) (fun k hk hS => ⟨by have := Hz2.out; omega, by have := Hz2.out; have := Hg.out; omega⟩))
    have Hl9 := Lib.hid (hl9.weak (S' := fun j => w.heap.size ≤ j ∧ j ≠ g) (fun k hk hS => ⟨by have := Hz2.out; omega, by have := Hz2.out; have := Hg.out; omega⟩))
    have H9 := Lib.hid (H2.out.still hb9)
    have HTw := Lib.hid (HTw.out.then (Touch.of_below (p := fun _ => False) hb9) (fun _ _ e => e.elim))
    clear hs9 hl9 hb9 HI
    unfold itArg itCells
    go_wp2_with (refine wpList_store_it _ rfl (.tmp 2) (.tmp 16) rfl g _ _ rfl rfl HBg.out rfl rfl (by simp [Value.oneCell']) ?_; intro w8 hb8 hT8; have HB8 := Lib.hid hb8; have HT8 := Lib.hid hT8; clear hb8 hT8)
    exact bodyPost_ret (v := .agg #[.int .i64 pk.kind, .int .i64 pk.hel.code, .int .i64 pk.hel.process, .int .i64 pk.hel.secret, .slice p9 pk.hel.params.length c9, .int .u8 pk.front.kind, .int .u8 pk.front.what, .string pk.front.name, .string pk.front.portal, .string pk.front.text, .slice a9.po pk.front.oids.length a9.co, .slice a9.pf pk.front.formats.length a9.cf, .slice a9.pr pk.front.results.length a9.cr, .slice a9.pp pk.front.params.length a9.cp, .int .i64 pk.front.max, .string pk.code, .string pk.text]) (results_cell_row (fn := Tryz.f14) (p := 2) (by kernel_rfl) _ _ g _ _ (0, 0) _ rfl HB8.out Tryz.underlying48 rfl it_info) rfl (⟨it_finE HT8.out pk p9 c9 a9 Hs9.out Hl9.out, _, H9.out.touch HT8.out (by have := Hg.out; have := Hlt.out; omega) (by have := Hg.out; have := Hlt.out; omega) (fun k hk => by have := HRow.out k (Hr2.out k hk); have := Hg.out; omega), Hr2.out, HTw.out.then HT8.out (fun i hi e => by have := Hg.out; omega)⟩)

set_option maxRecDepth 100000 in
set_option maxHeartbeats 8000000 in
theorem clPeek_none (x : Option Addr) (w : World) (hR : Calls Tryz.prog 24 #[.pointer x] (w.alloc (.cells itZ 48)) fun e w' => e = .returned (.bool false) ∧ (w.alloc (.cells itZ 48)) = w') :
    Calls Tryz.prog 12 #[.pointer x] w fun e w' => (∃ p c a, e = .returned (itArg itNo p c a)) ∧ Below w.heap.size w w' := by
  have ha1 := (Below.refl w.heap.size w).alloc (Nat.le_refl _) (.cells itZ 48)
  have HBg := Lib.hid (it_hz w)
  have HR := Lib.hid hR
  have Ha1 := Lib.hid ha1
  clear hR ha1
  unfold itZ at *
  go_enter Tryz.func12, Tryz.ntmps12
  go_wp2_with fail
  generalize w.alloc (.cells #[.int .i64 0, .int .i64 0, .int .i64 0, .int .i64 0, .slice none 0 0, .int .u8 0, .int .u8 0, .string ⟨#[]⟩, .string ⟨#[]⟩, .string ⟨#[]⟩, .slice none 0 0, .slice none 0 0, .slice none 0 0, .slice none 0 0, .int .i64 0, .string ⟨#[]⟩, .string ⟨#[]⟩] 48) = w1 at *
  obtain ⟨g, hg0⟩ : ∃ g, g = w.heap.size := ⟨_, rfl⟩
  have Hg : Hid (g = w.heap.size) := Lib.hid hg0
  rw [← hg0] at HBg ⊢
  clear hg0
  refine HR.out.mono ?_
  rintro e wx ⟨rfl, rfl⟩
  go_wp2_with (refine wpList_store_it _ rfl (.tmp 2) (.tmp 6) rfl g _ _ rfl rfl HBg.out rfl rfl (by simp [Value.oneCell']) ?_; intro w8 hb8 hT8; have HB8 := Lib.hid hb8; have HT8 := Lib.hid hT8; clear hb8 hT8)
  exact bodyPost_ret (v := .agg #[.int .i64 0, .int .i64 0, .int .i64 0, .int .i64 0, .slice none 0 0, .int .u8 0, .int .u8 0, .string ⟨#[]⟩, .string ⟨#[]⟩, .string ⟨#[]⟩, .slice none 0 0, .slice none 0 0, .slice none 0 0, .slice none 0 0, .int .i64 0, .string ⟨#[]⟩, .string ⟨#[]⟩]) (results_cell_row (fn := Tryz.f12) (p := 2) (by kernel_rfl) _ _ g _ _ (0, 0) _ rfl HB8.out Tryz.underlying48 rfl it_info) rfl (⟨⟨none, 0, foNil, rfl⟩, Ha1.out.trans (HT8.out.below Ha1.out.size (fun k e => by have := Hg.out; omega))⟩)
set_option maxRecDepth 100000 in
set_option maxHeartbeats 8000000 in
theorem clTake_none (x : Option Addr) (w : World) (hR : Calls Tryz.prog 24 #[.pointer x] (w.alloc (.cells itZ 48)) fun e w' => e = .returned (.bool false) ∧ (w.alloc (.cells itZ 48)) = w') :
    Calls Tryz.prog 14 #[.pointer x] w fun e w' => (∃ p c a, e = .returned (itArg itNo p c a)) ∧ Below w.heap.size w w' := by
  have ha1 := (Below.refl w.heap.size w).alloc (Nat.le_refl _) (.cells itZ 48)
  have HBg := Lib.hid (it_hz w)
  have HR := Lib.hid hR
  have Ha1 := Lib.hid ha1
  clear hR ha1
  unfold itZ at *
  go_enter Tryz.func14, Tryz.ntmps14
  go_wp2_with fail
  generalize w.alloc (.cells #[.int .i64 0, .int .i64 0, .int .i64 0, .int .i64 0, .slice none 0 0, .int .u8 0, .int .u8 0, .string ⟨#[]⟩, .string ⟨#[]⟩, .string ⟨#[]⟩, .slice none 0 0, .slice none 0 0, .slice none 0 0, .slice none 0 0, .int .i64 0, .string ⟨#[]⟩, .string ⟨#[]⟩] 48) = w1 at *
  obtain ⟨g, hg0⟩ : ∃ g, g = w.heap.size := ⟨_, rfl⟩
  have Hg : Hid (g = w.heap.size) := Lib.hid hg0
  rw [← hg0] at HBg ⊢
  clear hg0
  refine HR.out.mono ?_
  rintro e wx ⟨rfl, rfl⟩
  go_wp2_with (refine wpList_store_it _ rfl (.tmp 2) (.tmp 6) rfl g _ _ rfl rfl HBg.out rfl rfl (by simp [Value.oneCell']) ?_; intro w8 hb8 hT8; have HB8 := Lib.hid hb8; have HT8 := Lib.hid hT8; clear hb8 hT8)
  exact bodyPost_ret (v := .agg #[.int .i64 0, .int .i64 0, .int .i64 0, .int .i64 0, .slice none 0 0, .int .u8 0, .int .u8 0, .string ⟨#[]⟩, .string ⟨#[]⟩, .string ⟨#[]⟩, .slice none 0 0, .slice none 0 0, .slice none 0 0, .slice none 0 0, .int .i64 0, .string ⟨#[]⟩, .string ⟨#[]⟩]) (results_cell_row (fn := Tryz.f14) (p := 2) (by kernel_rfl) _ _ g _ _ (0, 0) _ rfl HB8.out Tryz.underlying48 rfl it_info) rfl (⟨⟨none, 0, foNil, rfl⟩, Ha1.out.trans (HT8.out.below Ha1.out.size (fun k e => by have := Hg.out; omega))⟩)

end Go.Proofs.YtacnmdlefonjmaaGreat

/-
  The document's framer (remudaref04): Peek, Next (printed by gen_rfd.py).
-/
namespace Go.Proofs.YtacnmdlefonjmaaGreat
open Go.RowKit
set_option linter.unusedVariables false
set_option linter.unusedSimpArgs false

theorem rfPeek_any (B sb : Nat) (hello : Bool) (L : List UInt8) (most room : Nat) (wrong : Int) (v : Value) (w : World) (h : RfO B w sb hello L most room wrong v) (hL : L.length ≤ 262144) (hm : most ≤ 65536) :
    Calls Tryz.prog 30 #[.pointer (some ⟨sb, 0, none⟩)] w fun e w' => PeekR (!hello) L most wrong e w' (fun k => w.heap.size ≤ k) ∧ RfO B w' sb hello L most room (wrongL (!hello) most L wrong) v ∧ Touch (fun i => i = sb) w w' := by
  obtain ⟨n, b, r, hwh⟩ : ∃ n b r, frWhole (!hello) L most wrong = (n, b, r) := ⟨_, _, _, rfl⟩
  cases b
  · refine (rfPeek_no B sb hello L most room wrong v n r w h hL hm hwh).mono ?_
    rintro e w' ⟨rfl, hf, ht⟩
    have hn : nextL (!hello) most L wrong = none := by unfold nextL; rw [hwh]; rfl
    have hw : wrongL (!hello) most L wrong = r := by unfold wrongL; rw [hwh]
    rw [hw]
    exact ⟨.inl ⟨hn, by rw [hw]⟩, hf, ht⟩
  · obtain ⟨rfl, rfl, m, rfl, hm'⟩ := frWhole_yes hwh
    have hw : wrongL (!hello) most L 0 = 0 := by unfold wrongL; rw [hwh]
    have hh : headN (!hello) ≤ 1 := by cases hello <;> simp [headN]
    have hbl : ((L.drop (headN (!hello) + 4)).take m).length = m := by rw [List.length_take, List.length_drop]; omega
    have hn : nextL (!hello) most L 0 = some (tyOf (!hello) L, (L.drop (headN (!hello) + 4)).take m, L.drop (headN (!hello) + 4 + m)) := by
      unfold nextL
      rw [hwh]
      simp only [if_true, Int.toNat_natCast]
      rw [show headN (!hello) + 4 + m - (headN (!hello) + 4) = m from by omega]
    refine (rfPeek_yes B sb hello L most room v (headN (!hello)) m _ w h rfl hh hwh hm' hL rfl).mono ?_
    rintro e w' ⟨q, d, rfl, hb, hf, ht⟩
    rw [hw]
    exact ⟨.inr ⟨_, _, _, q, d, hn, rfl, hw, by rw [hbl]; exact hm', by rw [hbl], rfl, hb⟩, hf, ht⟩

theorem rgn_callR {ops : Array Oper} {o : Oper} {a : Act} {w : World} {K : Act → World → Prop} {Q : Exit → Act → World → Prop} {F : Prop} (hgd : o.guard = none) (f : FuncId) (vs : Array Value) (R : Ending → World → Prop) (hC : Calls Tryz.prog f vs w R)
    (hr : (execOp a.eval o).run Tryz.prog w = .ok (.enter f vs) w) (h : ∀ e w', R e w' → ∃ v, e = .returned v ∧ K (a.put o.dst v) w') :
    if Region.wanted o (yielded ops a.tmps) = true then Oper.wp Tryz.prog o a w K Q else F := by
  have hw : Region.wanted o (yielded ops a.tmps) = true := by simp [Region.wanted, hgd]
  rw [if_pos hw]
  unfold Oper.wp
  rw [hr, Oper.upon_enter]
  refine hC.mono ?_
  intro e w' hR
  obtain ⟨v, rfl, hK⟩ := h e w' hR
  exact hK

/-- What stays while a message is taken. -/
structure NrI (w0 w : World) (B sb : Nat) (hello : Bool) (L : List UInt8) (most room : Nat) (v : Value) (g ty : Nat) (b : List UInt8) (q : Option Addr) (d : Nat) : Prop where
  fr : RfO B w sb hello L most room 0 v
  msg : Blk w g 73 #[.int .u8 (ty : Nat), .slice q b.length d]
  res : Blk w w0.heap.size 73 #[.int .u8 0, .slice none 0 0]
  tch : Touch (fun i => i = sb) w0 w
  sbl : sb < w0.heap.size
  gl : w0.heap.size < g
/-- What the taking of a message leaves. -/
def NrC (w wx : World) (B sb : Nat) (hello : Bool) (R : List UInt8) (most room : Nat) (g ty : Nat) (b : List UInt8) (q : Option Addr) (d : Nat) : Prop :=
  ∃ v', RfO B wx sb hello R most room 0 v' ∧ (∀ k, rowOf v' = some k → w.heap.size < k) ∧ Blk wx g 73 #[.int .u8 (ty : Nat), .slice q b.length d] ∧ Blk wx w.heap.size 73 #[.int .u8 0, .slice none 0 0] ∧ Touch (fun i => i = sb) w wx
theorem nrC_end {w w4 w5 : World} {B sb : Nat} {hello : Bool} {L R : List UInt8} {most room : Nat} {v v' : Value} {g ty : Nat} {b : List UInt8} {q : Option Addr} {d : Nat} (h : NrI w w4 B sb hello L most room v g ty b q d) (hb : Below w4.heap.size w4 w5) (ho : OwnBR w4.heap.size w5 v' R) (hB : B ≤ w4.heap.size) :
    NrC w (w5.setCell ⟨sb, 0, none⟩ v') B sb hello R most room g ty b q d ∧ Blk w5 sb 53 #[v, .int .i64 (most : Int), .int .i64 (room : Int), .bool hello, .int .i64 0] := by
  have hsl := h.sbl
  have hgl := h.gl
  have hgw := h.msg.lt
  have hr : ∀ k, rowOf v' = some k → w4.heap.size ≤ k := fun k hk => (ho.row k hk).1
  obtain ⟨h1, h2, h3⟩ := h.fr.renew hb (OwnR.base ho hB) hr
  exact ⟨⟨v', h2, fun k hk => by have := hr k hk; omega, h3.blk h.msg (by omega), h3.blk h.res (by omega), h.tch.trans h3⟩, h1⟩

set_option maxRecDepth 100000 in
set_option maxHeartbeats 10000000 in
theorem rfNext_any (B sb : Nat) (hello : Bool) (L : List UInt8) (most room : Nat) (wrong : Int) (v : Value) (w : World) (h : RfO B w sb hello L most room wrong v) (hL : L.length ≤ 262144) (hm : most ≤ 65536) (hBw : B ≤ w.heap.size) :
    Calls Tryz.prog 35 #[.pointer (some ⟨sb, 0, none⟩)] w fun e w' => (∃ u, e = .returned u) ∧ ∃ v', RfO B w' sb hello (restL (!hello) most L wrong) most room (wrongL (!hello) most L wrong) v' ∧ (∀ k, rowOf v' = some k → rowOf v = some k ∨ w.heap.size ≤ k) ∧ Touch (fun i => i = sb) w w' := by
  have H1 := Lib.hid (h.still ((Below.refl _ _).alloc (Nat.le_refl _) (.cells #[.int .u8 0, .slice none 0 0] 73)))
  have Hres := Lib.hid (Blk.new w 73 #[.int .u8 0, .slice none 0 0])
  have HT1 := Lib.hid ((Touch.refl (fun i => i = sb) w).alloc (.cells #[.int .u8 0, .slice none 0 0] 73))
  have hsl := h.blk.lt
  have Hrow := Lib.hid (fun k hk => (h.own.row k hk).2)
  clear h
  obtain ⟨rs, hrs⟩ : ∃ rs, rs = restL (!hello) most L wrong := ⟨_, rfl⟩
  obtain ⟨wl, hwl⟩ : ∃ wl, wl = wrongL (!hello) most L wrong := ⟨_, rfl⟩
  rw [← hrs, ← hwl]
  have Hrs := Lib.hid hrs
  have Hwl := Lib.hid hwl
  clear hrs hwl
  go_enter Tryz.func35, Tryz.ntmps35
  go_wp2_with fail
  have hz1 : (w.alloc (.cells #[.int .u8 0, .slice none 0 0] 73)).heap.size = w.heap.size + 1 := by simp
  generalize w.alloc (.cells #[.int .u8 0, .slice none 0 0] 73) = w1 at *
  refine (rfPeek_any B sb hello L most room wrong v w1 H1.out hL hm).mono ?_
  rintro e w2 ⟨hp, hf2, hT2⟩
  have hres2 := hT2.blk Hres.out (by omega)
  have HT2 := Lib.hid (HT1.out.trans hT2)
  have hz2 := hT2.size
  rcases hp with ⟨hn, rfl⟩ | ⟨ty, b, r, q, d, hn, rfl, hw0, hbl, rfl, rfl, hbs⟩
  · rw [← Hwl.out] at hf2 ⊢
    have Hf2 := Lib.hid hf2
    obtain rfl : L = rs := (Hrs.out.trans (peekV_none hn).2).symm
    have hrl := hres2.lt
    have hrc := hres2.cell
    have hrf0 := hres2.frozen 0
    have hrf1 := hres2.frozen 1
    clear hn hf2 hT2 hres2 hz1 Hwl Hrs
    go_wp2
    refine bodyPost_ret (v := .tuple #[.agg #[.int .u8 0, .slice none 0 0], .bool false, .int .i64 wl]) (by simp [results, Tryz.results35, go_sem, hrc, hrl]) rfl ⟨⟨_, rfl⟩, v, ?_, fun k hk => .inl hk, ?_⟩
    · have hT : Touch (fun i => i = w.heap.size) w2 ((w2.setCell ⟨w.heap.size, 0, none⟩ (.int .u8 0)).setCell ⟨w.heap.size, 1, none⟩ (.slice none 0 0)) := ((Touch.refl (fun i => i = w.heap.size) w2).setCell (x := ⟨w.heap.size, 0, none⟩) (fun _ => rfl) _).setCell (x := ⟨w.heap.size, 1, none⟩) (fun _ => rfl) _
      exact (Hf2.out.touch hT (by omega) (fun k hk e => by have := Hrow.out k hk; omega)).still ((Below.refl _ _).alloc (Nat.le_refl _) _)
    · have hT : Touch (fun i => i = w.heap.size) w2 ((w2.setCell ⟨w.heap.size, 0, none⟩ (.int .u8 0)).setCell ⟨w.heap.size, 1, none⟩ (.slice none 0 0)) := ((Touch.refl (fun i => i = w.heap.size) w2).setCell (x := ⟨w.heap.size, 0, none⟩) (fun _ => rfl) _).setCell (x := ⟨w.heap.size, 1, none⟩) (fun _ => rfl) _
      exact (HT2.out.then hT (fun i hi e => by omega)).alloc _
  · rw [hw0] at hf2
    obtain rfl : 0 = wl := (Hwl.out.trans hw0).symm
    have hrs : rs = L.drop (headN (!hello) + 4 + b.length) := Hrs.out.trans (peekV_some hn).2
    clear Hwl Hrs
    have hh1 : headN (!hello) ≤ 1 := by cases hello <;> simp [headN]
    have HI := Lib.hid (show NrI w (w2.alloc (.cells #[.int .u8 (ty : Nat), .slice q b.length d] 73)) B sb hello L most room v w2.heap.size ty b q d from
      ⟨hf2.still ((Below.refl _ _).alloc (Nat.le_refl _) _), Blk.new _ _ _, hres2.alloc _, HT2.out.alloc _, hsl, by omega⟩)
    clear hn hf2 hT2 hres2 hbs hw0 HT1 HT2 Hres H1
    go_upto_region 3 with (fail)
    have hzB : B ≤ (w2.alloc (.cells #[.int .u8 (ty : Nat), .slice q b.length d] 73)).heap.size := by simp; omega
    generalize w2.alloc (.cells #[.int .u8 (ty : Nat), .slice q b.length d] 73) = w3 at *
    generalize w2.heap.size = g at *
    obtain ⟨p, c, rfl, hpv1, hpv2, hin, _⟩ := HI.out.fr.own.slice
    obtain ⟨gb, go, rfl⟩ := hin.addr (by omega)
    have hfc := HI.out.fr.blk.cell
    have hmc := HI.out.msg.cell
    unfold maxLen at hpv2
    generalize hhd : headN (!hello) = hd at *
    have Hhd := Lib.hid hhd
    clear hhd
    have hws : IntKind.i64.wrap ((hd : Int) + 4) = (hd : Int) + 4 := by rw [IntKind.wrap_i64]; omega
    obtain ⟨n, hn⟩ : ∃ n : Nat, n = hd + 4 + b.length := ⟨_, rfl⟩
    have hws2 : IntKind.i64.wrap ((hd : Int) + 4 + (b.length : Int)) = (n : Int) := by rw [IntKind.wrap_i64]; omega
    have hn1 : (n : Int) ≤ (L.length : Int) := by omega
    have hn2 : (0 : Int) ≤ (n : Int) := by omega
    have hn3 : n ≤ L.length := by omega
    rw [← hn] at hrs
    have Hrs := Lib.hid hrs
    clear hrs
    have hRl : (L.drop n).length = L.length - n := by rw [List.length_drop]
    have HRl := Lib.hid hRl
    have Hin := Lib.hid hin
    have Hrm : Hid (([] : List UInt8).length + (L.drop n).length ≤ 140737488355328) := Lib.hid (by rw [hRl]; simp; omega)
    have Hn := Lib.hid hn
    have hn4 : ((n : Int)).toNat = n := Int.toNat_natCast n
    clear hin hRl hn hbl hsl hz1 hz2
    have Hh : Hid (Calls Tryz.prog 54 #[.pointer (some ⟨sb, 0, none⟩)] w3.drew fun e w' => e = .returned (.int .i64 (hd : Nat)) ∧ w' = w3.drew) := Lib.hid ((rfHead_any sb _ _ _ _ hello w3.drew hfc).mono (fun e w' ⟨h1, h2⟩ => ⟨by rw [h1, Hhd.out], h2.symm⟩))
    by_cases hcc : n = c
    · obtain rfl : n = L.length := by omega
      obtain rfl : c = L.length := hcc.symm
      have HinB : Hid (∀ w, BytesIn w (some ⟨gb, go, none⟩) L → BytesIn w (some ⟨gb, go, none⟩) (L.drop L.length)) := Lib.hid (fun w _ => by rw [List.drop_length]; exact BytesIn.nil _ _)
      have HRl0 : Hid ((L.drop L.length).length = 0) := Lib.hid (by rw [List.drop_length]; rfl)
      go_cut [] (fun wx => NrC w wx B sb hello rs most room g ty b q d)
      case first =>
        go_region_law
          (first
            | (refine rgn_appendBR rfl (.const (.slice none 0 0)) (.tmp 27) rfl w3.heap.size (.slice none 0 0) [] rfl (OwnBR.empty _ _ _) (some ⟨gb, go, none⟩) (L.drop L.length) 0 0 HRl0.out rfl ((HinB.out _ Hin.out).drewN 1) Hrm.out (Nat.le_refl _) ?_; intro v5 w5 ho5 hg5 _; have hb5 : Below w3.heap.size w3 w5 := (belowDN _ 1).trans (Below.of_row hg5 (Nat.le_refl _) (fun k hk => by simp [rowOf] at hk)); have ho5' : OwnBR w3.heap.size w5 v5 (L.drop L.length) := ho5; obtain ⟨p5, c5, hv5, _⟩ := OwnBR.slice ho5'; rw [HRl0.out] at hv5; subst hv5; have hE := nrC_end HI.out hb5 ho5' hzB; have HO5 := Lib.hid hE.1; have HB5 := Lib.hid hE.2; have hfc5 := hE.2.cell; have hff5 := hE.2.frozen 0; have HM5 : Hid (∀ i, w5.cell? ⟨g, i, none⟩ = (#[.int .u8 (ty : Nat), .slice q b.length d] : Array Value)[i]?) := Lib.hid (HI.out.msg.below hb5 HI.out.msg.lt).cell; clear ho5 ho5' hg5 hb5 hE)
            | (refine rgn_callR rfl 54 _ _ Hh.out (by go_simp) ?_; rintro e w9 ⟨rfl, rfl⟩; refine ⟨_, rfl, ?_⟩))
        all_goals
          go_wp2_with fail
          go_meet
          rw [Hrs.out]
          exact HO5.out
      case rest =>
        obtain ⟨v', hf, hrw, hm5, hres, hT⟩ := hcut
        have hmc5 := hm5.cell
        have hrc := hres.cell
        have hrf0 := hres.frozen 0
        have hrf1 := hres.frozen 1
        have Hf := Lib.hid hf
        have Hrw := Lib.hid hrw
        have HT := Lib.hid hT
        have hTs : ∀ a c, Touch (fun i => i = w.heap.size) wc ((wc.setCell ⟨w.heap.size, 0, none⟩ a).setCell ⟨w.heap.size, 1, none⟩ c) := fun a c => ((Touch.refl (fun i => i = w.heap.size) wc).setCell (x := ⟨w.heap.size, 0, none⟩) (fun _ => rfl) a).setCell (x := ⟨w.heap.size, 1, none⟩) (fun _ => rfl) c
        have HTs := Lib.hid hTs
        have hgl := HI.out.gl
        have hsl := HI.out.sbl
        have hwg : ¬ g = w.heap.size := by omega
        have hwg2 : ¬ w.heap.size = g := by omega
        clear hf hrw hT hTs hm5 hres hfc hmc
        go_wp2
        refine bodyPost_ret (v := .tuple #[.agg #[.int .u8 (ty : Nat), .slice q b.length d], .bool true, .int .i64 0]) (by simp [results, Tryz.results35, go_sem, hrc]) rfl ⟨⟨_, rfl⟩, v', ?_, fun k hk => .inr (by have := Hrw.out k hk; omega), ?_⟩
        · exact Hf.out.touch (HTs.out _ _) (by omega) (fun k hk e => by have := Hrw.out k hk; omega)
        · exact HT.out.then (HTs.out _ _) (fun i hi e => by omega)
    · have hcc2 : ¬ c = n := fun e => hcc e.symm
      have HinB : Hid (∀ w, BytesIn w (some ⟨gb, go, none⟩) L → BytesIn w (some ⟨gb, go + n, none⟩) (L.drop n)) := Lib.hid (fun w hin => hin.drop n)
      go_cut [] (fun wx => NrC w wx B sb hello rs most room g ty b q d)
      case first =>
        go_region_law
          (first
            | (refine rgn_appendBR rfl (.const (.slice none 0 0)) (.tmp 27) rfl w3.heap.size (.slice none 0 0) [] rfl (OwnBR.empty _ _ _) (some ⟨gb, go + n, none⟩) (L.drop n) (L.length - n) (c - n) HRl.out rfl ((HinB.out _ Hin.out).drewN 1) Hrm.out (Nat.le_refl _) ?_; intro v5 w5 ho5 hg5 _; have hb5 : Below w3.heap.size w3 w5 := (belowDN _ 1).trans (Below.of_row hg5 (Nat.le_refl _) (fun k hk => by simp [rowOf] at hk)); have ho5' : OwnBR w3.heap.size w5 v5 (L.drop n) := ho5; obtain ⟨p5, c5, hv5, _⟩ := OwnBR.slice ho5'; rw [HRl.out] at hv5; subst hv5; have hE := nrC_end HI.out hb5 ho5' hzB; have HO5 := Lib.hid hE.1; have HB5 := Lib.hid hE.2; have hfc5 := hE.2.cell; have hff5 := hE.2.frozen 0; have HM5 : Hid (∀ i, w5.cell? ⟨g, i, none⟩ = (#[.int .u8 (ty : Nat), .slice q b.length d] : Array Value)[i]?) := Lib.hid (HI.out.msg.below hb5 HI.out.msg.lt).cell; clear ho5 ho5' hg5 hb5 hE)
            | (refine rgn_callR rfl 54 _ _ Hh.out (by go_simp) ?_; rintro e w9 ⟨rfl, rfl⟩; refine ⟨_, rfl, ?_⟩))
        all_goals
          go_wp2_with fail
          go_meet
          rw [Hrs.out]
          exact HO5.out
      case rest =>
        obtain ⟨v', hf, hrw, hm5, hres, hT⟩ := hcut
        have hmc5 := hm5.cell
        have hrc := hres.cell
        have hrf0 := hres.frozen 0
        have hrf1 := hres.frozen 1
        have Hf := Lib.hid hf
        have Hrw := Lib.hid hrw
        have HT := Lib.hid hT
        have hTs : ∀ a c, Touch (fun i => i = w.heap.size) wc ((wc.setCell ⟨w.heap.size, 0, none⟩ a).setCell ⟨w.heap.size, 1, none⟩ c) := fun a c => ((Touch.refl (fun i => i = w.heap.size) wc).setCell (x := ⟨w.heap.size, 0, none⟩) (fun _ => rfl) a).setCell (x := ⟨w.heap.size, 1, none⟩) (fun _ => rfl) c
        have HTs := Lib.hid hTs
        have hgl := HI.out.gl
        have hsl := HI.out.sbl
        have hwg : ¬ g = w.heap.size := by omega
        have hwg2 : ¬ w.heap.size = g := by omega
        clear hf hrw hT hTs hm5 hres hfc hmc
        go_wp2
        refine bodyPost_ret (v := .tuple #[.agg #[.int .u8 (ty : Nat), .slice q b.length d], .bool true, .int .i64 0]) (by simp [results, Tryz.results35, go_sem, hrc]) rfl ⟨⟨_, rfl⟩, v', ?_, fun k hk => .inr (by have := Hrw.out k hk; omega), ?_⟩
        · exact Hf.out.touch (HTs.out _ _) (by omega) (fun k hk e => by have := Hrw.out k hk; omega)
        · exact HT.out.then (HTs.out _ _) (fun i hi e => by omega)
end Go.Proofs.YtacnmdlefonjmaaGreat

/-
  The document's client (remudaref39) in memory (printed by gen_rcb.py).
-/
namespace Go.Proofs.YtacnmdlefonjmaaGreat
open Go.RowKit
set_option linter.unusedVariables false
set_option linter.unusedSimpArgs false

/-- The document's client in memory: its struct in block cb, its framer. -/
structure RcO (B : Nat) (w : World) (cb sb : Nat) (hello : Bool) (L : List UInt8) (most room : Nat) (wrong : Int) (v : Value) : Prop where
  blk : Blk w cb 38 #[.pointer (some ⟨sb, 0, none⟩)]
  fr : RfO B w sb hello L most room wrong v
  cB : B ≤ cb
  ne : cb ≠ sb
  no : rowOf v ≠ some cb
section
variable {B : Nat} {w w' : World} {cb sb : Nat} {hello : Bool} {L L' : List UInt8} {most room : Nat} {wrong wrong' : Int} {v v' : Value}
theorem RcO.touch {p : Nat → Prop} (h : RcO B w cb sb hello L most room wrong v) (ht : Touch p w w') (h0 : ¬ p cb) (h1 : ¬ p sb) (h2 : ∀ k, rowOf v = some k → ¬ p k) : RcO B w' cb sb hello L most room wrong v :=
  ⟨ht.blk h.blk h0, h.fr.touch ht h1 h2, h.cB, h.ne, h.no⟩
theorem RcO.still (h : RcO B w cb sb hello L most room wrong v) (hb : Below w.heap.size w w') : RcO B w' cb sb hello L most room wrong v :=
  h.touch (Touch.of_below (p := fun _ => False) hb) (fun e => e) (fun e => e) (fun _ _ e => e)
/-- The framer did a step. -/
theorem RcO.step {hello' : Bool} (h : RcO B w cb sb hello L most room wrong v) (hf : RfO B w' sb hello' L' most room wrong' v') (hr : ∀ k, rowOf v' = some k → rowOf v = some k ∨ w.heap.size ≤ k) (hT : Touch (fun i => i = sb) w w') : RcO B w' cb sb hello' L' most room wrong' v' :=
  ⟨hT.blk h.blk h.ne, hf, h.cB, h.ne, fun e => by
    rcases hr cb e with e' | e'
    · exact h.no e'
    · have := h.blk.lt; omega⟩
end
theorem rcNew_bad (most room : Int) (w : World) (h : most < 4 ∨ 65536 < most ∨ room ≤ most ∨ 262144 < room) :
    Calls Tryz.prog 6 #[.int .i64 most, .int .i64 room] w fun e w' => e = .returned (.tuple #[.pointer none, .int .i64 1]) ∧ w = w' := by
  have HN := Lib.hid (rfNew_bad most room true w h)
  clear h
  go_enter Tryz.func6, Tryz.ntmps6
  go_wp2_with fail
  refine HN.out.mono ?_
  rintro e w1 ⟨rfl, rfl⟩
  go_wp2_with fail
  go_ret2
  exact ⟨rfl, rfl⟩
theorem rcNew_ok (most room : Nat) (w : World) (h1 : 4 ≤ most) (h2 : most ≤ 65536) (h3 : most < room) (h4 : room ≤ 262144) :
    Calls Tryz.prog 6 #[.int .i64 (most : Int), .int .i64 (room : Int)] w fun e w' => ∃ cb sb, e = .returned (.tuple #[.pointer (some ⟨cb, 0, none⟩), .int .i64 0]) ∧ RcO w.heap.size w' cb sb true [] most room 0 (.slice none 0 0) ∧ Below w.heap.size w w' := by
  have HN := Lib.hid (rfNew_ok most room true w h1 h2 h3 h4)
  go_enter Tryz.func6, Tryz.ntmps6
  go_wp2_with fail
  refine HN.out.mono ?_
  rintro e w1 ⟨rfl, hf, hb⟩
  have hlt := hf.blk.lt
  have HF : Hid (RcO w.heap.size (w1.alloc (.cells #[.pointer (some ⟨w.heap.size, 0, none⟩)] 38)) w1.heap.size w.heap.size true [] most room 0 (.slice none 0 0)) := Lib.hid ⟨Blk.new _ _ _, hf.still ((Below.refl _ _).alloc (Nat.le_refl _) _), hb.size, by omega, by simp [rowOf]⟩
  have HB := Lib.hid (hb.alloc hb.size (.cells #[.pointer (some ⟨w.heap.size, 0, none⟩)] 38))
  clear hf hb hlt HN
  go_wp2_with fail
  go_ret2
  exact ⟨_, _, rfl, HF.out, HB.out⟩

end Go.Proofs.YtacnmdlefonjmaaGreat

