/-
  Ground: ClC, FrBy, HeF, HeG, HeH, HeI, HeJ, HeK.
-/
import Derived.Test.YtacnmdlefonjmaaPcOP10
import Derived.Test.YtacnmdlefonjmaaPcOP1
import Derived.Test.YtacnmdlefonjmaaPcOP9
import Derived.Test.YtacnmdlefonjmaaPcOP2
import Derived.BigQuiet
import Derived.Deep.QuietTactic
import Derived.Deep.RegionLaw
import Derived.Deep.RegionHeld3
import Derived.Test.YtacnmdlefonjmaaPcOP8
import Derived.Laws.StructEq
import Derived.Deep.RegionWith
/-
  What is next of a client (layer 39): Peek, Take.
-/
namespace Go.Proofs.Ytacnmdlefonjmaa
open Go.RowKit
set_option linter.unusedVariables false
set_option linter.unusedSimpArgs false

/-- What is left: the item, its lists. -/
def ItE (B : Nat) (x : ItV) (e : Ending) (w' : World) : Prop :=
  ∃ p c a, e = .returned (itArg x p c a) ∧ SliceS 2 PrS (fun j => B ≤ j) w' [.slice p x.hel.params.length c] x.hel.params ∧ FoL (fun j => B ≤ j) w' x.front a
theorem it_finE {B : Nat} {w w8 : World} {g : Nat} (hT : Touch (fun k => k = g) w w8) (x : ItV) (p : Option Addr) (c : Nat) (a : FoP)
    (hs : SliceS 2 PrS (fun j => B ≤ j ∧ j ≠ g) w [.slice p x.hel.params.length c] x.hel.params) (hl : FoL (fun j => B ≤ j ∧ j ≠ g) w x.front a) : ItE B x (.returned (itArg x p c a)) w8 :=
  ⟨p, c, a, rfl, (SliceS.still PrS.still) _ _ _ _ _ _ hs (Kept.touch hT (fun j _ h => ⟨h.1, h.2⟩)), hl.keep (Kept.touch hT (fun j _ h => ⟨h.1, h.2⟩))⟩
/-- What is next. -/
def peekV (t : Bool) (most : Nat) (L : List UInt8) (wrong : Int) : ItV :=
  match nextL t most L wrong with
  | some (ty, b, _) => itemV t true (ty : Int) b 0
  | none => itemV t false 0 [] (wrongL t most L wrong)
/-- What is behind it. -/
def restL (t : Bool) (most : Nat) (L : List UInt8) (wrong : Int) : List UInt8 :=
  match nextL t most L wrong with
  | some (_, _, r) => r
  | none => L
theorem peekV_none {t : Bool} {most : Nat} {L : List UInt8} {wrong : Int} (h : nextL t most L wrong = none) : peekV t most L wrong = itemV t false 0 [] (wrongL t most L wrong) ∧ restL t most L wrong = L := by
  unfold peekV restL
  rw [h]
  exact ⟨rfl, rfl⟩
theorem peekV_some {t : Bool} {most : Nat} {L : List UInt8} {wrong : Int} {ty : Nat} {b r : List UInt8} (h : nextL t most L wrong = some (ty, b, r)) : peekV t most L wrong = itemV t true (ty : Int) b 0 ∧ restL t most L wrong = r := by
  unfold peekV restL
  rw [h]
  exact ⟨rfl, rfl⟩
theorem tyOf_bd (t : Bool) (L : List UInt8) : tyOf t L < 256 := by
  unfold tyOf
  split
  · exact UInt8.toNat_lt _
  · omega
theorem next_wrong {t : Bool} {most : Nat} {L : List UInt8} {wrong : Int} {x : Nat × List UInt8 × List UInt8} (h : nextL t most L wrong = some x) : wrongL t most L wrong = 0 := by
  unfold nextL at h
  unfold wrongL
  split at h
  · rename_i hw
    obtain ⟨n, b, r, e⟩ : ∃ n b r, frWhole t L most wrong = (n, b, r) := ⟨_, _, _, rfl⟩
    rw [e] at hw ⊢
    simp only at hw
    subst hw
    exact (frWhole_yes e).2.1
  · cases h
theorem nextL_bd {t : Bool} {most : Nat} {L : List UInt8} {wrong : Int} {ty : Nat} {b r : List UInt8} (h : nextL t most L wrong = some (ty, b, r)) : ty < 256 ∧ b.length ≤ most := by
  unfold nextL at h
  split at h
  · rename_i hw
    simp only [Option.some.injEq, Prod.mk.injEq] at h
    obtain ⟨h1, h2, h3⟩ := h
    refine ⟨by rw [← h1]; exact tyOf_bd t L, ?_⟩
    rw [← h2, List.length_take]
    have : (frWhole t L most wrong).1.toNat - (headN t + 4) ≤ most := by
      unfold frWhole at hw ⊢
      split at hw
      · simp at hw
      · split at hw
        · simp at hw
        · split at hw
          · simp at hw
          · rename_i h5 h6 h7
            rw [if_neg h5, if_neg h6, if_neg h7]
            have h8 : frErr most (frN t L) = 0 := by omega
            unfold frErr at h8
            split at h8
            · omega
            · split at h8
              · omega
              · show ((headN t : Int) + frN t L).toNat - (headN t + 4) ≤ most
                omega
    omega
  · cases h

set_option maxRecDepth 100000 in
set_option maxHeartbeats 8000000 in
theorem clPeek_any (B cb sb : Nat) (t : Bool) (L : List UInt8) (most room : Nat) (wrong : Int) (v : Value) (w : World) (h : ClO B w cb sb t L most room wrong v) (hr : 0 < room) (hL : L.length ≤ 262144) (hm : most ≤ 65536) :
    Calls Try.prog 25 #[.pointer (some ⟨cb, 0, none⟩)] w fun e w' => ItE w.heap.size (peekV t most L wrong) e w' ∧ ClO B w' cb sb t L most room (wrongL t most L wrong) v ∧ Touch (fun i => i = sb) w w' := by
  have ha1 := (Below.refl w.heap.size w).alloc (Nat.le_refl _) (.cells itZ 69)
  have HBg := Lib.hid (it_hz w)
  have h1 := h.still ha1
  have hc1 := h1.blk.cell
  have HR := Lib.hid (clReady_blk cb _ _ _ hc1)
  have HF := Lib.hid (frPeek_any B sb t L most room wrong v _ h1.fr hr hL)
  have H1 := Lib.hid h1
  have hz1 : w.heap.size < (w.alloc (.cells itZ 69)).heap.size := by simp
  have hlt : cb < w.heap.size ∧ sb < w.heap.size := ⟨h.blk.lt, h.fr.blk.lt⟩
  have hrow : ∀ k, rowOf v = some k → k < w.heap.size := fun k hk => (h.fr.own.row k hk).2
  have HRow := Lib.hid hrow
  have HT1 : Hid (Touch (fun i => i = sb) w (w.alloc (.cells itZ 69))) := Lib.hid (Touch.of_below ha1)
  unfold itZ at *
  clear h h1 ha1 hrow
  obtain ⟨pk, hpk⟩ : ∃ pk, pk = peekV t most L wrong := ⟨_, rfl⟩
  obtain ⟨rs, hrs⟩ : ∃ rs, rs = restL t most L wrong := ⟨_, rfl⟩
  rw [← hpk]
  have Hpk := Lib.hid (And.intro hpk hrs)
  clear hpk hrs
  go_enter Try.func25, Try.ntmps25
  go_wp2_with fail
  generalize w.alloc (.cells #[.int .i64 0, .int .i64 0, .int .i64 0, .int .i64 0, .slice none 0 0, .int .u8 0, .int .u8 0, .string ⟨#[]⟩, .string ⟨#[]⟩, .string ⟨#[]⟩, .slice none 0 0, .slice none 0 0, .slice none 0 0, .slice none 0 0, .int .i64 0, .string ⟨#[]⟩, .string ⟨#[]⟩] 69) = w1 at *
  have Hz1 := Lib.hid hz1
  have Hlt := Lib.hid hlt
  clear hz1 hlt
  obtain ⟨g, hg0⟩ : ∃ g, g = w.heap.size := ⟨_, rfl⟩
  have Hg : Hid (g = w.heap.size) := Lib.hid hg0
  rw [← hg0] at HBg ⊢
  clear hg0
  refine HR.out.mono ?_
  rintro e wx ⟨rfl, rfl⟩
  go_wp2_with fail
  refine HF.out.mono ?_
  rintro e w2 ⟨hP, hf2, hT2⟩
  have Hz2 : Hid (w.heap.size < w2.heap.size) := Lib.hid (Nat.lt_of_lt_of_le Hz1.out hT2.size)
  have H2 := Lib.hid (H1.out.step hf2 (fun k hk => .inl hk) (hT2.mono (fun _ _ e => .inl e)))
  have HBg := Lib.hid (hT2.blk HBg.out (by have := Hg.out; have := Hlt.out; omega))
  have HTw := Lib.hid (HT1.out.trans (hT2.mono (fun _ _ e => e)))
  clear hf2 hT2 HF H1 HT1 HR hc1
  rcases hP with ⟨hn, rfl⟩ | ⟨ty, b, r, q, d, hn, hw0, hw1, hhl, hrr, rfl, hby⟩
  · have Hpv := Lib.hid (peekV_none hn)
    clear hn
    have he := (Hpv.out.1.symm.trans Hpk.out.1.symm)
    clear Hpv Hpk
    have hc2 := H2.out.blk.cell
    have HI := Lib.hid (item_any cb _ t 0 (by omega) (by omega) none 0 [] 0 false (wrongL t most L wrong) w2 hc2 H2.out.blk.lt (fun _ e => by cases e))
    rw [he] at HI
    clear he
    go_wp2_with fail
    refine HI.out.mono ?_
    rintro e w9 ⟨p9, c9, a9, rfl, hs9, hl9, hb9⟩
    have HBg := Lib.hid (HBg.out.below hb9 (by have := Hz2.out; have := Hg.out; omega))
    have Hs9 := Lib.hid (hs9.weak PrS.still (S' := fun j => w.heap.size ≤ j ∧ j ≠ g) (fun k hk hS => ⟨by have := Hz2.out; omega, by have := Hz2.out; have := Hg.out; omega⟩))
    have Hl9 := Lib.hid (hl9.weak (S' := fun j => w.heap.size ≤ j ∧ j ≠ g) (fun k hk hS => ⟨by have := Hz2.out; omega, by have := Hz2.out; have := Hg.out; omega⟩))
    have H9 := Lib.hid (H2.out.still hb9)
    have HTw := Lib.hid (HTw.out.then (Touch.of_below (p := fun _ => False) hb9) (fun _ _ e => e.elim))
    clear hs9 hl9 hb9 HI
    unfold itArg itCells
    go_wp2_with (refine wpList_store_it _ rfl (.tmp 2) (.tmp 16) rfl g _ _ rfl rfl HBg.out rfl rfl (by simp [Value.oneCell']) ?_; intro w8 hb8 hT8; have HB8 := Lib.hid hb8; have HT8 := Lib.hid hT8; clear hb8 hT8)
    exact bodyPost_ret (v := .agg #[.int .i64 pk.kind, .int .i64 pk.hel.code, .int .i64 pk.hel.process, .int .i64 pk.hel.secret, .slice p9 pk.hel.params.length c9, .int .u8 pk.front.kind, .int .u8 pk.front.what, .string pk.front.name, .string pk.front.portal, .string pk.front.text, .slice a9.po pk.front.oids.length a9.co, .slice a9.pf pk.front.formats.length a9.cf, .slice a9.pr pk.front.results.length a9.cr, .slice a9.pp pk.front.params.length a9.cp, .int .i64 pk.front.max, .string pk.code, .string pk.text]) (results_cell_row (fn := Try.f25) (p := 2) (by kernel_rfl) _ _ g _ _ (0, 0) _ rfl HB8.out Try.underlying69 rfl it_info) rfl (⟨it_finE HT8.out pk p9 c9 a9 Hs9.out Hl9.out, H9.out.touch HT8.out (by have := Hg.out; have := Hlt.out; omega) (by have := Hg.out; have := Hlt.out; omega) (fun k hk => by have := HRow.out k hk; have := Hg.out; omega), HTw.out.then HT8.out (fun i hi e => by have := Hg.out; omega)⟩)
  · have Hbd := Lib.hid (nextL_bd hn)
    have Hpv := Lib.hid (peekV_some hn)
    have Hw1 := Lib.hid hw1
    obtain ⟨q', d', e', -, -, hq, -⟩ := hby
    simp only [List.cons.injEq, Value.slice.injEq, and_true] at e'
    obtain ⟨rfl, -, rfl⟩ := e'
    have Hby := Lib.hid hq
    clear hn hw0 hw1 hhl hrr hq
    have he := (Hpv.out.1.symm.trans Hpk.out.1.symm)
    clear Hpv Hpk
    have hc2 := H2.out.blk.cell
    have HI := Lib.hid (item_any cb _ t (ty : Int) (by omega) (by have := Hbd.out.1; omega) q _ b d true 0 w2 hc2 H2.out.blk.lt (fun _ _ => ⟨rfl, by have := Hbd.out.2; omega, Hby.out⟩))
    rw [he] at HI
    clear he
    go_wp2_with fail
    refine HI.out.mono ?_
    rintro e w9 ⟨p9, c9, a9, rfl, hs9, hl9, hb9⟩
    have HBg := Lib.hid (HBg.out.below hb9 (by have := Hz2.out; have := Hg.out; omega))
    have Hs9 := Lib.hid (hs9.weak PrS.still (S' := fun j => w.heap.size ≤ j ∧ j ≠ g) (fun k hk hS => ⟨by have := Hz2.out; omega, by have := Hz2.out; have := Hg.out; omega⟩))
    have Hl9 := Lib.hid (hl9.weak (S' := fun j => w.heap.size ≤ j ∧ j ≠ g) (fun k hk hS => ⟨by have := Hz2.out; omega, by have := Hz2.out; have := Hg.out; omega⟩))
    have H9 := Lib.hid (H2.out.still hb9)
    have HTw := Lib.hid (HTw.out.then (Touch.of_below (p := fun _ => False) hb9) (fun _ _ e => e.elim))
    clear hs9 hl9 hb9 HI
    unfold itArg itCells
    go_wp2_with (refine wpList_store_it _ rfl (.tmp 2) (.tmp 16) rfl g _ _ rfl rfl HBg.out rfl rfl (by simp [Value.oneCell']) ?_; intro w8 hb8 hT8; have HB8 := Lib.hid hb8; have HT8 := Lib.hid hT8; clear hb8 hT8)
    exact bodyPost_ret (v := .agg #[.int .i64 pk.kind, .int .i64 pk.hel.code, .int .i64 pk.hel.process, .int .i64 pk.hel.secret, .slice p9 pk.hel.params.length c9, .int .u8 pk.front.kind, .int .u8 pk.front.what, .string pk.front.name, .string pk.front.portal, .string pk.front.text, .slice a9.po pk.front.oids.length a9.co, .slice a9.pf pk.front.formats.length a9.cf, .slice a9.pr pk.front.results.length a9.cr, .slice a9.pp pk.front.params.length a9.cp, .int .i64 pk.front.max, .string pk.code, .string pk.text]) (results_cell_row (fn := Try.f25) (p := 2) (by kernel_rfl) _ _ g _ _ (0, 0) _ rfl HB8.out Try.underlying69 rfl it_info) rfl (⟨it_finE HT8.out pk p9 c9 a9 Hs9.out Hl9.out, H9.out.touch HT8.out (by have := Hg.out; have := Hlt.out; omega) (by have := Hg.out; have := Hlt.out; omega) (fun k hk => by have := HRow.out k hk; have := Hg.out; omega), HTw.out.then HT8.out (fun i hi e => by have := Hg.out; omega)⟩)

set_option maxRecDepth 100000 in
set_option maxHeartbeats 8000000 in
theorem clTake_any (B cb sb : Nat) (t : Bool) (L : List UInt8) (most room : Nat) (wrong : Int) (v : Value) (w : World) (h : ClO B w cb sb t L most room wrong v) (hr : 0 < room) (hL : L.length ≤ 262144) (hm : most ≤ 65536) :
    Calls Try.prog 26 #[.pointer (some ⟨cb, 0, none⟩)] w fun e w' => ItE w.heap.size (peekV t most L wrong) e w' ∧ ∃ v', ClO B w' cb sb t (restL t most L wrong) most room (wrongL t most L wrong) v' ∧ (∀ k, rowOf v' = some k → rowOf v = some k) ∧ FrT sb v w w' := by
  have ha1 := (Below.refl w.heap.size w).alloc (Nat.le_refl _) (.cells itZ 69)
  have HBg := Lib.hid (it_hz w)
  have h1 := h.still ha1
  have hc1 := h1.blk.cell
  have HR := Lib.hid (clReady_blk cb _ _ _ hc1)
  have HF := Lib.hid (frNext_any B sb t L most room wrong v _ h1.fr hr hL)
  have H1 := Lib.hid h1
  have hz1 : w.heap.size < (w.alloc (.cells itZ 69)).heap.size := by simp
  have hlt : cb < w.heap.size ∧ sb < w.heap.size := ⟨h.blk.lt, h.fr.blk.lt⟩
  have hrow : ∀ k, rowOf v = some k → k < w.heap.size := fun k hk => (h.fr.own.row k hk).2
  have HRow := Lib.hid hrow
  have HT1 : Hid (Touch (fun i => i = sb) w (w.alloc (.cells itZ 69))) := Lib.hid (Touch.of_below ha1)
  unfold itZ at *
  clear h h1 ha1 hrow
  obtain ⟨pk, hpk⟩ : ∃ pk, pk = peekV t most L wrong := ⟨_, rfl⟩
  obtain ⟨rs, hrs⟩ : ∃ rs, rs = restL t most L wrong := ⟨_, rfl⟩
  rw [← hpk, ← hrs]
  have Hpk := Lib.hid (And.intro hpk hrs)
  clear hpk hrs
  go_enter Try.func26, Try.ntmps26
  go_wp2_with fail
  generalize w.alloc (.cells #[.int .i64 0, .int .i64 0, .int .i64 0, .int .i64 0, .slice none 0 0, .int .u8 0, .int .u8 0, .string ⟨#[]⟩, .string ⟨#[]⟩, .string ⟨#[]⟩, .slice none 0 0, .slice none 0 0, .slice none 0 0, .slice none 0 0, .int .i64 0, .string ⟨#[]⟩, .string ⟨#[]⟩] 69) = w1 at *
  have Hz1 := Lib.hid hz1
  have Hlt := Lib.hid hlt
  clear hz1 hlt
  obtain ⟨g, hg0⟩ : ∃ g, g = w.heap.size := ⟨_, rfl⟩
  have Hg : Hid (g = w.heap.size) := Lib.hid hg0
  rw [← hg0] at HBg ⊢
  clear hg0
  refine HR.out.mono ?_
  rintro e wx ⟨rfl, rfl⟩
  go_wp2_with fail
  refine HF.out.mono ?_
  rintro e w2 (⟨hn, rfl, hf2, hT2⟩ | ⟨ty, b, r, q, d, v', hn, hw0, hrl, hbl, rfl, hby, hf2, hr2, hT2⟩)
  · have Hz2 : Hid (w.heap.size < w2.heap.size) := Lib.hid (Nat.lt_of_lt_of_le Hz1.out hT2.size)
    have H2 := Lib.hid (H1.out.step hf2 (fun k hk => .inl hk) (hT2.mono (fun _ _ e => .inl e)))
    have HBg := Lib.hid (hT2.blk HBg.out (by have := Hg.out; have := Hlt.out; omega))
    have HTw : Hid (FrT sb v w w2) := Lib.hid ((HT1.out.trans (hT2.mono (fun _ _ e => e))).mono (fun _ _ e => .inl e))
    have Hr2 : Hid (∀ k, rowOf v = some k → rowOf v = some k) := Lib.hid (fun _ h => h)
    have Hpv := Lib.hid (peekV_none hn)
    clear hf2 hT2 HF H1 HT1 HR hc1 hn
    have he := (Hpv.out.1.symm.trans Hpk.out.1.symm)
    obtain rfl := (Hpv.out.2.symm.trans Hpk.out.2.symm)
    clear Hpv Hpk
    have hc2 := H2.out.blk.cell
    have HI := Lib.hid (item_any cb _ t 0 (by omega) (by omega) none 0 [] 0 false (wrongL t most L wrong) w2 hc2 H2.out.blk.lt (fun _ e => by cases e))
    rw [he] at HI
    clear he
    go_wp2_with fail
    refine HI.out.mono ?_
    rintro e w9 ⟨p9, c9, a9, rfl, hs9, hl9, hb9⟩
    have HBg := Lib.hid (HBg.out.below hb9 (by have := Hz2.out; have := Hg.out; omega))
    have Hs9 := Lib.hid (hs9.weak PrS.still (S' := fun j => w.heap.size ≤ j ∧ j ≠ g) (fun k hk hS => ⟨by have := Hz2.out; omega, by have := Hz2.out; have := Hg.out; omega⟩))
    have Hl9 := Lib.hid (hl9.weak (S' := fun j => w.heap.size ≤ j ∧ j ≠ g) (fun k hk hS => ⟨by have := Hz2.out; omega, by have := Hz2.out; have := Hg.out; omega⟩))
    have H9 := Lib.hid (H2.out.still hb9)
    have HTw := Lib.hid (HTw.out.then (Touch.of_below (p := fun _ => False) hb9) (fun _ _ e => e.elim))
    clear hs9 hl9 hb9 HI
    unfold itArg itCells
    go_wp2_with (refine wpList_store_it _ rfl (.tmp 2) (.tmp 16) rfl g _ _ rfl rfl HBg.out rfl rfl (by simp [Value.oneCell']) ?_; intro w8 hb8 hT8; have HB8 := Lib.hid hb8; have HT8 := Lib.hid hT8; clear hb8 hT8)
    exact bodyPost_ret (v := .agg #[.int .i64 pk.kind, .int .i64 pk.hel.code, .int .i64 pk.hel.process, .int .i64 pk.hel.secret, .slice p9 pk.hel.params.length c9, .int .u8 pk.front.kind, .int .u8 pk.front.what, .string pk.front.name, .string pk.front.portal, .string pk.front.text, .slice a9.po pk.front.oids.length a9.co, .slice a9.pf pk.front.formats.length a9.cf, .slice a9.pr pk.front.results.length a9.cr, .slice a9.pp pk.front.params.length a9.cp, .int .i64 pk.front.max, .string pk.code, .string pk.text]) (results_cell_row (fn := Try.f26) (p := 2) (by kernel_rfl) _ _ g _ _ (0, 0) _ rfl HB8.out Try.underlying69 rfl it_info) rfl (⟨it_finE HT8.out pk p9 c9 a9 Hs9.out Hl9.out, _, H9.out.touch HT8.out (by have := Hg.out; have := Hlt.out; omega) (by have := Hg.out; have := Hlt.out; omega) (fun k hk => by have := HRow.out k (Hr2.out k hk); have := Hg.out; omega), Hr2.out, HTw.out.then HT8.out (fun i hi e => by have := Hg.out; omega)⟩)
  · have Hz2 : Hid (w.heap.size < w2.heap.size) := Lib.hid (Nat.lt_of_lt_of_le Hz1.out hT2.size)
    have Hbd := Lib.hid (nextL_bd hn)
    have hwl : wrongL t most L wrong = 0 := next_wrong hn
    rw [← hwl] at hf2
    have H2 := Lib.hid (H1.out.step hf2 (fun k hk => .inl (hr2 k hk)) hT2)
    have HBg := Lib.hid (hT2.blk HBg.out (fun e => by
      have h1 := Hg.out
      rcases e with e | e
      · have := Hlt.out; omega
      · have := HRow.out g e; omega))
    have HTw : Hid (FrT sb v w w2) := Lib.hid ((HT1.out.mono (fun _ _ e => .inl e)).then hT2 (fun _ _ e => e))
    have Hr2 := Lib.hid hr2
    have Hpv := Lib.hid (peekV_some hn)
    obtain ⟨q', d', e', -, -, hq, -⟩ := hby
    simp only [List.cons.injEq, Value.slice.injEq, and_true] at e'
    obtain ⟨rfl, -, rfl⟩ := e'
    have Hby := Lib.hid hq
    clear hf2 hT2 HF H1 HT1 HR hc1 hn hw0 hrl hbl hq hr2 hwl
    have he := (Hpv.out.1.symm.trans Hpk.out.1.symm)
    obtain rfl := (Hpv.out.2.symm.trans Hpk.out.2.symm)
    clear Hpv Hpk
    have hc2 := H2.out.blk.cell
    have HI := Lib.hid (item_any cb _ t (ty : Int) (by omega) (by have := Hbd.out.1; omega) q _ b d true 0 w2 hc2 H2.out.blk.lt (fun _ _ => ⟨rfl, by have := Hbd.out.2; omega, Hby.out⟩))
    rw [he] at HI
    clear he
    go_wp2_with fail
    refine HI.out.mono ?_
    rintro e w9 ⟨p9, c9, a9, rfl, hs9, hl9, hb9⟩
    have HBg := Lib.hid (HBg.out.below hb9 (by have := Hz2.out; have := Hg.out; omega))
    have Hs9 := Lib.hid (hs9.weak PrS.still (S' := fun j => w.heap.size ≤ j ∧ j ≠ g) (fun k hk hS => ⟨by have := Hz2.out; omega, by have := Hz2.out; have := Hg.out; omega⟩))
    have Hl9 := Lib.hid (hl9.weak (S' := fun j => w.heap.size ≤ j ∧ j ≠ g) (fun k hk hS => ⟨by have := Hz2.out; omega, by have := Hz2.out; have := Hg.out; omega⟩))
    have H9 := Lib.hid (H2.out.still hb9)
    have HTw := Lib.hid (HTw.out.then (Touch.of_below (p := fun _ => False) hb9) (fun _ _ e => e.elim))
    clear hs9 hl9 hb9 HI
    unfold itArg itCells
    go_wp2_with (refine wpList_store_it _ rfl (.tmp 2) (.tmp 16) rfl g _ _ rfl rfl HBg.out rfl rfl (by simp [Value.oneCell']) ?_; intro w8 hb8 hT8; have HB8 := Lib.hid hb8; have HT8 := Lib.hid hT8; clear hb8 hT8)
    exact bodyPost_ret (v := .agg #[.int .i64 pk.kind, .int .i64 pk.hel.code, .int .i64 pk.hel.process, .int .i64 pk.hel.secret, .slice p9 pk.hel.params.length c9, .int .u8 pk.front.kind, .int .u8 pk.front.what, .string pk.front.name, .string pk.front.portal, .string pk.front.text, .slice a9.po pk.front.oids.length a9.co, .slice a9.pf pk.front.formats.length a9.cf, .slice a9.pr pk.front.results.length a9.cr, .slice a9.pp pk.front.params.length a9.cp, .int .i64 pk.front.max, .string pk.code, .string pk.text]) (results_cell_row (fn := Try.f26) (p := 2) (by kernel_rfl) _ _ g _ _ (0, 0) _ rfl HB8.out Try.underlying69 rfl it_info) rfl (⟨it_finE HT8.out pk p9 c9 a9 Hs9.out Hl9.out, _, H9.out.touch HT8.out (by have := Hg.out; have := Hlt.out; omega) (by have := Hg.out; have := Hlt.out; omega) (fun k hk => by have := HRow.out k (Hr2.out k hk); have := Hg.out; omega), Hr2.out, HTw.out.then HT8.out (fun i hi e => by have := Hg.out; omega)⟩)

set_option maxRecDepth 100000 in
set_option maxHeartbeats 8000000 in
theorem clPeek_none (x : Option Addr) (w : World) (hR : Calls Try.prog 40 #[.pointer x] (w.alloc (.cells itZ 69)) fun e w' => e = .returned (.bool false) ∧ (w.alloc (.cells itZ 69)) = w') :
    Calls Try.prog 25 #[.pointer x] w fun e w' => (∃ p c a, e = .returned (itArg itNo p c a)) ∧ Below w.heap.size w w' := by
  have ha1 := (Below.refl w.heap.size w).alloc (Nat.le_refl _) (.cells itZ 69)
  have HBg := Lib.hid (it_hz w)
  have HR := Lib.hid hR
  have Ha1 := Lib.hid ha1
  clear hR ha1
  unfold itZ at *
  go_enter Try.func25, Try.ntmps25
  go_wp2_with fail
  generalize w.alloc (.cells #[.int .i64 0, .int .i64 0, .int .i64 0, .int .i64 0, .slice none 0 0, .int .u8 0, .int .u8 0, .string ⟨#[]⟩, .string ⟨#[]⟩, .string ⟨#[]⟩, .slice none 0 0, .slice none 0 0, .slice none 0 0, .slice none 0 0, .int .i64 0, .string ⟨#[]⟩, .string ⟨#[]⟩] 69) = w1 at *
  obtain ⟨g, hg0⟩ : ∃ g, g = w.heap.size := ⟨_, rfl⟩
  have Hg : Hid (g = w.heap.size) := Lib.hid hg0
  rw [← hg0] at HBg ⊢
  clear hg0
  refine HR.out.mono ?_
  rintro e wx ⟨rfl, rfl⟩
  go_wp2_with (refine wpList_store_it _ rfl (.tmp 2) (.tmp 6) rfl g _ _ rfl rfl HBg.out rfl rfl (by simp [Value.oneCell']) ?_; intro w8 hb8 hT8; have HB8 := Lib.hid hb8; have HT8 := Lib.hid hT8; clear hb8 hT8)
  exact bodyPost_ret (v := .agg #[.int .i64 0, .int .i64 0, .int .i64 0, .int .i64 0, .slice none 0 0, .int .u8 0, .int .u8 0, .string ⟨#[]⟩, .string ⟨#[]⟩, .string ⟨#[]⟩, .slice none 0 0, .slice none 0 0, .slice none 0 0, .slice none 0 0, .int .i64 0, .string ⟨#[]⟩, .string ⟨#[]⟩]) (results_cell_row (fn := Try.f25) (p := 2) (by kernel_rfl) _ _ g _ _ (0, 0) _ rfl HB8.out Try.underlying69 rfl it_info) rfl (⟨⟨none, 0, foNil, rfl⟩, Ha1.out.trans (HT8.out.below Ha1.out.size (fun k e => by have := Hg.out; omega))⟩)
set_option maxRecDepth 100000 in
set_option maxHeartbeats 8000000 in
theorem clTake_none (x : Option Addr) (w : World) (hR : Calls Try.prog 40 #[.pointer x] (w.alloc (.cells itZ 69)) fun e w' => e = .returned (.bool false) ∧ (w.alloc (.cells itZ 69)) = w') :
    Calls Try.prog 26 #[.pointer x] w fun e w' => (∃ p c a, e = .returned (itArg itNo p c a)) ∧ Below w.heap.size w w' := by
  have ha1 := (Below.refl w.heap.size w).alloc (Nat.le_refl _) (.cells itZ 69)
  have HBg := Lib.hid (it_hz w)
  have HR := Lib.hid hR
  have Ha1 := Lib.hid ha1
  clear hR ha1
  unfold itZ at *
  go_enter Try.func26, Try.ntmps26
  go_wp2_with fail
  generalize w.alloc (.cells #[.int .i64 0, .int .i64 0, .int .i64 0, .int .i64 0, .slice none 0 0, .int .u8 0, .int .u8 0, .string ⟨#[]⟩, .string ⟨#[]⟩, .string ⟨#[]⟩, .slice none 0 0, .slice none 0 0, .slice none 0 0, .slice none 0 0, .int .i64 0, .string ⟨#[]⟩, .string ⟨#[]⟩] 69) = w1 at *
  obtain ⟨g, hg0⟩ : ∃ g, g = w.heap.size := ⟨_, rfl⟩
  have Hg : Hid (g = w.heap.size) := Lib.hid hg0
  rw [← hg0] at HBg ⊢
  clear hg0
  refine HR.out.mono ?_
  rintro e wx ⟨rfl, rfl⟩
  go_wp2_with (refine wpList_store_it _ rfl (.tmp 2) (.tmp 6) rfl g _ _ rfl rfl HBg.out rfl rfl (by simp [Value.oneCell']) ?_; intro w8 hb8 hT8; have HB8 := Lib.hid hb8; have HT8 := Lib.hid hT8; clear hb8 hT8)
  exact bodyPost_ret (v := .agg #[.int .i64 0, .int .i64 0, .int .i64 0, .int .i64 0, .slice none 0 0, .int .u8 0, .int .u8 0, .string ⟨#[]⟩, .string ⟨#[]⟩, .string ⟨#[]⟩, .slice none 0 0, .slice none 0 0, .slice none 0 0, .slice none 0 0, .int .i64 0, .string ⟨#[]⟩, .string ⟨#[]⟩]) (results_cell_row (fn := Try.f26) (p := 2) (by kernel_rfl) _ _ g _ _ (0, 0) _ rfl HB8.out Try.underlying69 rfl it_info) rfl (⟨⟨none, 0, foNil, rfl⟩, Ha1.out.trans (HT8.out.below Ha1.out.size (fun k e => by have := Hg.out; omega))⟩)

end Go.Proofs.Ytacnmdlefonjmaa

/-
  A message's bytes: the contracts of frame.Bytes and of the document's (layer 4).
-/
namespace Go.Proofs.Ytacnmdlefonjmaa
open Go.RowKit

/-- A message's bytes. -/
def msgL (ty : UInt8) (l : List UInt8) : List UInt8 := putV (if ty = 0 then [] else [ty]) ((l.length : Int) + 4) 4 ++ l

theorem msgL_len (ty : UInt8) (l : List UInt8) : (msgL ty l).length ≤ l.length + 5 := by
  have h := putV_len4 (if ty = 0 then [] else [ty]) ((l.length : Int) + 4) 4
  unfold msgL
  rw [List.length_append]
  have : (if ty = 0 then ([] : List UInt8) else [ty]).length ≤ 1 := by split <;> simp
  omega

def msgArg (ty : UInt8) (p : Option Addr) (n c : Nat) : Value := .agg #[.int .u8 (ty.toNat : Int), .slice p n c]

/-- A message in a block, and its bytes. -/
structure MsW (w0 w : World) (g : Nat) (ty : UInt8) (l : List UInt8) (p : Option Addr) (c : Nat) : Prop where
  blk : Blk w g 94 #[.int .u8 (ty.toNat : Int), .slice p l.length c]
  inn : BytesIn w p l
  bel : Below w0.heap.size w0 w
section
variable {w0 w w' : World} {g : Nat} {ty : UInt8} {l : List UInt8} {p : Option Addr} {c : Nat}
theorem MsW.step (h : MsW w0 w g ty l p c) (hb : Below w.heap.size w w') : MsW w0 w' g ty l p c := ⟨h.blk.below hb h.blk.lt, h.inn.below hb, h.bel.trans (hb.mono h.bel.size)⟩
theorem MsW.drew (h : MsW w0 w g ty l p c) : MsW w0 w.drew g ty l p c := h.step (((Touch.refl (fun _ => False) w).drew).below (Nat.le_refl _) (fun _ e => e.elim))
theorem MsW.box (h : BytesIn w p l) : MsW w (w.alloc (.cells #[.int .u8 (ty.toNat : Int), .slice p l.length c] 94)) w.heap.size ty l p c := ⟨Blk.new _ _ _, h.alloc _, (Below.refl _ _).alloc (Nat.le_refl _) _⟩
end

theorem cell_grown {w w' : World} {row : Option Nat} {g i : Nat} (h : w.grownBy w' row) (hg : g < w.heap.size) (hr : some g ≠ row) : w'.cell? ⟨g, i, none⟩ = w.cell? ⟨g, i, none⟩ := World.cell?_of_block (a := ⟨g, i, none⟩) (h.block g hg hr)

set_option maxRecDepth 100000 in
set_option maxHeartbeats 4000000 in
theorem frBytesR_any (ty : UInt8) (l : List UInt8) (p : Option Addr) (c : Nat) (w : World) (hx : BytesIn w p l) (hl : l.length ≤ 100000) :
    Calls Try.prog 62 #[msgArg ty p l.length c] w fun e w' => ∃ v, e = .returned v ∧ OwnBR w.heap.size w' v (msgL ty l) ∧ Below w.heap.size w w' := by
  have H0 := Lib.hid (MsW.box (ty := ty) (c := c) hx)
  have Hm : Hid (∀ pre, pre = (if ty = 0 then ([] : List UInt8) else [ty]) → msgL ty l = putV pre ((l.length : Int) + 4) 4 ++ l) := Lib.hid (fun pre e => by rw [e]; rfl)
  have Hpl := Lib.hid (fun pre : List UInt8 => putV_len4 pre ((l.length : Int) + 4) 4)
  have hx0 := u8_bd ty
  have hws : IntKind.i64.wrap (4 + (l.length : Int)) = 4 + (l.length : Int) := by rw [IntKind.wrap_i64]; omega
  have hws2 : IntKind.i64.wrap ((l.length : Int) + 4) = (l.length : Int) + 4 := by rw [IntKind.wrap_i64]; omega
  have Hsum := Lib.hid (show (4 : Int) + (l.length : Int) = (l.length : Int) + 4 by omega)
  have hcase : ty = 0 ∨ ¬ ty = 0 := Decidable.em _
  clear hx
  unfold msgArg
  rcases hcase with h0 | h0
  · have Hm2 := Lib.hid (Hm.out [] (by rw [if_pos h0]))
    have hz : (ty.toNat : Int) = 0 := by rw [h0]; rfl
    rw [hz]
    have H1 : Hid (MsW w (w.alloc (.cells #[.int .u8 0, .slice p l.length c] 94)) w.heap.size ty l p c) := Lib.hid (by have := H0.out; rw [hz] at this; exact this)
    have hc1 : ∀ i, (w.alloc (.cells #[.int .u8 0, .slice p l.length c] 94)).cell? ⟨w.heap.size, i, none⟩ = (#[.int .u8 0, .slice p l.length c] : Array Value)[i]? := by have := H1.out.blk.cell; rw [hz] at this; exact this
    have hX : (ty.toNat : Int) = 0 := hz
    have HX := Lib.hid hX
    clear Hm h0 hx0 hX hz H0
    go_enter Try.func62, Try.ntmps62
    go_wp2_with fail
    generalize hw1 : w.alloc (.cells #[.int .u8 0, .slice p l.length c] 94) = w1 at *
    clear hw1
    have hlt1 := H1.out.blk.lt
    have H2 := H1
    have Hi2 := Lib.hid (BytesIn.nil w1 none)
    go_wp2_with fail
    generalize hw2 : w1 = w2 at *
    clear hw2
    have hc2 : ∀ i, w2.cell? ⟨w.heap.size, i, none⟩ = (#[.int .u8 0, .slice p l.length c] : Array Value)[i]? := (by have := H2.out.blk.cell; rw [HX.out] at this; exact this)
    have hlt2 := H2.out.blk.lt
    go_region_held3 (fun w' => ∀ i, w'.cell? ⟨w.heap.size, i, none⟩ = (#[.int .u8 0, .slice p l.length c] : Array Value)[i]?)
      (first | exact hc2 | exact hc3 | exact hc4 | go_keep)
      (first
        | (go_at_call 68; (try rw [Hsum.out]); refine (putR_any none [] 0 ((l.length : Int) + 4) 4 _ (by simp) (Hi2.out.drewN 1)).mono ?_; rintro e w3 ⟨v3, rfl, ho3, hb3⟩; have H3 : Hid (MsW w w3 _ _ _ _ _) := Lib.hid (H2.out.drew.step hb3); have hc3 : ∀ i, w3.cell? ⟨w.heap.size, i, none⟩ = (#[.int .u8 0, .slice p l.length c] : Array Value)[i]? := (by have := H3.out.blk.cell; rw [HX.out] at this; exact this); have hpl3 := Hpl.out []; have Ho3 : Hid (OwnBR w2.heap.size w3 v3 (putV [] ((l.length : Int) + 4) 4)) := Lib.hid (OwnBR.of ho3); have hs3 : w2.heap.size ≤ w3.heap.size := hb3.size; (try simp only [List.length_cons] at hpl3); simp only [List.length_nil] at hpl3; clear hb3 ho3)
        | (refine rgn_appendBR rfl (.tmp 17) (.tmp 19) rfl w2.heap.size _ _ rfl Ho3.out _ l _ _ rfl rfl H3.out.inn (by omega) hs3 ?_; intro v4 w4 ho4 hg4 _; have hc4 : ∀ i, w4.cell? ⟨w.heap.size, i, none⟩ = (#[.int .u8 0, .slice p l.length c] : Array Value)[i]? := (fun i => (cell_grown hg4 (by omega) (fun e => by have := (Ho3.out.row _ e.symm).1; omega)).trans (hc3 i))))
    have hw : Below w.heap.size w w4 := H3.out.bel.trans (Below.of_row hg4 H3.out.bel.size (fun k hk => by have := (Ho3.out.row k hk).1; omega))
    have Hw := Lib.hid hw
    have Ho4 := Lib.hid ho4
    clear hw ho4 hg4 hc2 hc3 hc4
    go_wp2
    go_ret
    refine ⟨_, rfl, ?_, Hw.out⟩
    rw [Hm2.out]
    exact OwnR.base Ho4.out (by omega)
  · have Hm2 := Lib.hid (Hm.out [ty] (by rw [if_neg h0]))
    have hne0 : ¬ ((ty.toNat : Int) = 0) := fun e => h0 (UInt8.toNat_inj.1 (by have : (0 : UInt8).toNat = 0 := rfl; omega))
    obtain ⟨x, hX⟩ : ∃ x : Nat, (ty.toNat : Int) = (x : Int) := ⟨_, rfl⟩
    rw [hX]
    rw [hX] at hne0 hx0
    have H1 : Hid (MsW w (w.alloc (.cells #[.int .u8 (x : Int), .slice p l.length c] 94)) w.heap.size ty l p c) := Lib.hid (by have := H0.out; rw [hX] at this; exact this)
    have hc1 : ∀ i, (w.alloc (.cells #[.int .u8 (x : Int), .slice p l.length c] 94)).cell? ⟨w.heap.size, i, none⟩ = (#[.int .u8 (x : Int), .slice p l.length c] : Array Value)[i]? := by have := H1.out.blk.cell; rw [hX] at this; exact this
    have HX := Lib.hid hX
    have hne : ¬ ((x : Int) = 0) := hne0
    clear Hm h0 hX H0 hne0
    have hz1 : (w.alloc (.cells #[.int .u8 (x : Int), .slice p l.length c] 94)).heap.size = w.heap.size + 1 := by simp
    have H2a := Lib.hid (H1.out.step ((Below.refl _ _).alloc (Nat.le_refl _) (.cells #[.int .u8 (x : Int)] 5)))
    have hi2a := BytesIn.new1 (w.alloc (.cells #[.int .u8 (x : Int), .slice p l.length c] 94)) ty (x : Int) 5 HX.out
    rw [hz1] at hi2a
    have Hi2a := Lib.hid hi2a
    have hz2a : ((w.alloc (.cells #[.int .u8 (x : Int), .slice p l.length c] 94)).alloc (.cells #[.int .u8 (x : Int)] 5)).heap.size = w.heap.size + 2 := by simp
    clear hz1 hi2a hc1
    go_enter Try.func62, Try.ntmps62
    go_wp2_with (at_builtin; refine step_appendBR _ rfl (.tmp 7) (.tmp 10) rfl (w.heap.size + 1) (.slice none 0 0) [] rfl (OwnBR.empty _ _ _) (some ⟨w.heap.size + 1, 0, none⟩) [ty] 1 1 rfl rfl Hi2a.out (by simp) (by omega) ?_; intro v2 w2 ho2 hg2 _; have Ho2 : Hid (OwnBR (w.heap.size + 1) w2 v2 [ty]) := Lib.hid ho2; have H2 := Lib.hid (H2a.out.step (Below.of_row hg2 (Nat.le_refl _) (fun k hk => by simp [rowOf] at hk))); clear ho2 hg2; obtain ⟨q2, d2, rfl, _, _, hi2, _⟩ := Ho2.out.slice; have Hi2 := Lib.hid hi2; clear hi2)
    have hc2 : ∀ i, w2.cell? ⟨w.heap.size, i, none⟩ = (#[.int .u8 (x : Int), .slice p l.length c] : Array Value)[i]? := (by have := H2.out.blk.cell; rw [HX.out] at this; exact this)
    have hlt2 := H2.out.blk.lt
    go_region_held3 (fun w' => ∀ i, w'.cell? ⟨w.heap.size, i, none⟩ = (#[.int .u8 (x : Int), .slice p l.length c] : Array Value)[i]?)
      (first | exact hc2 | exact hc3 | exact hc4 | go_keep)
      (first
        | (go_at_call 68; (try rw [Hsum.out]); refine (putR_any q2 [ty] d2 ((l.length : Int) + 4) 4 _ (by simp) (Hi2.out.drewN 1)).mono ?_; rintro e w3 ⟨v3, rfl, ho3, hb3⟩; have H3 : Hid (MsW w w3 _ _ _ _ _) := Lib.hid (H2.out.drew.step hb3); have hc3 : ∀ i, w3.cell? ⟨w.heap.size, i, none⟩ = (#[.int .u8 (x : Int), .slice p l.length c] : Array Value)[i]? := (by have := H3.out.blk.cell; rw [HX.out] at this; exact this); have hpl3 := Hpl.out [ty]; have Ho3 : Hid (OwnBR w2.heap.size w3 v3 (putV [ty] ((l.length : Int) + 4) 4)) := Lib.hid (OwnBR.of ho3); have hs3 : w2.heap.size ≤ w3.heap.size := hb3.size; (try simp only [List.length_cons] at hpl3); simp only [List.length_nil] at hpl3; clear hb3 ho3)
        | (refine rgn_appendBR rfl (.tmp 17) (.tmp 19) rfl w2.heap.size _ _ rfl Ho3.out _ l _ _ rfl rfl H3.out.inn (by omega) hs3 ?_; intro v4 w4 ho4 hg4 _; have hc4 : ∀ i, w4.cell? ⟨w.heap.size, i, none⟩ = (#[.int .u8 (x : Int), .slice p l.length c] : Array Value)[i]? := (fun i => (cell_grown hg4 (by omega) (fun e => by have := (Ho3.out.row _ e.symm).1; omega)).trans (hc3 i))))
    have hw : Below w.heap.size w w4 := H3.out.bel.trans (Below.of_row hg4 H3.out.bel.size (fun k hk => by have := (Ho3.out.row k hk).1; omega))
    have Hw := Lib.hid hw
    have Ho4 := Lib.hid ho4
    clear hw ho4 hg4 hc2 hc3 hc4
    go_wp2
    go_ret
    refine ⟨_, rfl, ?_, Hw.out⟩
    rw [Hm2.out]
    exact OwnR.base Ho4.out (by omega)

end Go.Proofs.Ytacnmdlefonjmaa

/-
  First messages (layer 5): the document's Parse.
-/
namespace Go.Proofs.Ytacnmdlefonjmaa
open Go.RowKit
set_option linter.unusedVariables false
set_option linter.unusedSimpArgs false

end Go.Proofs.Ytacnmdlefonjmaa

/-
  First messages (layer 5): the user; whether two are the same; pairs that may be told.
-/
namespace Go.Proofs.Ytacnmdlefonjmaa
open Go.RowKit
set_option linter.unusedVariables false
set_option linter.unusedSimpArgs false

theorem pr_at {S : Nat → Prop} {w : World} {p : Option Addr} {n c k : Nat} {xs : List PrV} (h : SliceS 2 PrS S w [.slice p n c] xs) (hk : k < xs.length) :
    ∃ b o, p = some ⟨b, o, none⟩ ∧ S b ∧ b < w.heap.size ∧ w.cell? ⟨b, o + k * 2, none⟩ = some (.string xs[k].name) ∧ w.cell? ⟨b, o + k * 2 + 1, none⟩ = some (.string xs[k].value) := by
  obtain ⟨b, o, cs, rfl, hS, hb, _, hc, rfl⟩ := h.elem (by omega) k xs[k] (List.getElem?_eq_getElem hk)
  have c0 := hc 0 _ rfl
  rw [Nat.add_zero] at c0
  exact ⟨b, o, rfl, hS, hb, c0, hc 1 _ rfl⟩

def isUser (x : PrV) : Bool := x.name.toList == [117, 115, 101, 114]
def fairV (x : PrV) : Bool := !x.name.toList.isEmpty && (cleanB x.name && cleanB x.value)
def unfairV (x : PrV) : Bool := !fairV x

/-- The first user's value. -/
def userV (L : List PrV) : ByteArray := ((L[aheadG isUser L]?).map PrV.value).getD ⟨#[]⟩
theorem userV_at {L : List PrV} {k : Nat} (hk : k < L.length) (h : aheadG isUser L = k) : userV L = L[k].value := by
  unfold userV
  rw [h, List.getElem?_eq_getElem hk]
  rfl
theorem userV_none {L : List PrV} (h : aheadG isUser L = L.length) : userV L = ⟨#[]⟩ := by
  unfold userV
  rw [h, List.getElem?_eq_none (Nat.le_refl _)]
  rfl

/-- A first message in a block. -/
theorem hel_box {S : Nat → Prop} {w : World} {h : HelV} {p : Option Addr} {c : Nat} (hs : SliceS 2 PrS S w [.slice p h.params.length c] h.params) :
    Blk (w.alloc (.cells (helCells h p c) 64)) w.heap.size 64 (helCells h p c) ∧ SliceS 2 PrS S (w.alloc (.cells (helCells h p c) 64)) [.slice p h.params.length c] h.params ∧ Below w.heap.size w (w.alloc (.cells (helCells h p c) 64)) :=
  ⟨Blk.new _ _ _, hs.below PrS.still ((Below.refl _ _).alloc (Nat.le_refl _) _), (Below.refl _ _).alloc (Nat.le_refl _) _⟩

end Go.Proofs.Ytacnmdlefonjmaa

/-
  First messages (layer 5): whether two are the same.
-/
namespace Go.Proofs.Ytacnmdlefonjmaa
open Go.RowKit
set_option linter.unusedVariables false
set_option linter.unusedSimpArgs false

def prEq (a b : PrV) : Bool := (a.name.toList == b.name.toList) && (a.value.toList == b.value.toList)
theorem prEq_self (a : PrV) : prEq a a = true := by simp [prEq]
theorem neq_pr (x y : PrV) (w : World) : (binOp .neq 117 (.agg #[.string x.name, .string x.value]) (.agg #[.string y.name, .string y.value])).run Try.prog w = .ok (.bool (!prEq x y)) w := by
  have hS : Try.prog.underlying 117 = some (.struct (Try.prog.fieldsOf 117)) := by kernel_rfl
  have hp : Try.prog.stoodInHeld 117 = false := by kernel_rfl
  have u2 := Try.underlying9
  have a2 := Try.isAgg9
  have z2 := Try.sizeOf9
  rw [run_neq_struct, show (10000 : Nat) = 9999 + 1 from rfl, run_equalIn_agg w 9999 117 _ _ hS hp]
  simp only [Program.fieldsOf, Try.underlying117]
  unfold prEq
  obtain ⟨x1, x2⟩ := x
  obtain ⟨y1, y2⟩ := y
  go_simp
  by_cases h1 : x1.toList = y1.toList <;> by_cases h2 : x2.toList = y2.toList <;> simp [h1, h2]

/-- Two first messages are the same. -/
def helEq (a b : HelV) : Bool := (a.code == b.code) && ((a.process == b.process) && ((a.secret == b.secret) && listEq prEq a.params b.params))

end Go.Proofs.Ytacnmdlefonjmaa

/-
  First messages (layer 5): whether one may be told, both.
-/
namespace Go.Proofs.Ytacnmdlefonjmaa
open Go.RowKit
set_option linter.unusedVariables false
set_option linter.unusedSimpArgs false

def unsigV (n : Int) : Bool := decide (0 ≤ n) && rightB n 4
def noneV (h : HelV) : Bool := (h.process == 0) && (h.secret == 0)
/-- Whether a message may be told, but for its pairs. -/
def kindV (h : HelV) : Bool :=
  if h.code = 196608 then noneV h
  else if h.code = 80877103 then noneV h && ((h.params.length : Int) == 0)
  else if h.code = 80877102 then ((h.params.length : Int) == 0) && (unsigV h.process && unsigV h.secret)
  else false
def mayV (h : HelV) : Bool := !(h.params.any unfairV) && kindV h

theorem any_unfair {L : List PrV} {k : Nat} (hk : k < L.length) (h : unfairV L[k] = true) : L.any unfairV = true := List.any_eq_true.2 ⟨_, List.getElem_mem hk, h⟩
theorem any_fair : ∀ {L : List PrV}, (∀ k (hk : k < L.length), unfairV L[k] = false) → L.any unfairV = false := by
  intro L h
  rw [List.any_eq_false]
  intro x hx
  obtain ⟨k, hk, rfl⟩ := List.getElem_of_mem hx
  rw [h k hk]
  decide

set_option maxRecDepth 100000 in
set_option maxHeartbeats 4000000 in
theorem rmay_any (S : Nat → Prop) (h : HelV) (p : Option Addr) (c : Nat) (w : World) (hs : SliceS 2 PrS S w [.slice p h.params.length c] h.params) (hsz : ∀ x ∈ h.params, x.name.size ≤ 100000 ∧ x.value.size ≤ 100000) :
    Calls Try.prog 67 #[helArg h p c] w fun e w' => e = .returned (.bool (mayV h)) ∧ Below w.heap.size w w' := by
  obtain ⟨hb, hs1, hw⟩ := hel_box hs
  have Hw := Lib.hid hw
  have Hs1 := Lib.hid hs1
  have Hb := Lib.hid hb
  have Hsz := Lib.hid hsz
  have Hm : Hid (mayV h = (!(h.params.any unfairV) && kindV h)) := Lib.hid rfl
  have Hk : Hid (kindV h = if h.code = 196608 then (h.process == 0) && (h.secret == 0) else if h.code = 80877103 then ((h.process == 0) && (h.secret == 0)) && ((h.params.length : Int) == 0) else if h.code = 80877102 then ((h.params.length : Int) == 0) && ((decide (0 ≤ h.process) && rightB h.process 4) && (decide (0 ≤ h.secret) && rightB h.secret 4)) else false) := Lib.hid rfl
  generalize mayV h = mv at *
  generalize kindV h = kv at *
  obtain ⟨hc0, hc1, hc2, L⟩ := h
  dsimp only at *
  obtain ⟨-, hlc, hcm⟩ := hs.len
  unfold maxLen at hcm
  unfold helArg helCells at *
  dsimp only at *
  clear hs hs1 hb hw hsz
  go_enter Try.func67, Try.ntmps67
  go_upto_region 1 with (fail)
  have hlt := Hb.out.lt
  generalize w.alloc (.cells #[.int .i64 hc0, .int .i64 hc1, .int .i64 hc2, .slice p L.length c] 64) = w1 at *
  have hc := Hb.out.cell
  go_wp2_with fail
  go_loopw [3] (fun i wr => ∃ k : Nat, k ≤ L.length ∧ i = .int .i64 k ∧ (∀ j (hj : j < L.length), j < k → unfairV L[j] = false) ∧ wr = w1) (fun i _ => L.length - (intOf i).toNat)
  case atStart => exact ⟨0, Nat.zero_le _, rfl, (fun j _ h => by omega), rfl⟩
  case round =>
    obtain ⟨k, hk, rfl, hall, rfl⟩ := hrel
    have Hall := Lib.hid hall
    clear hall
    by_cases hltk : k < L.length
    · obtain ⟨b, o, rfl, hS, hbl, c0, c1⟩ := pr_at Hs1.out hltk
      have hz := Hsz.out L[k] (List.getElem_mem hltk)
      have Hbad := Lib.hid (any_unfair (L := L) hltk)
      have Hgood := Lib.hid (fun h : unfairV L[k] = false => (fun j (hj : j < L.length) (hjk : j < k + 1) => by
        by_cases e : j = k
        · subst e; exact h
        · exact Hall.out j hj (by omega) : ∀ j (hj : j < L.length), j < k + 1 → unfairV L[j] = false))
      have Hx : Hid (unfairV L[k] = !(!L[k].name.toList.isEmpty && (cleanB L[k].name && cleanB L[k].value))) := Lib.hid rfl
      clear hS
      have Hc1 := Lib.hid (cleanR_any L[k].name wr (by unfold maxLen; omega))
      have Hc2 := Lib.hid (cleanR_any L[k].value wr (by unfold maxLen; omega))
      generalize cleanB L[k].name = b1 at *
      generalize cleanB L[k].value = b2 at *
      generalize unfairV L[k] = uf at *
      generalize L[k] = x at *
      have hlti : (k : Int) < (L.length : Int) := by omega
      clear hz
      cases he : x.name.toList.isEmpty with
      | true =>
        have Hb2 := Lib.hid (Hbad.out (by rw [Hx.out, he]; rfl))
        go_wp2_with fail
        go_ret
        exact ⟨ret_bool (by rw [Hm.out, Hb2.out]; rfl), Hw.out⟩
      | false =>
        cases b1 with
        | false =>
          have Hb2 := Lib.hid (Hbad.out (by rw [Hx.out, he]; rfl))
          go_wp2_with fail
          refine Hc1.out.mono ?_
          rintro e w3 ⟨rfl, rfl⟩
          go_wp2_with fail
          go_ret
          exact ⟨ret_bool (by rw [Hm.out, Hb2.out]; rfl), Hw.out⟩
        | true =>
          cases b2 with
          | false =>
            have Hb2 := Lib.hid (Hbad.out (by rw [Hx.out, he]; rfl))
            go_wp2_with fail
            refine Hc1.out.mono ?_
            rintro e w3 ⟨rfl, rfl⟩
            go_wp2_with fail
            refine Hc2.out.mono ?_
            rintro e w3 ⟨rfl, rfl⟩
            go_wp2_with fail
            go_ret
            exact ⟨ret_bool (by rw [Hm.out, Hb2.out]; rfl), Hw.out⟩
          | true =>
            have Hg2 := Lib.hid (Hgood.out (by rw [Hx.out, he]; rfl))
            go_wp2_with fail
            refine Hc1.out.mono ?_
            rintro e w3 ⟨rfl, rfl⟩
            go_wp2_with fail
            refine Hc2.out.mono ?_
            rintro e w3 ⟨rfl, rfl⟩
            go_wp2_with fail
            go_roundw
            case rel => exact ⟨k + 1, by omega, by go_num, Hg2.out, by first | rfl | trivial⟩
            case measure => simp [intOf]; omega
    · obtain rfl : k = L.length := by omega
      have Hun := Lib.hid (any_fair (fun j hj => Hall.out j hj hj))
      rw [Hun.out] at Hm
      clear Hall Hsz
      simp only [Bool.not_false, Bool.true_and] at Hm
      clear hltk hk Hun
      by_cases k1 : hc0 = 196608
      · have Hk2 := Lib.hid (Hk.out.trans (if_pos k1))
        subst k1
        clear Hk
        go_wp2_with fail
        all_goals
          go_ret
          refine ⟨ret_bool ?_, Hw.out⟩
          rw [Hm.out, Hk2.out]
          simp_all [bne]
      · have g1 : (hc0 == 196608) = false := by simpa using k1
        by_cases k2 : hc0 = 80877103
        · have Hk2 := Lib.hid (Hk.out.trans ((if_neg k1).trans (if_pos k2)))
          subst k2
          clear Hk k1
          go_wp2_with fail
          all_goals
            go_ret
            refine ⟨ret_bool ?_, Hw.out⟩
            rw [Hm.out, Hk2.out]
            simp_all [bne]
        · have g2 : (hc0 == 80877103) = false := by simpa using k2
          by_cases k3 : hc0 = 80877102
          · have Hk2 := Lib.hid (Hk.out.trans ((if_neg k1).trans ((if_neg k2).trans (if_pos k3))))
            subst k3
            clear Hk k1 k2
            have Hr1 := Lib.hid (rightR_any hc1 4 wr)
            have Hr2 := Lib.hid (rightR_any hc2 4 wr)
            generalize rightB hc1 4 = r1 at *
            generalize rightB hc2 4 = r2 at *
            by_cases hp : hc1 = 0
            · subst hp
              by_cases hn0 : (L.length : Int) = 0
              · have hnn : ((L.length : Int) == 0) = true := by simpa using hn0
                rw [hnn] at Hk2
                clear hn0
                by_cases q1 : (0 : Int) ≤ 0
                · rw [decide_eq_true q1] at Hk2
                  by_cases q2 : 0 ≤ hc2
                  · rw [decide_eq_true q2] at Hk2
                    cases r1 with
                    | false =>
                      go_wp2_with fail
                      refine Hr1.out.mono ?_
                      rintro e w3 ⟨rfl, rfl⟩
                      go_wp2_with fail
                      go_ret
                      exact ⟨ret_bool (by rw [Hm.out, Hk2.out]; simp), Hw.out⟩
                    | true =>
                      go_wp2_with fail
                      refine Hr1.out.mono ?_
                      rintro e w3 ⟨rfl, rfl⟩
                      go_wp2_with fail
                      refine Hr2.out.mono ?_
                      rintro e w3 ⟨rfl, rfl⟩
                      go_wp2_with fail
                      go_ret
                      exact ⟨ret_bool (by rw [Hm.out, Hk2.out]; simp), Hw.out⟩
                  · rw [decide_eq_false q2] at Hk2
                    go_wp2_with fail
                    all_goals
                      go_ret
                      exact ⟨ret_bool (by rw [Hm.out, Hk2.out]; simp), Hw.out⟩
                · exact absurd (Int.le_refl 0) q1
              · have hnn : ((L.length : Int) == 0) = false := by simpa using hn0
                rw [hnn] at Hk2
                clear hn0
                go_wp2_with fail
                all_goals
                  go_ret
                  exact ⟨ret_bool (by rw [Hm.out, Hk2.out]; simp), Hw.out⟩
            · have hpb : (hc1 == 0) = false := by simpa using hp
              clear hp
              by_cases hn0 : (L.length : Int) = 0
              · have hnn : ((L.length : Int) == 0) = true := by simpa using hn0
                rw [hnn] at Hk2
                clear hn0
                by_cases q1 : 0 ≤ hc1
                · rw [decide_eq_true q1] at Hk2
                  by_cases q2 : 0 ≤ hc2
                  · rw [decide_eq_true q2] at Hk2
                    cases r1 with
                    | false =>
                      go_wp2_with fail
                      refine Hr1.out.mono ?_
                      rintro e w3 ⟨rfl, rfl⟩
                      go_wp2_with fail
                      go_ret
                      exact ⟨ret_bool (by rw [Hm.out, Hk2.out]; simp), Hw.out⟩
                    | true =>
                      go_wp2_with fail
                      refine Hr1.out.mono ?_
                      rintro e w3 ⟨rfl, rfl⟩
                      go_wp2_with fail
                      refine Hr2.out.mono ?_
                      rintro e w3 ⟨rfl, rfl⟩
                      go_wp2_with fail
                      go_ret
                      exact ⟨ret_bool (by rw [Hm.out, Hk2.out]; simp), Hw.out⟩
                  · rw [decide_eq_false q2] at Hk2
                    go_wp2_with fail
                    all_goals
                      go_ret
                      exact ⟨ret_bool (by rw [Hm.out, Hk2.out]; simp), Hw.out⟩
                · rw [decide_eq_false q1] at Hk2
                  go_wp2_with fail
                  all_goals
                    go_ret
                    exact ⟨ret_bool (by rw [Hm.out, Hk2.out]; simp), Hw.out⟩
              · have hnn : ((L.length : Int) == 0) = false := by simpa using hn0
                rw [hnn] at Hk2
                clear hn0
                go_wp2_with fail
                all_goals
                  go_ret
                  exact ⟨ret_bool (by rw [Hm.out, Hk2.out]; simp), Hw.out⟩
          · have g3 : (hc0 == 80877102) = false := by simpa using k3
            have Hk2 := Lib.hid (Hk.out.trans ((if_neg k1).trans ((if_neg k2).trans (if_neg k3))))
            clear Hk k1 k2 k3
            go_wp2_with fail
            all_goals
              go_ret
              exact ⟨ret_bool (by rw [Hm.out, Hk2.out]), Hw.out⟩

end Go.Proofs.Ytacnmdlefonjmaa

/-
  First messages (layer 5): the body of a message: plain laws; the program's Build.
-/
namespace Go.Proofs.Ytacnmdlefonjmaa
open Go.RowKit
set_option linter.unusedVariables false
set_option linter.unusedSimpArgs false

def prB (x : PrV) : List UInt8 := (x.name.data.toList ++ [0]) ++ (x.value.data.toList ++ [0])
def parsB (L : List PrV) : List UInt8 := (L.map prB).flatten
theorem parsB_take {L : List PrV} {k : Nat} (hk : k < L.length) : parsB (L.take (k + 1)) = parsB (L.take k) ++ prB L[k] := by
  unfold parsB
  rw [List.take_succ_eq_append_getElem hk, List.map_append, List.flatten_append]
  simp
theorem parsB_le (L : List PrV) (k : Nat) : (parsB (L.take k)).length ≤ (parsB L).length := by
  have h : parsB L = parsB (L.take k) ++ parsB (L.drop k) := by
    unfold parsB
    rw [← List.flatten_append, ← List.map_append, List.take_append_drop]
  rw [h, List.length_append]
  omega
theorem parsB_all (L : List PrV) : parsB (L.take L.length) = parsB L := by rw [List.take_length]
theorem parsB_many : ∀ L : List PrV, 2 * L.length ≤ (parsB L).length
  | [] => by simp
  | x :: L => by
    have := parsB_many L
    unfold parsB at *
    rw [List.map_cons, List.flatten_cons, List.length_append, List.length_cons]
    have : 2 ≤ (prB x).length := by unfold prB; simp; omega
    omega

/-- The bytes of a message that may be told. -/
def bodyV (h : HelV) : List UInt8 :=
  if h.code = 80877102 then putV (putV (putV [] h.code 4) h.process 4) h.secret 4
  else if h.code = 196608 then (putV [] h.code 4 ++ parsB h.params) ++ [0]
  else putV [] h.code 4
def buildV (h : HelV) : List UInt8 × Int := if mayV h = true then (bodyV h, 0) else ([], 1)

/-- What a pair's bytes are after so many texts. -/
def pieceB (x : PrV) : Nat → List UInt8
  | 0 => []
  | 1 => x.name.data.toList ++ [0]
  | _ => prB x

/-- What Build leaves. -/
def BuildR (h : HelV) (w : World) (e : Ending) (w' : World) : Prop :=
  ∃ v, e = .returned (.tuple #[v, .int .i64 (buildV h).2]) ∧ OwnBR w.heap.size w' v (buildV h).1 ∧ Below w.heap.size w w'

end Go.Proofs.Ytacnmdlefonjmaa

/-
  First messages (layer 5): hello.Build whole.
-/
namespace Go.Proofs.Ytacnmdlefonjmaa
open Go.RowKit
set_option linter.unusedVariables false
set_option linter.unusedSimpArgs false

theorem may_code {h : HelV} (hm : mayV h = true) : h.code = 196608 ∨ h.code = 80877102 ∨ h.code = 80877103 := by
  unfold mayV kindV at hm
  by_cases h1 : h.code = 196608
  · exact .inl h1
  · by_cases h2 : h.code = 80877102
    · exact .inr (.inl h2)
    · by_cases h3 : h.code = 80877103
      · exact .inr (.inr h3)
      · rw [if_neg h1, if_neg h3, if_neg h2] at hm
        simp at hm

end Go.Proofs.Ytacnmdlefonjmaa

