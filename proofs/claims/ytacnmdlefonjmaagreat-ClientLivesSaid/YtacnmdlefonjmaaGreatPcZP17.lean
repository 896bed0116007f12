/-
  Ground: RcC, RcD, RcE, HeG, HeH, RcF.
-/
import Derived.Test.YtacnmdlefonjmaaGreatPcZP15
import Derived.Test.YtacnmdlefonjmaaGreatPcZP16
import Derived.Test.YtacnmdlefonjmaaGreatPcZP1
import Derived.Laws.StructEq
import Derived.BigQuiet
import Derived.Deep.QuietTactic
import Derived.Deep.RegionLaw
import Derived.Deep.RegionWith
import Derived.Deep.RegionHeld3
import Derived.Test.YtacnmdlefonjmaaGreatPcZP5
/-
  The document's client (remudaref39): Peek (printed by gen_rcb.py).
-/
namespace Go.Proofs.YtacnmdlefonjmaaGreat
open Go.RowKit
set_option linter.unusedVariables false
set_option linter.unusedSimpArgs false

/-- What stays while Peek runs. -/
structure RpS (w0 w : World) (B cb sb : Nat) (hello : Bool) (L : List UInt8) (most room : Nat) (wrong : Int) (v : Value) (g : Nat) : Prop where
  blk : Blk w g 50 itZ
  cl : RcO B w cb sb hello L most room wrong v
  tch : Touch (fun i => i = sb) w0 w
  gz : g = w0.heap.size
  cl0 : cb < g
  sl0 : sb < g
  row : ∀ k, rowOf v = some k → k < g
section
variable {w0 w w' : World} {B cb sb : Nat} {hello : Bool} {L : List UInt8} {most room : Nat} {wrong wrong' : Int} {v : Value} {g : Nat}
theorem RpS.lt (h : RpS w0 w B cb sb hello L most room wrong v g) : g < w.heap.size := h.blk.lt
theorem RpS.step (h : RpS w0 w B cb sb hello L most room wrong v g) (hb : Below w.heap.size w w') : RpS w0 w' B cb sb hello L most room wrong v g :=
  ⟨h.blk.below hb h.lt, h.cl.still hb, h.tch.then (Touch.of_below (p := fun i => i = sb) hb) (fun _ _ e => e), h.gz, h.cl0, h.sl0, h.row⟩
theorem RpS.peek (h : RpS w0 w B cb sb hello L most room wrong v g) (hf : RfO B w' sb hello L most room wrong' v) (hT : Touch (fun i => i = sb) w w') : RpS w0 w' B cb sb hello L most room wrong' v g :=
  ⟨hT.blk h.blk (by have := h.sl0; omega), h.cl.step hf (fun _ e => .inl e) hT, h.tch.trans hT, h.gz, h.cl0, h.sl0, h.row⟩
theorem RpS.fin (h : RpS w0 w B cb sb hello L most room wrong v g) (hT : Touch (fun k => k = g) w w') : RcO B w' cb sb hello L most room wrong v ∧ Touch (fun i => i = sb) w0 w' :=
  ⟨h.cl.touch hT (by have := h.cl0; omega) (by have := h.sl0; omega) (fun k hk => by have := h.row k hk; omega), h.tch.then hT (fun i hi e => by have := h.gz; omega)⟩
end

set_option maxRecDepth 100000 in
set_option maxHeartbeats 8000000 in
theorem rcPeek_any (B cb sb : Nat) (hello : Bool) (L : List UInt8) (most room : Nat) (wrong : Int) (v : Value) (w : World) (h : RcO B w cb sb hello L most room wrong v) (hL : L.length ≤ 262144) (hm : most ≤ 65536) :
    Calls Tryz.prog 13 #[.pointer (some ⟨cb, 0, none⟩)] w fun e w' => ItE w.heap.size (peekV (!hello) most L wrong) e w' ∧ RcO B w' cb sb hello L most room (wrongL (!hello) most L wrong) v ∧ Touch (fun i => i = sb) w w' := by
  have ha1 := (Below.refl w.heap.size w).alloc (Nat.le_refl _) (.cells itZ 50)
  have h1 := h.still ha1
  have hc1 := h1.blk.cell
  have HF := Lib.hid (rfPeek_any B sb hello L most room wrong v _ h1.fr hL hm)
  have H1 : Hid (RpS w (w.alloc (.cells itZ 50)) B cb sb hello L most room wrong v w.heap.size) := Lib.hid ⟨rit_hz w, h1, Touch.of_below ha1, rfl, h.blk.lt, h.fr.blk.lt, fun k hk => (h.fr.own.row k hk).2⟩
  unfold itZ at *
  clear h h1 ha1
  obtain ⟨pk, hpk⟩ : ∃ pk, pk = peekV (!hello) most L wrong := ⟨_, rfl⟩
  obtain ⟨wl, hwl⟩ : ∃ wl, wl = wrongL (!hello) most L wrong := ⟨_, rfl⟩
  rw [← hpk, ← hwl]
  have Hpk := Lib.hid hpk
  have Hwl := Lib.hid hwl
  clear hpk hwl
  go_enter Tryz.func13, Tryz.ntmps13
  go_wp2_with fail
  generalize w.alloc (.cells #[.int .i64 0, .int .i64 0, .int .i64 0, .int .i64 0, .slice none 0 0, .int .u8 0, .int .u8 0, .string ⟨#[]⟩, .string ⟨#[]⟩, .string ⟨#[]⟩, .slice none 0 0, .slice none 0 0, .slice none 0 0, .slice none 0 0, .int .i64 0, .string ⟨#[]⟩, .string ⟨#[]⟩] 50) = w1 at *
  obtain ⟨g, hg0⟩ : ∃ g, g = w.heap.size := ⟨_, rfl⟩
  rw [← hg0] at H1 ⊢
  clear hg0
  refine HF.out.mono ?_
  rintro e w2 ⟨hP, hf2, hT2⟩
  rw [← Hwl.out] at hf2
  have H2 := Lib.hid (H1.out.peek hf2 hT2)
  clear hf2 hT2 HF H1 hc1
  rcases hP with ⟨hn, he⟩ | ⟨ty, b, r, q, d, hn, hw0, hw1, hhl, hrr, rfl, hby⟩
  · rw [← Hwl.out] at he
    subst he
    have Hpk : Hid (pk = itemV (!hello) false 0 [] wl) := Lib.hid (Hpk.out.trans ((peekV_none hn).1.trans (by rw [Hwl.out])))
    clear hn Hwl
    obtain ⟨er, her⟩ : ∃ er, er = wl := ⟨_, rfl⟩
    subst her
    have H3 := Lib.hid (H2.out.step ((Below.refl _ _).alloc (Nat.le_refl _) (.cells #[.int .u8 0, .slice none 0 0] 73)))
    clear H2
    by_cases he : er = 0
    · subst he
      have hpk : pk = itNo := Hpk.out.trans ((if_pos rfl).trans (if_neg (by simp)))
      subst hpk
      clear Hpk
      go_upto_region 5 with (fail)
      generalize w2.alloc (.cells #[.int .u8 0, .slice none 0 0] 73) = w3 at *
      go_wp2_with (refine wpList_store_rit _ rfl (.tmp 2) (.tmp 26) rfl g _ _ rfl rfl H3.out.blk rfl rfl (by simp [Value.oneCell']) ?_; intro w8 hb8 hT8; have HB8 := Lib.hid hb8; have HT8 := Lib.hid hT8; clear hb8 hT8)
      exact bodyPost_ret (v := .agg #[.int .i64 0, .int .i64 0, .int .i64 0, .int .i64 0, .slice none 0 0, .int .u8 0, .int .u8 0, .string ⟨#[]⟩, .string ⟨#[]⟩, .string ⟨#[]⟩, .slice none 0 0, .slice none 0 0, .slice none 0 0, .slice none 0 0, .int .i64 0, .string ⟨#[]⟩, .string ⟨#[]⟩]) (results_cell_row (fn := Tryz.f13) (p := 2) (by kernel_rfl) _ _ g _ _ (0, 0) _ rfl HB8.out Tryz.underlying50 rfl rit_info) rfl ⟨it_finE HT8.out itNo (none) (0) (foNil) (SliceS.empty none 0 (by simp [maxLen])) (FoL.zero _ _ 0), H3.out.fin HT8.out⟩
    · have Hpk : Hid (pk = faultV er) := Lib.hid (Hpk.out.trans (if_neg he))
      have heb : (er == 0) = false := by simpa using he
      have Hw := Lib.hid (fun W => rwrong_any er W)
      rw [← Hpk.out] at Hw
      go_wp2_with fail
      refine (Hw.out _).mono ?_
      rintro e w9 ⟨p9, c9, a9, rfl, hs9, hl9, hb9⟩
      have HP9 := Lib.hid (H3.out.step hb9)
      have Hs9 := Lib.hid (hs9.weak PrS.still (S' := fun j => w.heap.size ≤ j ∧ j ≠ g) (fun k hk hS => by have := H3.out.lt; have := H3.out.gz; omega))
      have Hl9 := Lib.hid (hl9.weak (S' := fun j => w.heap.size ≤ j ∧ j ≠ g) (fun k hk hS => by have := H3.out.lt; have := H3.out.gz; omega))
      clear hs9 hl9 hb9
      unfold itArg itCells
      go_wp2_with (refine wpList_store_rit _ rfl (.tmp 2) (.tmp 22) rfl g _ _ rfl rfl HP9.out.blk rfl rfl (by simp [Value.oneCell']) ?_; intro w8 hb8 hT8; have HB8 := Lib.hid hb8; have HT8 := Lib.hid hT8; clear hb8 hT8)
      exact bodyPost_ret (v := .agg #[.int .i64 pk.kind, .int .i64 pk.hel.code, .int .i64 pk.hel.process, .int .i64 pk.hel.secret, .slice p9 pk.hel.params.length c9, .int .u8 pk.front.kind, .int .u8 pk.front.what, .string pk.front.name, .string pk.front.portal, .string pk.front.text, .slice a9.po pk.front.oids.length a9.co, .slice a9.pf pk.front.formats.length a9.cf, .slice a9.pr pk.front.results.length a9.cr, .slice a9.pp pk.front.params.length a9.cp, .int .i64 pk.front.max, .string pk.code, .string pk.text]) (results_cell_row (fn := Tryz.f13) (p := 2) (by kernel_rfl) _ _ g _ _ (0, 0) _ rfl HB8.out Tryz.underlying50 rfl rit_info) rfl ⟨it_finE HT8.out pk (p9) (c9) (a9) Hs9.out Hl9.out, HP9.out.fin HT8.out⟩
  · obtain rfl : 0 = wl := (Hwl.out.trans hw1).symm
    clear Hwl
    have Hbd := Lib.hid (nextL_bd hn)
    have Hpk : Hid (pk = itemV (!hello) true (ty : Int) b 0) := Lib.hid (Hpk.out.trans (peekV_some hn).1)
    obtain ⟨q', d', e', -, -, hq, -⟩ := hby
    simp only [List.cons.injEq, Value.slice.injEq, and_true] at e'
    obtain ⟨rfl, -, rfl⟩ := e'
    have Hby := Lib.hid (hq.below ((Below.refl _ _).alloc (Nat.le_refl _) (.cells #[.int .u8 (ty : Nat), .slice q b.length d] 73)))
    have H3 := Lib.hid (H2.out.step ((Below.refl _ _).alloc (Nat.le_refl _) (.cells #[.int .u8 (ty : Nat), .slice q b.length d] 73)))
    have hm3 := (Blk.new w2 73 #[.int .u8 (ty : Nat), .slice q b.length d]).cell
    have hc3 := H3.out.cl.blk.cell
    have hf3 := H3.out.cl.fr.blk.cell
    have hbl : b.length ≤ 100000 := by have := Hbd.out.2; omega
    clear hn hw0 hw1 hhl hrr hq H2
    cases hello with
    | true =>
      have Hpk : Hid (pk = firstV b) := Lib.hid (Hpk.out.trans ((if_pos rfl).trans ((if_pos rfl).trans (if_neg (by simp)))))
      have Hp := Lib.hid (rparse_any q b d _ hbl Hby.out)
      go_upto_region 7 with (fail)
      generalize w2.alloc (.cells #[.int .u8 (ty : Nat), .slice q b.length d] 73) = w3 at *
      generalize w2.heap.size = gm at *
      go_wp2_with fail
      refine Hp.out.mono ?_
      rintro e w4 ⟨p, c, rfl, hs4, hb4⟩
      have H4 := Lib.hid (H3.out.step hb4)
      have Hs4 := Lib.hid (hs4.weak PrS.still (S' := fun j => w.heap.size ≤ j ∧ j ≠ g) (fun k hk hS => by have := H3.out.lt; have := H3.out.gz; omega))
      have Hpk : Hid (pk = if (parseV b).2 = 0 then ⟨1, (parseV b).1, foZero 0, ⟨#[]⟩, ⟨#[]⟩⟩ else faultV (parseV b).2) := Lib.hid Hpk.out
      clear hs4 hb4 Hp hm3 hc3 hf3 H3 Hby
      generalize (parseV b).1 = h at *
      generalize (parseV b).2 = er at *
      have ha5 := (Below.refl w4.heap.size w4).alloc (Nat.le_refl _) (.cells #[.int .i64 h.code, .int .i64 h.process, .int .i64 h.secret, .slice p h.params.length c] 42)
      have hh5 := (Blk.new w4 42 #[.int .i64 h.code, .int .i64 h.process, .int .i64 h.secret, .slice p h.params.length c]).cell
      have H5 := Lib.hid (H4.out.step ha5)
      have Hs5 := Lib.hid (Hs4.out.below PrS.still ha5)
      clear ha5 Hs4 H4
      unfold helArg helCells
      by_cases he : er = 0
      · subst he
        have hpk : pk = ⟨1, h, foZero 0, ⟨#[]⟩, ⟨#[]⟩⟩ := Hpk.out.trans (if_pos rfl)
        subst hpk
        clear Hpk
        go_upto_region 10 with (fail)
        generalize (w4.alloc (.cells #[.int .i64 h.code, .int .i64 h.process, .int .i64 h.secret, .slice p h.params.length c] 42)) = w5 at *
        go_wp2_with (refine wpList_store_rit _ rfl (.tmp 2) (.tmp 46) rfl g _ _ rfl rfl H5.out.blk rfl rfl (by simp [Value.oneCell']) ?_; intro w8 hb8 hT8; have HB8 := Lib.hid hb8; have HT8 := Lib.hid hT8; clear hb8 hT8)
        exact bodyPost_ret (v := .agg #[.int .i64 1, .int .i64 h.code, .int .i64 h.process, .int .i64 h.secret, .slice p h.params.length c, .int .u8 0, .int .u8 0, .string ⟨#[]⟩, .string ⟨#[]⟩, .string ⟨#[]⟩, .slice none 0 0, .slice none 0 0, .slice none 0 0, .slice none 0 0, .int .i64 0, .string ⟨#[]⟩, .string ⟨#[]⟩]) (results_cell_row (fn := Tryz.f13) (p := 2) (by kernel_rfl) _ _ g _ _ (0, 0) _ rfl HB8.out Tryz.underlying50 rfl rit_info) rfl ⟨it_finE HT8.out ⟨1, h, foZero 0, ⟨#[]⟩, ⟨#[]⟩⟩ (p) (c) (foNil) Hs5.out (FoL.zero _ _ 0), H5.out.fin HT8.out⟩
      · have Hpk : Hid (pk = faultV er) := Lib.hid (Hpk.out.trans (if_neg he))
        have heb : (er == 0) = false := by simpa using he
        have Hw := Lib.hid (fun W => rwrong_any er W)
        rw [← Hpk.out] at Hw
        go_wp2_with fail
        refine (Hw.out _).mono ?_
        rintro e w9 ⟨p9, c9, a9, rfl, hs9, hl9, hb9⟩
        have HP9 := Lib.hid (H5.out.step hb9)
        have Hs9 := Lib.hid (hs9.weak PrS.still (S' := fun j => w.heap.size ≤ j ∧ j ≠ g) (fun k hk hS => by have := H5.out.lt; have := H5.out.gz; omega))
        have Hl9 := Lib.hid (hl9.weak (S' := fun j => w.heap.size ≤ j ∧ j ≠ g) (fun k hk hS => by have := H5.out.lt; have := H5.out.gz; omega))
        clear hs9 hl9 hb9
        unfold itArg itCells
        go_wp2_with (refine wpList_store_rit _ rfl (.tmp 2) (.tmp 44) rfl g _ _ rfl rfl HP9.out.blk rfl rfl (by simp [Value.oneCell']) ?_; intro w8 hb8 hT8; have HB8 := Lib.hid hb8; have HT8 := Lib.hid hT8; clear hb8 hT8)
        exact bodyPost_ret (v := .agg #[.int .i64 pk.kind, .int .i64 pk.hel.code, .int .i64 pk.hel.process, .int .i64 pk.hel.secret, .slice p9 pk.hel.params.length c9, .int .u8 pk.front.kind, .int .u8 pk.front.what, .string pk.front.name, .string pk.front.portal, .string pk.front.text, .slice a9.po pk.front.oids.length a9.co, .slice a9.pf pk.front.formats.length a9.cf, .slice a9.pr pk.front.results.length a9.cr, .slice a9.pp pk.front.params.length a9.cp, .int .i64 pk.front.max, .string pk.code, .string pk.text]) (results_cell_row (fn := Tryz.f13) (p := 2) (by kernel_rfl) _ _ g _ _ (0, 0) _ rfl HB8.out Tryz.underlying50 rfl rit_info) rfl ⟨it_finE HT8.out pk (p9) (c9) (a9) Hs9.out Hl9.out, HP9.out.fin HT8.out⟩
    | false =>
      have Hpk : Hid (pk = messageV (ty : Int) b) := Lib.hid (Hpk.out.trans ((if_pos rfl).trans ((if_pos rfl).trans (if_pos rfl))))
      have Hp := Lib.hid (rdec_any (ty : Int) (by omega) (by have := Hbd.out.1; omega) q b d _ hbl Hby.out)
      go_upto_region 11 with (fail)
      generalize w2.alloc (.cells #[.int .u8 (ty : Nat), .slice q b.length d] 73) = w3 at *
      generalize w2.heap.size = gm at *
      go_wp2_with fail
      refine Hp.out.mono ?_
      rintro e w4 ⟨a, rfl, hs4, hb4⟩
      have H4 := Lib.hid (H3.out.step hb4)
      have Hs4 := Lib.hid (hs4.weak (S' := fun j => w.heap.size ≤ j ∧ j ≠ g) (fun k hk hS => by have := H3.out.lt; have := H3.out.gz; omega))
      have Hpk : Hid (pk = if (decF (ty : Int) b).2 = 0 then ⟨2, helNo, (decF (ty : Int) b).1, ⟨#[]⟩, ⟨#[]⟩⟩ else faultV (decF (ty : Int) b).2) := Lib.hid Hpk.out
      clear hs4 hb4 Hp hm3 hc3 hf3 H3 Hby
      generalize (decF (ty : Int) b).1 = f at *
      generalize (decF (ty : Int) b).2 = er at *
      have ha5 := (Below.refl w4.heap.size w4).alloc (Nat.le_refl _) (.cells #[.int .u8 f.kind, .int .u8 f.what, .string f.name, .string f.portal, .string f.text, .slice a.po f.oids.length a.co, .slice a.pf f.formats.length a.cf, .slice a.pr f.results.length a.cr, .slice a.pp f.params.length a.cp, .int .i64 f.max] 46)
      have hh5 := (Blk.new w4 46 #[.int .u8 f.kind, .int .u8 f.what, .string f.name, .string f.portal, .string f.text, .slice a.po f.oids.length a.co, .slice a.pf f.formats.length a.cf, .slice a.pr f.results.length a.cr, .slice a.pp f.params.length a.cp, .int .i64 f.max]).cell
      have H5 := Lib.hid (H4.out.step ha5)
      have Hs5 := Lib.hid (Hs4.out.below ha5)
      clear ha5 Hs4 H4
      unfold foArg foCells
      by_cases he : er = 0
      · subst he
        have hpk : pk = ⟨2, helNo, f, ⟨#[]⟩, ⟨#[]⟩⟩ := Hpk.out.trans (if_pos rfl)
        subst hpk
        clear Hpk
        go_upto_region 14 with (fail)
        generalize (w4.alloc (.cells #[.int .u8 f.kind, .int .u8 f.what, .string f.name, .string f.portal, .string f.text, .slice a.po f.oids.length a.co, .slice a.pf f.formats.length a.cf, .slice a.pr f.results.length a.cr, .slice a.pp f.params.length a.cp, .int .i64 f.max] 46)) = w5 at *
        go_wp2_with (refine wpList_store_rit _ rfl (.tmp 2) (.tmp 57) rfl g _ _ rfl rfl H5.out.blk rfl rfl (by simp [Value.oneCell']) ?_; intro w8 hb8 hT8; have HB8 := Lib.hid hb8; have HT8 := Lib.hid hT8; clear hb8 hT8)
        exact bodyPost_ret (v := .agg #[.int .i64 2, .int .i64 0, .int .i64 0, .int .i64 0, .slice none 0 0, .int .u8 f.kind, .int .u8 f.what, .string f.name, .string f.portal, .string f.text, .slice a.po f.oids.length a.co, .slice a.pf f.formats.length a.cf, .slice a.pr f.results.length a.cr, .slice a.pp f.params.length a.cp, .int .i64 f.max, .string ⟨#[]⟩, .string ⟨#[]⟩]) (results_cell_row (fn := Tryz.f13) (p := 2) (by kernel_rfl) _ _ g _ _ (0, 0) _ rfl HB8.out Tryz.underlying50 rfl rit_info) rfl ⟨it_finE HT8.out ⟨2, helNo, f, ⟨#[]⟩, ⟨#[]⟩⟩ (none) (0) (a) (SliceS.empty none 0 (by simp [maxLen])) Hs5.out, H5.out.fin HT8.out⟩
      · have Hpk : Hid (pk = faultV er) := Lib.hid (Hpk.out.trans (if_neg he))
        have heb : (er == 0) = false := by simpa using he
        have Hw := Lib.hid (fun W => rwrong_any er W)
        rw [← Hpk.out] at Hw
        go_wp2_with fail
        refine (Hw.out _).mono ?_
        rintro e w9 ⟨p9, c9, a9, rfl, hs9, hl9, hb9⟩
        have HP9 := Lib.hid (H5.out.step hb9)
        have Hs9 := Lib.hid (hs9.weak PrS.still (S' := fun j => w.heap.size ≤ j ∧ j ≠ g) (fun k hk hS => by have := H5.out.lt; have := H5.out.gz; omega))
        have Hl9 := Lib.hid (hl9.weak (S' := fun j => w.heap.size ≤ j ∧ j ≠ g) (fun k hk hS => by have := H5.out.lt; have := H5.out.gz; omega))
        clear hs9 hl9 hb9
        unfold itArg itCells
        go_wp2_with (refine wpList_store_rit _ rfl (.tmp 2) (.tmp 55) rfl g _ _ rfl rfl HP9.out.blk rfl rfl (by simp [Value.oneCell']) ?_; intro w8 hb8 hT8; have HB8 := Lib.hid hb8; have HT8 := Lib.hid hT8; clear hb8 hT8)
        exact bodyPost_ret (v := .agg #[.int .i64 pk.kind, .int .i64 pk.hel.code, .int .i64 pk.hel.process, .int .i64 pk.hel.secret, .slice p9 pk.hel.params.length c9, .int .u8 pk.front.kind, .int .u8 pk.front.what, .string pk.front.name, .string pk.front.portal, .string pk.front.text, .slice a9.po pk.front.oids.length a9.co, .slice a9.pf pk.front.formats.length a9.cf, .slice a9.pr pk.front.results.length a9.cr, .slice a9.pp pk.front.params.length a9.cp, .int .i64 pk.front.max, .string pk.code, .string pk.text]) (results_cell_row (fn := Tryz.f13) (p := 2) (by kernel_rfl) _ _ g _ _ (0, 0) _ rfl HB8.out Tryz.underlying50 rfl rit_info) rfl ⟨it_finE HT8.out pk (p9) (c9) (a9) Hs9.out Hl9.out, HP9.out.fin HT8.out⟩

end Go.Proofs.YtacnmdlefonjmaaGreat

/-
  The document's client (remudaref39): Take (printed by gen_rcb.py).
-/
namespace Go.Proofs.YtacnmdlefonjmaaGreat
open Go.RowKit
set_option linter.unusedVariables false
set_option linter.unusedSimpArgs false

theorem wrongL_idem (t : Bool) (most : Nat) (L : List UInt8) (wrong : Int) : nextL t most L (wrongL t most L wrong) = nextL t most L wrong ∧ wrongL t most L (wrongL t most L wrong) = wrongL t most L wrong := by
  obtain ⟨n, b, r, hwh⟩ : ∃ n b r, frWhole t L most wrong = (n, b, r) := ⟨_, _, _, rfl⟩
  have hr : wrongL t most L wrong = r := by unfold wrongL; rw [hwh]
  rw [hr]
  by_cases h0 : r = wrong
  · rw [h0]
    exact ⟨rfl, by rw [hr, h0]⟩
  · have hw : wrong = 0 := Classical.byContradiction fun hw => by
      unfold frWhole at hwh
      rw [if_pos hw] at hwh
      simp only [Prod.mk.injEq] at hwh
      exact h0 hwh.2.2.symm
    subst hw
    have hb : b = false := by
      cases b with
      | false => rfl
      | true => exact absurd (frWhole_yes hwh).2.1 h0
    subst hb
    obtain ⟨n2, b2, r2, hw2⟩ : ∃ n' b' r', frWhole t L most r = (n', b', r') := ⟨_, _, _, rfl⟩
    have h2 := hw2
    unfold frWhole at hw2
    rw [if_pos h0] at hw2
    simp only [Prod.mk.injEq] at hw2
    obtain ⟨-, rfl, rfl⟩ := hw2
    refine ⟨?_, ?_⟩
    · unfold nextL
      rw [h2, hwh]
      rfl
    · unfold wrongL
      rw [h2]
theorem restL_idem (t : Bool) (most : Nat) (L : List UInt8) (wrong : Int) : restL t most L (wrongL t most L wrong) = restL t most L wrong := by
  unfold restL
  rw [(wrongL_idem t most L wrong).1]

set_option maxRecDepth 100000 in
set_option maxHeartbeats 8000000 in
theorem rcTake_any (B cb sb : Nat) (hello : Bool) (L : List UInt8) (most room : Nat) (wrong : Int) (v : Value) (w : World) (h : RcO B w cb sb hello L most room wrong v) (hL : L.length ≤ 262144) (hm : most ≤ 65536) :
    Calls Tryz.prog 15 #[.pointer (some ⟨cb, 0, none⟩)] w fun e w' => ItE w.heap.size (peekV (!hello) most L wrong) e w' ∧ ∃ v', RcO B w' cb sb hello (restL (!hello) most L wrong) most room (wrongL (!hello) most L wrong) v' ∧ (∀ k, rowOf v' = some k → rowOf v = some k ∨ w.heap.size ≤ k) ∧ Touch (fun i => i = sb) w w' := by
  have ha1 := (Below.refl w.heap.size w).alloc (Nat.le_refl _) (.cells itZ 50)
  have h1 := h.still ha1
  have HF := Lib.hid (rcPeek_any B cb sb hello L most room wrong v _ h1 hL hm)
  have HBg := Lib.hid (rit_hz w)
  have HT1 : Hid (Touch (fun i => i = sb) w (w.alloc (.cells itZ 50))) := Lib.hid (Touch.of_below ha1)
  have Hlt : Hid (cb < w.heap.size ∧ sb < w.heap.size ∧ B ≤ w.heap.size ∧ ∀ k, rowOf v = some k → k < w.heap.size) := Lib.hid ⟨h.blk.lt, h.fr.blk.lt, by have := h.cB; have := h.blk.lt; omega, fun k hk => (h.fr.own.row k hk).2⟩
  have hz1 : (w.alloc (.cells itZ 50)).heap.size = w.heap.size + 1 := by simp
  unfold itZ at *
  clear h h1 ha1
  obtain ⟨pk, hpk⟩ : ∃ pk, pk = peekV (!hello) most L wrong := ⟨_, rfl⟩
  obtain ⟨wl, hwl⟩ : ∃ wl, wl = wrongL (!hello) most L wrong := ⟨_, rfl⟩
  obtain ⟨rs, hrs⟩ : ∃ rs, rs = restL (!hello) most L wrong := ⟨_, rfl⟩
  rw [← hpk, ← hwl, ← hrs]
  rw [← hpk, ← hwl] at HF
  have HN := Lib.hid (fun W h hB => rfNext_any B sb hello L most room wl v W h hL hm hB)
  have hrw : restL (!hello) most L wl = rs ∧ wrongL (!hello) most L wl = wl := by
    rw [hwl, hrs]
    exact ⟨restL_idem _ _ _ _, (wrongL_idem _ _ _ _).2⟩
  rw [hrw.1, hrw.2] at HN
  clear hpk hwl hrs hrw
  go_enter Tryz.func15, Tryz.ntmps15
  go_wp2_with fail
  generalize w.alloc (.cells #[.int .i64 0, .int .i64 0, .int .i64 0, .int .i64 0, .slice none 0 0, .int .u8 0, .int .u8 0, .string ⟨#[]⟩, .string ⟨#[]⟩, .string ⟨#[]⟩, .slice none 0 0, .slice none 0 0, .slice none 0 0, .slice none 0 0, .int .i64 0, .string ⟨#[]⟩, .string ⟨#[]⟩] 50) = w1 at *
  have Hz1 := Lib.hid hz1
  obtain ⟨g, hg0⟩ : ∃ g, g = w.heap.size := ⟨_, rfl⟩
  have Hg := Lib.hid hg0
  rw [← hg0] at HBg ⊢
  clear hg0 hz1
  refine HF.out.mono ?_
  rintro e w2 ⟨⟨p, c, a, rfl, hs, hl⟩, h2, hT2⟩
  have Hz2 : Hid (w.heap.size < w2.heap.size) := Lib.hid (by have := hT2.size; have := Hz1.out; omega)
  have HBg := Lib.hid ((hT2.blk HBg.out (by have := Hg.out; have := Hlt.out.2.1; omega)).alloc (.cells itZ 50))
  have H2 := Lib.hid (h2.still ((Below.refl _ _).alloc (Nat.le_refl _) (.cells itZ 50)))
  have HT2 := Lib.hid ((HT1.out.trans hT2).alloc (.cells itZ 50))
  have Hs2 := Lib.hid ((hs.weak PrS.still (S' := fun j => w.heap.size < j ∧ j ≠ w2.heap.size) (fun k hk hS => by have := Hz1.out; omega)).below PrS.still ((Below.refl _ _).alloc (Nat.le_refl _) (.cells itZ 50)))
  have Hl2 := Lib.hid ((hl.weak (S' := fun j => w.heap.size < j ∧ j ≠ w2.heap.size) (fun k hk hS => by have := Hz1.out; omega)).below ((Below.refl _ _).alloc (Nat.le_refl _) (.cells itZ 50)))
  have HB2 := Lib.hid (rit_hz w2)
  have hza : (w2.alloc (.cells itZ 50)).heap.size = w2.heap.size + 1 := by simp
  unfold itZ at HBg H2 HT2 Hs2 Hl2 HB2 hza
  clear h2 hT2 hs hl HF HT1
  unfold itArg itCells
  go_wp2_with (refine wpList_store_rit _ rfl (.tmp 3) (.tmp 5) rfl _ _ _ rfl rfl HB2.out rfl rfl (by simp [Value.oneCell']) ?_; intro w3 hb3 hT3; have HB3 := Lib.hid hb3; have HT3 := Lib.hid hT3; have H3 : Hid (RcO B w3 cb sb hello L most room wl v) := Lib.hid (H2.out.touch hT3 (by have := Hlt.out.1; have := Hz2.out; omega) (by have := Hlt.out.2.1; have := Hz2.out; omega) (fun k hk => by have := Hlt.out.2.2.2 k hk; have := Hz2.out; omega)); have hc3 := H3.out.blk.cell; have Hz3 : Hid (w2.heap.size < w3.heap.size) := Lib.hid (by have := hT3.size; omega); clear hb3 hT3)
  refine (HN.out w3 H3.out.fr (by have := Hlt.out.2.2.1; have := Hz2.out; have := Hz3.out; omega)).mono ?_
  rintro e w4 ⟨⟨u, rfl⟩, v', hf4, hr4, hT4⟩
  have H4 := Lib.hid (H3.out.step hf4 hr4 hT4)
  have hls : sb < w.heap.size := Hlt.out.2.1
  have HBg := Lib.hid (hT4.blk (HT3.out.blk HBg.out (by have := Hg.out; have := Hz2.out; omega)) (by have := Hg.out; omega))
  have HB4 := Lib.hid (hT4.blk HB3.out (by have := Hz2.out; omega))
  have Hs4 := Lib.hid ((SliceS.still PrS.still) _ _ _ _ _ _ ((SliceS.still PrS.still) _ _ _ _ _ _ Hs2.out (Kept.touch HT3.out (fun j _ h => ⟨h, by have := h.2; omega⟩))) (Kept.touch hT4 (S' := fun j => w.heap.size ≤ j ∧ j ≠ g) (fun j _ h => ⟨⟨by omega, by have := Hg.out; omega⟩, by omega⟩)))
  have Hl4 := Lib.hid ((Hl2.out.keep (Kept.touch HT3.out (fun j _ h => ⟨h, by have := h.2; omega⟩))).keep (Kept.touch hT4 (S' := fun j => w.heap.size ≤ j ∧ j ≠ g) (fun j _ h => ⟨⟨by omega, by have := Hg.out; omega⟩, by omega⟩)))
  have HT4 := Lib.hid ((HT2.out.then HT3.out (fun i hi e => by have := Hz2.out; omega)).trans hT4)
  have Hr4 : Hid (∀ k, rowOf v' = some k → rowOf v = some k ∨ w.heap.size ≤ k) := Lib.hid (fun k hk => (hr4 k hk).imp id (fun h => by have := Hz2.out; have := Hz3.out; omega))
  have Hz4 : Hid (w2.heap.size < w4.heap.size) := Lib.hid (by have := hT4.size; have := Hz3.out; omega)
  have Hrow : Hid (∀ k, rowOf v' = some k → k ≠ g) := Lib.hid (fun k hk => by
    rcases hr4 k hk with h | h
    · have := Hlt.out.2.2.2 k h; have := Hg.out; omega
    · have := Hg.out; have := Hz2.out; have := Hz3.out; omega)
  clear hf4 hr4 hT4 HN hc3 H3 HT3 HB3 H2 HB2 HT2 Hs2 Hl2 hza
  go_wp2_with (first
    | (refine wpList_load_row rfl 50 (.tmp 3) rfl _ rfl 50 _ (0, 0) _ HB4.out Tryz.underlying50 rfl rit_info ?_)
    | (refine wpList_store_rit _ rfl (.tmp 2) (.tmp 11) rfl g _ _ rfl rfl HBg.out rfl rfl (by simp [Value.oneCell']) ?_; intro w8 hb8 hT8; have HB8 := Lib.hid hb8; have HT8 := Lib.hid hT8; clear hb8 hT8))
  exact bodyPost_ret (v := .agg #[.int .i64 pk.kind, .int .i64 pk.hel.code, .int .i64 pk.hel.process, .int .i64 pk.hel.secret, .slice p pk.hel.params.length c, .int .u8 pk.front.kind, .int .u8 pk.front.what, .string pk.front.name, .string pk.front.portal, .string pk.front.text, .slice a.po pk.front.oids.length a.co, .slice a.pf pk.front.formats.length a.cf, .slice a.pr pk.front.results.length a.cr, .slice a.pp pk.front.params.length a.cp, .int .i64 pk.front.max, .string pk.code, .string pk.text]) (results_cell_row (fn := Tryz.f15) (p := 2) (by kernel_rfl) _ _ g _ _ (0, 0) _ rfl HB8.out Tryz.underlying50 rfl rit_info) rfl ⟨it_finE HT8.out pk p c a Hs4.out Hl4.out, v', H4.out.touch HT8.out (by have := Hg.out; have := Hlt.out.1; omega) (by have := Hg.out; omega) (fun k hk => Hrow.out k hk), Hr4.out, HT4.out.then HT8.out (fun i hi e => by have := Hg.out; omega)⟩

end Go.Proofs.YtacnmdlefonjmaaGreat

/-
  The calls' reading; few (layer 39; printed by gen_rce.py).
-/
namespace Go.Proofs.YtacnmdlefonjmaaGreat
open Go.RowKit
set_option linter.unusedVariables false
set_option linter.unusedSimpArgs false

/-- A call of the statement. -/
structure CDoV where
  op : Int
  bytes : List UInt8
def CDoS : Rd CDoV := fun S w cs x => ∃ p c, cs = [.int .i64 x.op, .slice p x.bytes.length c] ∧ BytesS S w [.slice p x.bytes.length c] x.bytes
theorem CDoS.still : Still CDoS := by
  rintro S S' w w' cs x ⟨p, c, rfl, h⟩ hk
  exact ⟨p, c, rfl, BytesS.still _ _ _ _ _ _ h hk⟩
theorem opensS_cdo : OpensS Tryz.prog 34 CDoS := by
  intro H enc w base spare held fuel cs x h
  have S : StructOf Tryz.prog 34 _ := ⟨Tryz.underlying34, by kernel_rfl, by kernel_rfl⟩
  have hl := S.len h
  match cs, hl with
  | [c0, c1], _ =>
    obtain ⟨y0, e0, _⟩ := S.field h 0 _ rfl c0 rfl (opens_int Tryz.underlying3)
    obtain ⟨y1, h1⟩ := S.field h 1 _ rfl c1 rfl (opensS_bytes Tryz.underlying32 Tryz.underlying5 (by kernel_rfl))
    obtain ⟨p, c, e, _⟩ := id h1
    simp only [List.cons.injEq, and_true] at e0 e
    subst e0 e
    exact ⟨⟨y0, y1⟩, p, c, rfl, h1⟩
theorem opensS_cdos : OpensS Tryz.prog 22 (SliceS 2 CDoS) := opensS_slice Tryz.underlying22 (by kernel_rfl) (by omega) opensS_cdo

theorem cdo_at {S : Nat → Prop} {w : World} {p : Option Addr} {n c k : Nat} {xs : List CDoV} (h : SliceS 2 CDoS S w [.slice p n c] xs) (hk : k < xs.length) :
    ∃ b o q d, p = some ⟨b, o, none⟩ ∧ S b ∧ b < w.heap.size ∧ BytesS S w [.slice q xs[k].bytes.length d] xs[k].bytes ∧
      w.cell? ⟨b, o + k * 2, none⟩ = some (.int .i64 xs[k].op) ∧ w.cell? ⟨b, o + k * 2 + 1, none⟩ = some (.slice q xs[k].bytes.length d) := by
  obtain ⟨b, o, cs, rfl, hS, hb, _, hc, q, d, rfl, hl⟩ := h.elem (by omega) k xs[k] (List.getElem?_eq_getElem hk)
  have c0 := hc 0 _ rfl
  rw [Nat.add_zero] at c0
  exact ⟨b, o, q, d, rfl, hS, hb, hl, c0, hc 1 _ rfl⟩

set_option maxRecDepth 100000 in
set_option maxHeartbeats 4000000 in
theorem cFew_any (S : Nat → Prop) (p : Option Addr) (n c : Nat) (l : List CDoV) (w : World) (h : SliceS 2 CDoS S w [.slice p n c] l) :
    Calls Tryz.prog 7 #[.slice p n c] w fun e w' => ∃ b, e = .returned (.bool b) ∧ Below w.heap.size w w' := by
  have H := Lib.hid ((SliceS.weak CDoS.still h (S' := fun k => k < w.heap.size) (fun k hk _ => hk)))
  obtain ⟨rfl, hlc, hcm⟩ := h.len
  unfold maxLen at hcm
  clear h
  go_enter Tryz.func7, Tryz.ntmps7
  go_wp2_with fail
  go_loopw [3, 8] (fun n i wr => ∃ k m : Nat, k ≤ l.length ∧ i = .int .i64 k ∧ n = .int .i64 m ∧ m ≤ 1000 * k ∧ k ≤ 80 ∧ Below w.heap.size w wr) (fun _ i _ => l.length - (intOf i).toNat)
  case atStart => exact ⟨0, 0, Nat.zero_le _, rfl, rfl, Nat.le_refl _, by omega, Below.refl _ _⟩
  case round =>
    obtain ⟨k, m, hk, rfl, rfl, hm, h80, hb⟩ := hrel
    have Hb := Lib.hid hb
    have hbs := hb.size
    clear hb
    by_cases hlt : k < l.length
    · obtain ⟨b, o, q, d, rfl, hS, hbl, hs, c0, c1⟩ := cdo_at (SliceS.below CDoS.still H.out Hb.out) hlt
      have hal := (Below.refl wr.heap.size wr).alloc (Nat.le_refl _) (.cells #[.int .i64 l[k].op, .slice q l[k].bytes.length d] 34)
      have Hb2 := Lib.hid (Hb.out.trans (hal.mono hbs))
      clear hs hal hS
      generalize l[k] = x at *
      obtain ⟨xo, xe⟩ := x
      dsimp only at *
      have hlti : (k : Int) < (l.length : Int) := by omega
      by_cases h40 : (80 : Int) ≤ (k : Int)
      · go_wp2_with fail
        go_ret
        first | exact ⟨false, rfl, Hb2.out⟩ | exact ⟨.inl rfl, Hb2.out⟩
      · by_cases hbig : (1000 : Int) < (xe.length : Int)
        · go_wp2_with fail
          go_ret
          first | exact ⟨false, rfl, Hb2.out⟩ | exact ⟨.inl rfl, Hb2.out⟩
        · have hwr : IntKind.i64.wrap ((m : Int) + (xe.length : Int)) = (m : Int) + (xe.length : Int) := by rw [IntKind.wrap_i64]; omega
          go_wp2_with fail
          go_roundw
          case rel => exact ⟨k + 1, m + xe.length, by omega, by go_num, by go_num, by omega, by omega, Hb2.out⟩
          case measure => simp [intOf]; omega
    · obtain rfl : k = l.length := by omega
      go_wp2
      go_ret
      exact ⟨_, rfl, Hb.out⟩

end Go.Proofs.YtacnmdlefonjmaaGreat

/-
  First messages (layer 5): the user; whether two are the same; pairs that may be told.
-/
namespace Go.Proofs.YtacnmdlefonjmaaGreat
open Go.RowKit
set_option linter.unusedVariables false
set_option linter.unusedSimpArgs false

theorem pr_at {S : Nat → Prop} {w : World} {p : Option Addr} {n c k : Nat} {xs : List PrV} (h : SliceS 2 PrS S w [.slice p n c] xs) (hk : k < xs.length) :
    ∃ b o, p = some ⟨b, o, none⟩ ∧ S b ∧ b < w.heap.size ∧ w.cell? ⟨b, o + k * 2, none⟩ = some (.string xs[k].name) ∧ w.cell? ⟨b, o + k * 2 + 1, none⟩ = some (.string xs[k].value) := by
  obtain ⟨b, o, cs, rfl, hS, hb, _, hc, rfl⟩ := h.elem (by omega) k xs[k] (List.getElem?_eq_getElem hk)
  have c0 := hc 0 _ rfl
  rw [Nat.add_zero] at c0
  exact ⟨b, o, rfl, hS, hb, c0, hc 1 _ rfl⟩

def isUser (x : PrV) : Bool := x.name.toList == [117, 115, 101, 114]
def fairV (x : PrV) : Bool := !x.name.toList.isEmpty && (cleanB x.name && cleanB x.value)
def unfairV (x : PrV) : Bool := !fairV x

/-- The first user's value. -/
def userV (L : List PrV) : ByteArray := ((L[aheadG isUser L]?).map PrV.value).getD ⟨#[]⟩
theorem userV_at {L : List PrV} {k : Nat} (hk : k < L.length) (h : aheadG isUser L = k) : userV L = L[k].value := by
  unfold userV
  rw [h, List.getElem?_eq_getElem hk]
  rfl
theorem userV_none {L : List PrV} (h : aheadG isUser L = L.length) : userV L = ⟨#[]⟩ := by
  unfold userV
  rw [h, List.getElem?_eq_none (Nat.le_refl _)]
  rfl

/-- A first message in a block. -/
theorem hel_box {S : Nat → Prop} {w : World} {h : HelV} {p : Option Addr} {c : Nat} (hs : SliceS 2 PrS S w [.slice p h.params.length c] h.params) :
    Blk (w.alloc (.cells (helCells h p c) 42)) w.heap.size 42 (helCells h p c) ∧ SliceS 2 PrS S (w.alloc (.cells (helCells h p c) 42)) [.slice p h.params.length c] h.params ∧ Below w.heap.size w (w.alloc (.cells (helCells h p c) 42)) :=
  ⟨Blk.new _ _ _, hs.below PrS.still ((Below.refl _ _).alloc (Nat.le_refl _) _), (Below.refl _ _).alloc (Nat.le_refl _) _⟩

end Go.Proofs.YtacnmdlefonjmaaGreat

/-
  First messages (layer 5): whether two are the same.
-/
namespace Go.Proofs.YtacnmdlefonjmaaGreat
open Go.RowKit
set_option linter.unusedVariables false
set_option linter.unusedSimpArgs false

def prEq (a b : PrV) : Bool := (a.name.toList == b.name.toList) && (a.value.toList == b.value.toList)
theorem prEq_self (a : PrV) : prEq a a = true := by simp [prEq]
theorem neq_pr (x y : PrV) (w : World) : (binOp .neq 93 (.agg #[.string x.name, .string x.value]) (.agg #[.string y.name, .string y.value])).run Tryz.prog w = .ok (.bool (!prEq x y)) w := by
  have hS : Tryz.prog.underlying 93 = some (.struct (Tryz.prog.fieldsOf 93)) := by kernel_rfl
  have hp : Tryz.prog.stoodInHeld 93 = false := by kernel_rfl
  have u2 := Tryz.underlying9
  have a2 := Tryz.isAgg9
  have z2 := Tryz.sizeOf9
  rw [run_neq_struct, show (10000 : Nat) = 9999 + 1 from rfl, run_equalIn_agg w 9999 93 _ _ hS hp]
  simp only [Program.fieldsOf, Tryz.underlying93]
  unfold prEq
  obtain ⟨x1, x2⟩ := x
  obtain ⟨y1, y2⟩ := y
  go_simp
  by_cases h1 : x1.toList = y1.toList <;> by_cases h2 : x2.toList = y2.toList <;> simp [h1, h2]

/-- Two first messages are the same. -/
def helEq (a b : HelV) : Bool := (a.code == b.code) && ((a.process == b.process) && ((a.secret == b.secret) && listEq prEq a.params b.params))

set_option maxRecDepth 100000 in
set_option maxHeartbeats 4000000 in
theorem helSame_any (S S' : Nat → Prop) (x y : HelV) (p q : Option Addr) (c d : Nat) (w : World) (h1 : SliceS 2 PrS S w [.slice p x.params.length c] x.params) (h2 : SliceS 2 PrS S' w [.slice q y.params.length d] y.params) :
    Calls Tryz.prog 26 #[helArg x p c, helArg y q d] w fun e w' => e = .returned (.bool (helEq x y)) ∧ Below w.heap.size w w' := by
  obtain ⟨-, hlc, hcm⟩ := h1.len
  obtain ⟨-, hld, hdm⟩ := h2.len
  unfold maxLen at hcm hdm
  have He : Hid (helEq x y = ((x.code == y.code) && ((x.process == y.process) && ((x.secret == y.secret) && listEq prEq x.params y.params)))) := Lib.hid rfl
  obtain ⟨dv, hdv⟩ : ∃ dv : Bool, dv = ((x.code == y.code) && ((x.process == y.process) && ((x.secret == y.secret) && ((x.params.length : Int) == (y.params.length : Int))))) := ⟨_, rfl⟩
  have Hd := Lib.hid hdv
  clear hdv
  have hbel : Below w.heap.size w ((w.alloc (.cells (helCells x p c) 42)).alloc (.cells (helCells y q d) 42)) := ((Below.refl _ _).alloc (Nat.le_refl _) _).alloc (by simp) _
  have H1 := Lib.hid (h1.below PrS.still hbel)
  have H2 := Lib.hid (h2.below PrS.still hbel)
  have hb1 : Blk ((w.alloc (.cells (helCells x p c) 42)).alloc (.cells (helCells y q d) 42)) w.heap.size 42 (helCells x p c) := (Blk.new _ _ _).alloc _
  have hb2 : Blk ((w.alloc (.cells (helCells x p c) 42)).alloc (.cells (helCells y q d) 42)) (w.heap.size + 1) 42 (helCells y q d) := by
    have := Blk.new (w.alloc (.cells (helCells x p c) 42)) 42 (helCells y q d)
    simpa using this
  have HB := Lib.hid hbel
  clear h1 h2 hbel
  generalize helEq x y = ev at *
  obtain ⟨xc, xp, xs, xL⟩ := x
  obtain ⟨yc, yp, ys, yL⟩ := y
  unfold helArg helCells at *
  dsimp only at *
  go_enter Tryz.func26, Tryz.ntmps26
  go_upto_region 1 with (fail)
  generalize (w.alloc (.cells #[.int .i64 xc, .int .i64 xp, .int .i64 xs, .slice p xL.length c] 42)).alloc (.cells #[.int .i64 yc, .int .i64 yp, .int .i64 ys, .slice q yL.length d] 42) = w1 at *
  have hc1 := hb1.cell
  have hd1 := hb2.cell
  have Hb1 := Lib.hid hb1
  have Hb2 := Lib.hid hb2
  clear hb1 hb2
  go_cut [0, 1, 33] (fun _ _ v wx => v = .bool (!dv) ∧ wx = w1)
  case first =>
    go_wp2_with fail
    all_goals
      go_meet
      refine ⟨?_, rfl⟩
      rw [Hd.out]
      simp_all [bne]
  case rest =>
    obtain ⟨rfl, rfl⟩ := hcut
    cases dv with
    | false =>
      go_wp2_with fail
      go_ret
      refine ⟨ret_bool ?_, HB.out⟩
      rw [He.out]
      have hd := Hd.out
      cases hk : (xc == yc) with
      | false => rfl
      | true =>
        cases hh : (xp == yp) with
        | false => rfl
        | true =>
          cases hf : (xs == ys) with
          | false => rfl
          | true =>
            rw [hk, hh, hf] at hd
            have hne : xL.length ≠ yL.length := fun e => by rw [e] at hd; simp at hd
            rw [listEq_len hne]
            simp
    | true =>
      simp only [Bool.not_true]
      have hd := Hd.out
      simp only [Bool.true_eq, Bool.and_eq_true] at hd
      obtain ⟨hk, hh, hf, hl⟩ := hd
      rw [hk, hh, hf] at He
      simp only [Bool.true_and] at He
      have hll : xL.length = yL.length := by simp at hl; omega
      have Hll := Lib.hid hll
      clear hk hh hf hl Hd hll
      go_wp2_with fail
      go_loopw [5] (fun i wr => ∃ k r : Nat, k ≤ xL.length ∧ i = .int .i64 k ∧ wr = wc.drewN r ∧ listEq prEq xL yL = listEq prEq (xL.drop k) (yL.drop k)) (fun i _ => xL.length - (intOf i).toNat)
      case atStart => exact ⟨0, 0, Nat.zero_le _, rfl, rfl, rfl⟩
      case round =>
        obtain ⟨k, r, hk, rfl, rfl, he⟩ := hrel
        have Hq := Lib.hid he
        clear he
        have hbr : Below wc.heap.size wc (wc.drewN r) := ((Touch.refl (fun _ => False) wc).drewN r).below (Nat.le_refl _) (fun _ e => e.elim)
        have hc2 : ∀ i, (wc.drewN r).cell? ⟨w.heap.size, i, none⟩ = (#[.int .i64 xc, .int .i64 xp, .int .i64 xs, .slice p xL.length c] : Array Value)[i]? := Hb1.out.cell
        have hd2 : ∀ i, (wc.drewN r).cell? ⟨w.heap.size + 1, i, none⟩ = (#[.int .i64 yc, .int .i64 yp, .int .i64 ys, .slice q yL.length d] : Array Value)[i]? := Hb2.out.cell
        have HB2 := Lib.hid (HB.out.trans (hbr.mono HB.out.size))
        by_cases hlt : k < xL.length
        · have hlt' : k < yL.length := by rw [← Hll.out]; exact hlt
          obtain ⟨b, o, rfl, _, hbl, c0, c1⟩ := pr_at (H1.out.below PrS.still hbr) hlt
          obtain ⟨b', o', rfl, _, hbl', e0, e1⟩ := pr_at (H2.out.below PrS.still hbr) hlt'
          have Hst := Lib.hid (listEq_step (f := prEq) hlt hlt')
          clear hc1 hd1 hbl hbl' hbr
          generalize hX : xL[k] = x at *
          generalize hY : yL[k] = y at *
          clear hX hY
          obtain ⟨wq, hwq⟩ : ∃ wq, wq = wc.drewN r := ⟨_, rfl⟩
          rw [← hwq] at c0 e0 c1 e1 hc2 hd2 HB2 ⊢
          have Hwq := Lib.hid hwq
          clear hwq
          have hlti : (k : Int) < (xL.length : Int) := by omega
          have hlti' : (k : Int) < (yL.length : Int) := by omega
          have hwk : IntKind.i64.wrap ((k : Int) + 1) = (k : Int) + 1 := by
            rw [IntKind.wrap_i64]; omega
          have hgd : ∀ (op : BinOp) (a b : Operand) (xs ys : Array Value) (w0 : World), (eqGuard op 93 a b (.agg xs) (.agg ys)).run Tryz.prog w0 = .ok () w0 := fun op a b xs ys w0 => run_eqGuard_agg w0 op 93 a b xs ys (by kernel_rfl)
          cases hxy : prEq x y with
          | true =>
            rw [hxy, Bool.true_and] at Hst
            have hq := fun w0 => neq_pr x y w0
            rw [hxy, Bool.not_true] at hq
            clear hxy
            obtain ⟨x1, x2⟩ := x
            obtain ⟨y1, y2⟩ := y
            dsimp only at c0 e0 c1 e1 hq
            go_wp2_with fail
            go_quiet (fail)
            go_wp2_with fail
            go_roundw
            case rel => exact ⟨k + 1, r + nq, by omega, by go_num, by rw [Hwq.out, World.drewN_drewN], Hq.out.trans Hst.out⟩
            case measure => simp [intOf]; omega
          | false =>
            rw [hxy, Bool.false_and] at Hst
            have hq := fun w0 => neq_pr x y w0
            rw [hxy, Bool.not_false] at hq
            clear hxy
            obtain ⟨x1, x2⟩ := x
            obtain ⟨y1, y2⟩ := y
            dsimp only at c0 e0 c1 e1 hq
            have Hfin := Lib.hid (Hq.out.trans Hst.out)
            go_wp2_with fail
            go_quiet (fail)
            go_wp2_with fail
            go_ret
            exact ⟨ret_bool (by rw [He.out, Hfin.out]), HB2.out.trans (((Touch.refl (fun _ => False) wq).drewN _).below HB2.out.size (fun _ e => e.elim))⟩
        · obtain rfl : k = xL.length := by omega
          have Hfin := Lib.hid (Hq.out.trans (listEq_end Hll.out))
          clear hc1 hd1
          go_wp2_with fail
          go_ret
          exact ⟨ret_bool (by rw [He.out, Hfin.out]), HB2.out⟩

end Go.Proofs.YtacnmdlefonjmaaGreat

/-
  same at equal items (layer 39; printed by gen_rce.py).
-/
namespace Go.Proofs.YtacnmdlefonjmaaGreat
open Go.RowKit
set_option linter.unusedVariables false
set_option linter.unusedSimpArgs false

theorem helEq_selfC (h : HelV) : helEq h h = true := by
  have : ∀ L : List PrV, listEq prEq L L = true := fun L => listEq_self (fun x => by simp [prEq]) L
  simp [helEq, this]

set_option maxRecDepth 100000 in
set_option maxHeartbeats 8000000 in
theorem itSame_true (S S' : Nat → Prop) (x : ItV) (p q : Option Addr) (c d : Nat) (a b : FoP) (w : World) (h1 : SliceS 2 PrS S w [.slice p x.hel.params.length c] x.hel.params) (h2 : SliceS 2 PrS S' w [.slice q x.hel.params.length d] x.hel.params) (h3 : FoL S w x.front a) (h4 : FoL S' w x.front b) :
    Calls Tryz.prog 11 #[itArg x p c a, itArg x q d b] w fun e w' => e = .returned (.bool true) ∧ Below w.heap.size w w' := by
  have hb : Below w.heap.size w ((w.alloc (.cells #[.int .i64 x.kind, .int .i64 x.hel.code, .int .i64 x.hel.process, .int .i64 x.hel.secret, .slice p x.hel.params.length c, .int .u8 x.front.kind, .int .u8 x.front.what, .string x.front.name, .string x.front.portal, .string x.front.text, .slice a.po x.front.oids.length a.co, .slice a.pf x.front.formats.length a.cf, .slice a.pr x.front.results.length a.cr, .slice a.pp x.front.params.length a.cp, .int .i64 x.front.max, .string x.code, .string x.text] 48)).alloc (.cells #[.int .i64 x.kind, .int .i64 x.hel.code, .int .i64 x.hel.process, .int .i64 x.hel.secret, .slice q x.hel.params.length d, .int .u8 x.front.kind, .int .u8 x.front.what, .string x.front.name, .string x.front.portal, .string x.front.text, .slice b.po x.front.oids.length b.co, .slice b.pf x.front.formats.length b.cf, .slice b.pr x.front.results.length b.cr, .slice b.pp x.front.params.length b.cp, .int .i64 x.front.max, .string x.code, .string x.text] 50)) := ((Below.refl _ _).alloc (Nat.le_refl _) _).alloc (by simp) _
  have HS := Lib.hid (helSame_any S S' x.hel x.hel p q c d _ (h1.below PrS.still hb) (h2.below PrS.still hb))
  have HL : Hid (FoL S ((w.alloc (.cells #[.int .i64 x.kind, .int .i64 x.hel.code, .int .i64 x.hel.process, .int .i64 x.hel.secret, .slice p x.hel.params.length c, .int .u8 x.front.kind, .int .u8 x.front.what, .string x.front.name, .string x.front.portal, .string x.front.text, .slice a.po x.front.oids.length a.co, .slice a.pf x.front.formats.length a.cf, .slice a.pr x.front.results.length a.cr, .slice a.pp x.front.params.length a.cp, .int .i64 x.front.max, .string x.code, .string x.text] 48)).alloc (.cells #[.int .i64 x.kind, .int .i64 x.hel.code, .int .i64 x.hel.process, .int .i64 x.hel.secret, .slice q x.hel.params.length d, .int .u8 x.front.kind, .int .u8 x.front.what, .string x.front.name, .string x.front.portal, .string x.front.text, .slice b.po x.front.oids.length b.co, .slice b.pf x.front.formats.length b.cf, .slice b.pr x.front.results.length b.cr, .slice b.pp x.front.params.length b.cp, .int .i64 x.front.max, .string x.code, .string x.text] 50)) x.front a ∧ FoL S' ((w.alloc (.cells #[.int .i64 x.kind, .int .i64 x.hel.code, .int .i64 x.hel.process, .int .i64 x.hel.secret, .slice p x.hel.params.length c, .int .u8 x.front.kind, .int .u8 x.front.what, .string x.front.name, .string x.front.portal, .string x.front.text, .slice a.po x.front.oids.length a.co, .slice a.pf x.front.formats.length a.cf, .slice a.pr x.front.results.length a.cr, .slice a.pp x.front.params.length a.cp, .int .i64 x.front.max, .string x.code, .string x.text] 48)).alloc (.cells #[.int .i64 x.kind, .int .i64 x.hel.code, .int .i64 x.hel.process, .int .i64 x.hel.secret, .slice q x.hel.params.length d, .int .u8 x.front.kind, .int .u8 x.front.what, .string x.front.name, .string x.front.portal, .string x.front.text, .slice b.po x.front.oids.length b.co, .slice b.pf x.front.formats.length b.cf, .slice b.pr x.front.results.length b.cr, .slice b.pp x.front.params.length b.cp, .int .i64 x.front.max, .string x.code, .string x.text] 50)) x.front b) := Lib.hid ⟨h3.below hb, h4.below hb⟩
  have hA := ((Blk.new w 48 #[.int .i64 x.kind, .int .i64 x.hel.code, .int .i64 x.hel.process, .int .i64 x.hel.secret, .slice p x.hel.params.length c, .int .u8 x.front.kind, .int .u8 x.front.what, .string x.front.name, .string x.front.portal, .string x.front.text, .slice a.po x.front.oids.length a.co, .slice a.pf x.front.formats.length a.cf, .slice a.pr x.front.results.length a.cr, .slice a.pp x.front.params.length a.cp, .int .i64 x.front.max, .string x.code, .string x.text]).alloc (.cells #[.int .i64 x.kind, .int .i64 x.hel.code, .int .i64 x.hel.process, .int .i64 x.hel.secret, .slice q x.hel.params.length d, .int .u8 x.front.kind, .int .u8 x.front.what, .string x.front.name, .string x.front.portal, .string x.front.text, .slice b.po x.front.oids.length b.co, .slice b.pf x.front.formats.length b.cf, .slice b.pr x.front.results.length b.cr, .slice b.pp x.front.params.length b.cp, .int .i64 x.front.max, .string x.code, .string x.text] 50)).cell
  have hB := (Blk.new (w.alloc (.cells #[.int .i64 x.kind, .int .i64 x.hel.code, .int .i64 x.hel.process, .int .i64 x.hel.secret, .slice p x.hel.params.length c, .int .u8 x.front.kind, .int .u8 x.front.what, .string x.front.name, .string x.front.portal, .string x.front.text, .slice a.po x.front.oids.length a.co, .slice a.pf x.front.formats.length a.cf, .slice a.pr x.front.results.length a.cr, .slice a.pp x.front.params.length a.cp, .int .i64 x.front.max, .string x.code, .string x.text] 48)) 50 #[.int .i64 x.kind, .int .i64 x.hel.code, .int .i64 x.hel.process, .int .i64 x.hel.secret, .slice q x.hel.params.length d, .int .u8 x.front.kind, .int .u8 x.front.what, .string x.front.name, .string x.front.portal, .string x.front.text, .slice b.po x.front.oids.length b.co, .slice b.pf x.front.formats.length b.cf, .slice b.pr x.front.results.length b.cr, .slice b.pp x.front.params.length b.cp, .int .i64 x.front.max, .string x.code, .string x.text]).cell
  rw [World.size_alloc] at hB
  have hz : ((w.alloc (.cells #[.int .i64 x.kind, .int .i64 x.hel.code, .int .i64 x.hel.process, .int .i64 x.hel.secret, .slice p x.hel.params.length c, .int .u8 x.front.kind, .int .u8 x.front.what, .string x.front.name, .string x.front.portal, .string x.front.text, .slice a.po x.front.oids.length a.co, .slice a.pf x.front.formats.length a.cf, .slice a.pr x.front.results.length a.cr, .slice a.pp x.front.params.length a.cp, .int .i64 x.front.max, .string x.code, .string x.text] 48)).alloc (.cells #[.int .i64 x.kind, .int .i64 x.hel.code, .int .i64 x.hel.process, .int .i64 x.hel.secret, .slice q x.hel.params.length d, .int .u8 x.front.kind, .int .u8 x.front.what, .string x.front.name, .string x.front.portal, .string x.front.text, .slice b.po x.front.oids.length b.co, .slice b.pf x.front.formats.length b.cf, .slice b.pr x.front.results.length b.cr, .slice b.pp x.front.params.length b.cp, .int .i64 x.front.max, .string x.code, .string x.text] 50)).heap.size = w.heap.size + 1 + 1 := by simp
  have Hz := Lib.hid hz
  have HB := Lib.hid hb
  rw [helEq_selfC] at HS
  clear h1 h2 h3 h4 hb hz
  unfold itArg itCells
  go_enter Tryz.func11, Tryz.ntmps11
  go_upto_region 1 with (fail)
  generalize (w.alloc (.cells #[.int .i64 x.kind, .int .i64 x.hel.code, .int .i64 x.hel.process, .int .i64 x.hel.secret, .slice p x.hel.params.length c, .int .u8 x.front.kind, .int .u8 x.front.what, .string x.front.name, .string x.front.portal, .string x.front.text, .slice a.po x.front.oids.length a.co, .slice a.pf x.front.formats.length a.cf, .slice a.pr x.front.results.length a.cr, .slice a.pp x.front.params.length a.cp, .int .i64 x.front.max, .string x.code, .string x.text] 48)).alloc (.cells #[.int .i64 x.kind, .int .i64 x.hel.code, .int .i64 x.hel.process, .int .i64 x.hel.secret, .slice q x.hel.params.length d, .int .u8 x.front.kind, .int .u8 x.front.what, .string x.front.name, .string x.front.portal, .string x.front.text, .slice b.po x.front.oids.length b.co, .slice b.pf x.front.formats.length b.cf, .slice b.pr x.front.results.length b.cr, .slice b.pp x.front.params.length b.cp, .int .i64 x.front.max, .string x.code, .string x.text] 50) = w2 at *
  have hA0 : w2.cell? ⟨w.heap.size, 0, none⟩ = some (.int .i64 x.kind) := hA 0
  have hA1 : w2.cell? ⟨w.heap.size, 1, none⟩ = some (.int .i64 x.hel.code) := hA 1
  have hA2 : w2.cell? ⟨w.heap.size, 2, none⟩ = some (.int .i64 x.hel.process) := hA 2
  have hA3 : w2.cell? ⟨w.heap.size, 3, none⟩ = some (.int .i64 x.hel.secret) := hA 3
  have hA4 : w2.cell? ⟨w.heap.size, 4, none⟩ = some (.slice p x.hel.params.length c) := hA 4
  have hA5 : w2.cell? ⟨w.heap.size, 5, none⟩ = some (.int .u8 x.front.kind) := hA 5
  have hA6 : w2.cell? ⟨w.heap.size, 6, none⟩ = some (.int .u8 x.front.what) := hA 6
  have hA7 : w2.cell? ⟨w.heap.size, 7, none⟩ = some (.string x.front.name) := hA 7
  have hA8 : w2.cell? ⟨w.heap.size, 8, none⟩ = some (.string x.front.portal) := hA 8
  have hA9 : w2.cell? ⟨w.heap.size, 9, none⟩ = some (.string x.front.text) := hA 9
  have hA10 : w2.cell? ⟨w.heap.size, 10, none⟩ = some (.slice a.po x.front.oids.length a.co) := hA 10
  have hA11 : w2.cell? ⟨w.heap.size, 11, none⟩ = some (.slice a.pf x.front.formats.length a.cf) := hA 11
  have hA12 : w2.cell? ⟨w.heap.size, 12, none⟩ = some (.slice a.pr x.front.results.length a.cr) := hA 12
  have hA13 : w2.cell? ⟨w.heap.size, 13, none⟩ = some (.slice a.pp x.front.params.length a.cp) := hA 13
  have hA14 : w2.cell? ⟨w.heap.size, 14, none⟩ = some (.int .i64 x.front.max) := hA 14
  have hA15 : w2.cell? ⟨w.heap.size, 15, none⟩ = some (.string x.code) := hA 15
  have hA16 : w2.cell? ⟨w.heap.size, 16, none⟩ = some (.string x.text) := hA 16
  have hB0 : w2.cell? ⟨w.heap.size + 1, 0, none⟩ = some (.int .i64 x.kind) := hB 0
  have hB1 : w2.cell? ⟨w.heap.size + 1, 1, none⟩ = some (.int .i64 x.hel.code) := hB 1
  have hB2 : w2.cell? ⟨w.heap.size + 1, 2, none⟩ = some (.int .i64 x.hel.process) := hB 2
  have hB3 : w2.cell? ⟨w.heap.size + 1, 3, none⟩ = some (.int .i64 x.hel.secret) := hB 3
  have hB4 : w2.cell? ⟨w.heap.size + 1, 4, none⟩ = some (.slice q x.hel.params.length d) := hB 4
  have hB5 : w2.cell? ⟨w.heap.size + 1, 5, none⟩ = some (.int .u8 x.front.kind) := hB 5
  have hB6 : w2.cell? ⟨w.heap.size + 1, 6, none⟩ = some (.int .u8 x.front.what) := hB 6
  have hB7 : w2.cell? ⟨w.heap.size + 1, 7, none⟩ = some (.string x.front.name) := hB 7
  have hB8 : w2.cell? ⟨w.heap.size + 1, 8, none⟩ = some (.string x.front.portal) := hB 8
  have hB9 : w2.cell? ⟨w.heap.size + 1, 9, none⟩ = some (.string x.front.text) := hB 9
  have hB10 : w2.cell? ⟨w.heap.size + 1, 10, none⟩ = some (.slice b.po x.front.oids.length b.co) := hB 10
  have hB11 : w2.cell? ⟨w.heap.size + 1, 11, none⟩ = some (.slice b.pf x.front.formats.length b.cf) := hB 11
  have hB12 : w2.cell? ⟨w.heap.size + 1, 12, none⟩ = some (.slice b.pr x.front.results.length b.cr) := hB 12
  have hB13 : w2.cell? ⟨w.heap.size + 1, 13, none⟩ = some (.slice b.pp x.front.params.length b.cp) := hB 13
  have hB14 : w2.cell? ⟨w.heap.size + 1, 14, none⟩ = some (.int .i64 x.front.max) := hB 14
  have hB15 : w2.cell? ⟨w.heap.size + 1, 15, none⟩ = some (.string x.code) := hB 15
  have hB16 : w2.cell? ⟨w.heap.size + 1, 16, none⟩ = some (.string x.text) := hB 16
  have hne : ¬ w.heap.size + 1 = w.heap.size := by omega
  have hk : (x.kind == x.kind) = true := by simp
  have hcd : (x.code.toList == x.code.toList) = true := by simp
  have htx : (x.text.toList == x.text.toList) = true := by simp
  have Hlt : Hid (w.heap.size < w2.heap.size ∧ w.heap.size + 1 < w2.heap.size) := Lib.hid ⟨by have := Hz.out; omega, by have := Hz.out; omega⟩
  clear hA hB Hz
  generalize w.heap.size + 1 = g2 at *
  go_wp2_with fail
  refine HS.out.mono ?_
  rintro e w3 ⟨rfl, hb3⟩
  have HS2 := Lib.hid (rfoSame_any S S' x.front x.front a b w3 (HL.out.1.below hb3) (HL.out.2.below hb3))
  rw [foEq_self] at HS2
  have HB3 := Lib.hid (HB.out.trans (hb3.mono HB.out.size))
  have hC5 : w3.cell? ⟨w.heap.size, 5, none⟩ = some (.int .u8 x.front.kind) := (hb3.cell (p := ⟨w.heap.size, 5, none⟩) Hlt.out.1).trans hA5
  have hC6 : w3.cell? ⟨w.heap.size, 6, none⟩ = some (.int .u8 x.front.what) := (hb3.cell (p := ⟨w.heap.size, 6, none⟩) Hlt.out.1).trans hA6
  have hC7 : w3.cell? ⟨w.heap.size, 7, none⟩ = some (.string x.front.name) := (hb3.cell (p := ⟨w.heap.size, 7, none⟩) Hlt.out.1).trans hA7
  have hC8 : w3.cell? ⟨w.heap.size, 8, none⟩ = some (.string x.front.portal) := (hb3.cell (p := ⟨w.heap.size, 8, none⟩) Hlt.out.1).trans hA8
  have hC9 : w3.cell? ⟨w.heap.size, 9, none⟩ = some (.string x.front.text) := (hb3.cell (p := ⟨w.heap.size, 9, none⟩) Hlt.out.1).trans hA9
  have hC10 : w3.cell? ⟨w.heap.size, 10, none⟩ = some (.slice a.po x.front.oids.length a.co) := (hb3.cell (p := ⟨w.heap.size, 10, none⟩) Hlt.out.1).trans hA10
  have hC11 : w3.cell? ⟨w.heap.size, 11, none⟩ = some (.slice a.pf x.front.formats.length a.cf) := (hb3.cell (p := ⟨w.heap.size, 11, none⟩) Hlt.out.1).trans hA11
  have hC12 : w3.cell? ⟨w.heap.size, 12, none⟩ = some (.slice a.pr x.front.results.length a.cr) := (hb3.cell (p := ⟨w.heap.size, 12, none⟩) Hlt.out.1).trans hA12
  have hC13 : w3.cell? ⟨w.heap.size, 13, none⟩ = some (.slice a.pp x.front.params.length a.cp) := (hb3.cell (p := ⟨w.heap.size, 13, none⟩) Hlt.out.1).trans hA13
  have hC14 : w3.cell? ⟨w.heap.size, 14, none⟩ = some (.int .i64 x.front.max) := (hb3.cell (p := ⟨w.heap.size, 14, none⟩) Hlt.out.1).trans hA14
  have hD5 : w3.cell? ⟨g2, 5, none⟩ = some (.int .u8 x.front.kind) := (hb3.cell (p := ⟨g2, 5, none⟩) Hlt.out.2).trans hB5
  have hD6 : w3.cell? ⟨g2, 6, none⟩ = some (.int .u8 x.front.what) := (hb3.cell (p := ⟨g2, 6, none⟩) Hlt.out.2).trans hB6
  have hD7 : w3.cell? ⟨g2, 7, none⟩ = some (.string x.front.name) := (hb3.cell (p := ⟨g2, 7, none⟩) Hlt.out.2).trans hB7
  have hD8 : w3.cell? ⟨g2, 8, none⟩ = some (.string x.front.portal) := (hb3.cell (p := ⟨g2, 8, none⟩) Hlt.out.2).trans hB8
  have hD9 : w3.cell? ⟨g2, 9, none⟩ = some (.string x.front.text) := (hb3.cell (p := ⟨g2, 9, none⟩) Hlt.out.2).trans hB9
  have hD10 : w3.cell? ⟨g2, 10, none⟩ = some (.slice b.po x.front.oids.length b.co) := (hb3.cell (p := ⟨g2, 10, none⟩) Hlt.out.2).trans hB10
  have hD11 : w3.cell? ⟨g2, 11, none⟩ = some (.slice b.pf x.front.formats.length b.cf) := (hb3.cell (p := ⟨g2, 11, none⟩) Hlt.out.2).trans hB11
  have hD12 : w3.cell? ⟨g2, 12, none⟩ = some (.slice b.pr x.front.results.length b.cr) := (hb3.cell (p := ⟨g2, 12, none⟩) Hlt.out.2).trans hB12
  have hD13 : w3.cell? ⟨g2, 13, none⟩ = some (.slice b.pp x.front.params.length b.cp) := (hb3.cell (p := ⟨g2, 13, none⟩) Hlt.out.2).trans hB13
  have hD14 : w3.cell? ⟨g2, 14, none⟩ = some (.int .i64 x.front.max) := (hb3.cell (p := ⟨g2, 14, none⟩) Hlt.out.2).trans hB14
  clear hb3 HS HL HB hA0 hB0 hA1 hB1 hA2 hB2 hA3 hB3 hA4 hB4 hA5 hB5 hA6 hB6 hA7 hB7 hA8 hB8 hA9 hB9 hA10 hB10 hA11 hB11 hA12 hB12 hA13 hB13 hA14 hB14 hA15 hB15 hA16 hB16
  go_wp2_with fail
  refine HS2.out.mono ?_
  rintro e w4 ⟨rfl, hb4⟩
  have HB4 := Lib.hid (HB3.out.trans (hb4.mono HB3.out.size))
  clear hb4 HB3
  go_wp2
  go_ret
  exact ⟨rfl, HB4.out⟩

end Go.Proofs.YtacnmdlefonjmaaGreat

