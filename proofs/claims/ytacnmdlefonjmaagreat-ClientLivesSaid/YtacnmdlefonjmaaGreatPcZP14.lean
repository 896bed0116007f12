/-
  Ground: ClAm, ClAi, FrE, FrF, ClB.
-/
import Derived.Test.YtacnmdlefonjmaaGreatPcZP11
import Derived.Test.YtacnmdlefonjmaaGreatPcZP13
/-
  What comes of a client (layer 39): a message.
-/
namespace Go.Proofs.YtacnmdlefonjmaaGreat
open Go.RowKit
set_option linter.unusedVariables false
set_option linter.unusedSimpArgs false

set_option maxRecDepth 100000 in
set_option maxHeartbeats 8000000 in
theorem message_any (ty : Int) (h0 : 0 ≤ ty) (h1 : ty < 256) (p0 : Option Addr) (b : List UInt8) (cap : Nat) (w : World) (hl : b.length ≤ 100000) (hb : BytesIn w p0 b) :
    Calls Tryz.prog 48 #[.agg #[.int .u8 ty, .slice p0 b.length cap]] w (ItR (messageV ty b) w) := by
  have ha1 := (Below.refl w.heap.size w).alloc (Nat.le_refl _) (.cells #[.int .u8 ty, .slice p0 b.length cap] 73)
  have ha2 := ha1.alloc ha1.size (.cells itZ 48)
  have hm := ((Blk.new w 73 #[.int .u8 ty, .slice p0 b.length cap]).alloc (.cells itZ 48)).cell
  have hbg := it_hz (w.alloc (.cells #[.int .u8 ty, .slice p0 b.length cap] 73))
  have hz2 : ((w.alloc (.cells #[.int .u8 ty, .slice p0 b.length cap] 73)).alloc (.cells itZ 48)).heap.size = w.heap.size + 1 + 1 := by simp
  rw [World.size_alloc] at hbg
  have hp := dec_any ty h0 h1 p0 b cap _ hl (hb.below ha2)
  generalize hy : messageV ty b = y
  unfold messageV at hy
  have Hy := Lib.hid hy
  clear hy
  unfold itZ at *
  go_enter Tryz.func48, Tryz.ntmps48
  go_wp2_with fail
  generalize ((w.alloc (.cells #[.int .u8 ty, .slice p0 b.length cap] 73)).alloc (.cells #[.int .i64 0, .int .i64 0, .int .i64 0, .int .i64 0, .slice none 0 0, .int .u8 0, .int .u8 0, .string ⟨#[]⟩, .string ⟨#[]⟩, .string ⟨#[]⟩, .slice none 0 0, .slice none 0 0, .slice none 0 0, .slice none 0 0, .int .i64 0, .string ⟨#[]⟩, .string ⟨#[]⟩] 48)) = w2 at *
  have Hz2 := Lib.hid hz2
  have HBw := Lib.hid ha2
  have HBg := Lib.hid hbg
  have Hp := Lib.hid hp
  clear ha1 ha2 hz2 hbg hp hm
  obtain ⟨g, hg0⟩ : ∃ g, g = w.heap.size + 1 := ⟨_, rfl⟩
  rw [← hg0] at HBg ⊢
  have Hle : Hid (w.heap.size ≤ g) := Lib.hid (by omega)
  have Hlt : Hid (g < w2.heap.size) := Lib.hid (by have := Hz2.out; omega)
  clear hg0 Hz2
  refine Hp.out.mono ?_
  rintro e w3 ⟨a, rfl, hs3, hb3⟩
  have HBg := Lib.hid (HBg.out.below hb3 Hlt.out)
  have HBw := Lib.hid (HBw.out.trans (hb3.mono HBw.out.size))
  have Hs3 := Lib.hid (hs3.weak (S' := fun j => w.heap.size ≤ j ∧ j ≠ g) (fun k hk hS => ⟨by have := Hle.out; have := Hlt.out; omega, by have := Hlt.out; omega⟩))
  have Hlt : Hid (g < w3.heap.size) := Lib.hid (by have := Hlt.out; have := hb3.size; omega)
  clear hs3 hb3 Hp
  generalize (decF ty b).1 = f at *
  generalize (decF ty b).2 = er at *
  have ha4 := (Below.refl w3.heap.size w3).alloc (Nat.le_refl _) (.cells #[.int .u8 f.kind, .int .u8 f.what, .string f.name, .string f.portal, .string f.text, .slice a.po f.oids.length a.co, .slice a.pf f.formats.length a.cf, .slice a.pr f.results.length a.cr, .slice a.pp f.params.length a.cp, .int .i64 f.max] 46)
  have hh4 := (Blk.new w3 46 #[.int .u8 f.kind, .int .u8 f.what, .string f.name, .string f.portal, .string f.text, .slice a.po f.oids.length a.co, .slice a.pf f.formats.length a.cf, .slice a.pr f.results.length a.cr, .slice a.pp f.params.length a.cp, .int .i64 f.max]).cell
  have HBg := Lib.hid (HBg.out.below ha4 Hlt.out)
  have HBw := Lib.hid (HBw.out.trans (ha4.mono HBw.out.size))
  have Hlt : Hid (g < (w3.alloc (.cells #[.int .u8 f.kind, .int .u8 f.what, .string f.name, .string f.portal, .string f.text, .slice a.po f.oids.length a.co, .slice a.pf f.formats.length a.cf, .slice a.pr f.results.length a.cr, .slice a.pp f.params.length a.cp, .int .i64 f.max] 46)).heap.size) := Lib.hid (by have := Hlt.out; have := ha4.size; omega)
  have Hs4 := Lib.hid (Hs3.out.below ha4)
  clear ha4 Hs3
  unfold foArg foCells
  by_cases he : er = 0
  · subst he
    obtain rfl : (⟨2, helNo, f, ⟨#[]⟩, ⟨#[]⟩⟩ : ItV) = y := (if_pos rfl).symm.trans Hy.out
    clear Hy
    go_upto_region 4 with (fail)
    generalize (w3.alloc (.cells #[.int .u8 f.kind, .int .u8 f.what, .string f.name, .string f.portal, .string f.text, .slice a.po f.oids.length a.co, .slice a.pf f.formats.length a.cf, .slice a.pr f.results.length a.cr, .slice a.pp f.params.length a.cp, .int .i64 f.max] 46)) = w4 at *
    clear Hlt
    go_wp2_with (refine wpList_store_it _ rfl (.tmp 2) (.tmp 15) rfl g _ _ rfl rfl HBg.out rfl rfl (by simp [Value.oneCell']) ?_; intro w8 hb8 hT8; have HB8 := Lib.hid hb8; have HT8 := Lib.hid hT8; clear hb8 hT8)
    exact bodyPost_ret (v := .agg #[.int .i64 2, .int .i64 0, .int .i64 0, .int .i64 0, .slice none 0 0, .int .u8 f.kind, .int .u8 f.what, .string f.name, .string f.portal, .string f.text, .slice a.po f.oids.length a.co, .slice a.pf f.formats.length a.cf, .slice a.pr f.results.length a.cr, .slice a.pp f.params.length a.cp, .int .i64 f.max, .string ⟨#[]⟩, .string ⟨#[]⟩]) (results_cell_row (fn := Tryz.f48) (p := 2) (by kernel_rfl) _ _ g _ _ (0, 0) _ rfl HB8.out Tryz.underlying48 rfl it_info) rfl (it_fin HT8.out HBw.out Hle.out (⟨2, helNo, f, ⟨#[]⟩, ⟨#[]⟩⟩) (none) (0) (a) (SliceS.empty none 0 (by simp [maxLen])) (Hs4.out))
  · obtain rfl : faultV er = y := (if_neg he).symm.trans Hy.out
    clear Hy
    have heb : (er == 0) = false := by simpa using he
    have Hw := Lib.hid (fun W => wrong_any er W)
    generalize faultV er = y at *
    go_wp2_with fail
    generalize (w3.alloc (.cells #[.int .u8 f.kind, .int .u8 f.what, .string f.name, .string f.portal, .string f.text, .slice a.po f.oids.length a.co, .slice a.pf f.formats.length a.cf, .slice a.pr f.results.length a.cr, .slice a.pp f.params.length a.cp, .int .i64 f.max] 46)) = w4 at *
    refine (Hw.out _).mono ?_
    rintro e w9 ⟨p9, c9, a9, rfl, hs9, hl9, hb9⟩
    have HBg := Lib.hid (HBg.out.below hb9 Hlt.out)
    have HBw := Lib.hid (HBw.out.trans (hb9.mono HBw.out.size))
    have Hs9 := Lib.hid (hs9.weak PrS.still (S' := fun j => w.heap.size ≤ j ∧ j ≠ g) (fun k hk hS => ⟨by have := Hlt.out; have := Hle.out; omega, by have := Hlt.out; omega⟩))
    have Hl9 := Lib.hid (hl9.weak (S' := fun j => w.heap.size ≤ j ∧ j ≠ g) (fun k hk hS => ⟨by have := Hlt.out; have := Hle.out; omega, by have := Hlt.out; omega⟩))
    clear hs9 hl9 hb9
    unfold itArg itCells
    go_wp2_with (refine wpList_store_it _ rfl (.tmp 2) (.tmp 13) rfl g _ _ rfl rfl HBg.out rfl rfl (by simp [Value.oneCell']) ?_; intro w8 hb8 hT8; have HB8 := Lib.hid hb8; have HT8 := Lib.hid hT8; clear hb8 hT8)
    exact bodyPost_ret (v := .agg #[.int .i64 y.kind, .int .i64 y.hel.code, .int .i64 y.hel.process, .int .i64 y.hel.secret, .slice p9 y.hel.params.length c9, .int .u8 y.front.kind, .int .u8 y.front.what, .string y.front.name, .string y.front.portal, .string y.front.text, .slice a9.po y.front.oids.length a9.co, .slice a9.pf y.front.formats.length a9.cf, .slice a9.pr y.front.results.length a9.cr, .slice a9.pp y.front.params.length a9.cp, .int .i64 y.front.max, .string y.code, .string y.text]) (results_cell_row (fn := Tryz.f48) (p := 2) (by kernel_rfl) _ _ g _ _ (0, 0) _ rfl HB8.out Tryz.underlying48 rfl it_info) rfl (it_fin HT8.out HBw.out Hle.out (y) (p9) (c9) (a9) (Hs9.out) (Hl9.out))

end Go.Proofs.YtacnmdlefonjmaaGreat

/-
  What comes of a client (layer 39): what a message is.
-/
namespace Go.Proofs.YtacnmdlefonjmaaGreat
open Go.RowKit
set_option linter.unusedVariables false
set_option linter.unusedSimpArgs false

set_option maxRecDepth 100000 in
set_option maxHeartbeats 8000000 in
theorem item_any (cb : Nat) (u : Value) (t : Bool) (ty : Int) (h0 : 0 ≤ ty) (h1 : ty < 256) (p0 : Option Addr) (n : Nat) (b : List UInt8) (cap : Nat) (whole : Bool) (er : Int) (w : World) (hc : ∀ i, w.cell? ⟨cb, i, none⟩ = (#[u, .bool t] : Array Value)[i]?) (hcb : cb < w.heap.size)
    (hbody : er = 0 → whole = true → n = b.length ∧ b.length ≤ 100000 ∧ BytesIn w p0 b) :
    Calls Tryz.prog 28 #[.pointer (some ⟨cb, 0, none⟩), .agg #[.int .u8 ty, .slice p0 n cap], .bool whole, .int .i64 er] w (ItR (itemV t whole ty b er) w) := by
  have ha1 := (Below.refl w.heap.size w).alloc (Nat.le_refl _) (.cells #[.int .u8 ty, .slice p0 n cap] 73)
  have ha2 := ha1.alloc ha1.size (.cells itZ 48)
  have hm := ((Blk.new w 73 #[.int .u8 ty, .slice p0 n cap]).alloc (.cells itZ 48)).cell
  have hbg := it_hz (w.alloc (.cells #[.int .u8 ty, .slice p0 n cap] 73))
  have hz2 : ((w.alloc (.cells #[.int .u8 ty, .slice p0 n cap] 73)).alloc (.cells itZ 48)).heap.size = w.heap.size + 1 + 1 := by simp
  rw [World.size_alloc] at hbg
  have hc2 : ∀ i, ((w.alloc (.cells #[.int .u8 ty, .slice p0 n cap] 73)).alloc (.cells itZ 48)).cell? ⟨cb, i, none⟩ = (#[u, .bool t] : Array Value)[i]? := fun i => (ha2.cell (p := ⟨cb, i, none⟩) hcb).trans (hc i)
  generalize hy : itemV t whole ty b er = z
  unfold itemV at hy
  have Hy := Lib.hid hy
  clear hy
  unfold itZ at *
  go_enter Tryz.func28, Tryz.ntmps28
  go_upto_region 1 with (fail)
  have hbd : er = 0 → whole = true → n = b.length ∧ b.length ≤ 100000 ∧ BytesIn ((w.alloc (.cells #[.int .u8 ty, .slice p0 n cap] 73)).alloc (.cells #[.int .i64 0, .int .i64 0, .int .i64 0, .int .i64 0, .slice none 0 0, .int .u8 0, .int .u8 0, .string ⟨#[]⟩, .string ⟨#[]⟩, .string ⟨#[]⟩, .slice none 0 0, .slice none 0 0, .slice none 0 0, .slice none 0 0, .int .i64 0, .string ⟨#[]⟩, .string ⟨#[]⟩] 48)) p0 b := fun e1 e2 => ⟨(hbody e1 e2).1, (hbody e1 e2).2.1, (hbody e1 e2).2.2.below ha2⟩
  generalize ((w.alloc (.cells #[.int .u8 ty, .slice p0 n cap] 73)).alloc (.cells #[.int .i64 0, .int .i64 0, .int .i64 0, .int .i64 0, .slice none 0 0, .int .u8 0, .int .u8 0, .string ⟨#[]⟩, .string ⟨#[]⟩, .string ⟨#[]⟩, .slice none 0 0, .slice none 0 0, .slice none 0 0, .slice none 0 0, .int .i64 0, .string ⟨#[]⟩, .string ⟨#[]⟩] 48)) = w2 at *
  have Hz2 := Lib.hid hz2
  have HBw := Lib.hid ha2
  have HBg := Lib.hid hbg
  have Hbd := Lib.hid hbd
  clear ha1 ha2 hz2 hbg hbody hc hbd
  obtain ⟨g, hg0⟩ : ∃ g, g = w.heap.size + 1 := ⟨_, rfl⟩
  rw [← hg0] at HBg ⊢
  have Hle : Hid (w.heap.size ≤ g) := Lib.hid (by omega)
  have Hlt : Hid (g < w2.heap.size) := Lib.hid (by have := Hz2.out; omega)
  clear hg0 Hz2
  by_cases he : er = 0
  · subst he
    cases whole with
    | false =>
      obtain rfl : itNo = z := ((if_pos rfl).trans (if_neg (by simp))).symm.trans Hy.out
      clear Hy
      clear hm hc2 Hbd Hlt
      go_upto_region 4 with (fail)
      go_wp2_with (refine wpList_store_it _ rfl (.tmp 8) (.tmp 17) rfl g _ _ rfl rfl HBg.out rfl rfl (by simp [Value.oneCell']) ?_; intro w8 hb8 hT8; have HB8 := Lib.hid hb8; have HT8 := Lib.hid hT8; clear hb8 hT8)
      exact bodyPost_ret (v := .agg #[.int .i64 0, .int .i64 0, .int .i64 0, .int .i64 0, .slice none 0 0, .int .u8 0, .int .u8 0, .string ⟨#[]⟩, .string ⟨#[]⟩, .string ⟨#[]⟩, .slice none 0 0, .slice none 0 0, .slice none 0 0, .slice none 0 0, .int .i64 0, .string ⟨#[]⟩, .string ⟨#[]⟩]) (results_cell_row (fn := Tryz.f28) (p := 8) (by kernel_rfl) _ _ g _ _ (0, 0) _ rfl HB8.out Tryz.underlying48 rfl it_info) rfl (it_fin HT8.out HBw.out Hle.out (itNo) (none) (0) (foNil) (SliceS.empty none 0 (by simp [maxLen])) (FoL.zero _ _ 0))
    | true =>
      obtain ⟨rfl, hl, hb⟩ := Hbd.out rfl rfl
      cases t with
      | true =>
        obtain rfl : messageV ty b = z := ((if_pos rfl).trans ((if_pos rfl).trans (if_pos rfl))).symm.trans Hy.out
        clear Hy
        have Hw := Lib.hid (message_any ty h0 h1 p0 b cap w2 hl hb)
        generalize messageV ty b = y at *
        clear hb Hbd
        go_wp2_with fail
        refine (Hw.out).mono ?_
        rintro e w9 ⟨p9, c9, a9, rfl, hs9, hl9, hb9⟩
        have HBg := Lib.hid (HBg.out.below hb9 Hlt.out)
        have HBw := Lib.hid (HBw.out.trans (hb9.mono HBw.out.size))
        have Hs9 := Lib.hid (hs9.weak PrS.still (S' := fun j => w.heap.size ≤ j ∧ j ≠ g) (fun k hk hS => ⟨by have := Hlt.out; have := Hle.out; omega, by have := Hlt.out; omega⟩))
        have Hl9 := Lib.hid (hl9.weak (S' := fun j => w.heap.size ≤ j ∧ j ≠ g) (fun k hk hS => ⟨by have := Hlt.out; have := Hle.out; omega, by have := Hlt.out; omega⟩))
        clear hs9 hl9 hb9
        unfold itArg itCells
        go_wp2_with (refine wpList_store_it _ rfl (.tmp 8) (.tmp 24) rfl g _ _ rfl rfl HBg.out rfl rfl (by simp [Value.oneCell']) ?_; intro w8 hb8 hT8; have HB8 := Lib.hid hb8; have HT8 := Lib.hid hT8; clear hb8 hT8)
        exact bodyPost_ret (v := .agg #[.int .i64 y.kind, .int .i64 y.hel.code, .int .i64 y.hel.process, .int .i64 y.hel.secret, .slice p9 y.hel.params.length c9, .int .u8 y.front.kind, .int .u8 y.front.what, .string y.front.name, .string y.front.portal, .string y.front.text, .slice a9.po y.front.oids.length a9.co, .slice a9.pf y.front.formats.length a9.cf, .slice a9.pr y.front.results.length a9.cr, .slice a9.pp y.front.params.length a9.cp, .int .i64 y.front.max, .string y.code, .string y.text]) (results_cell_row (fn := Tryz.f28) (p := 8) (by kernel_rfl) _ _ g _ _ (0, 0) _ rfl HB8.out Tryz.underlying48 rfl it_info) rfl (it_fin HT8.out HBw.out Hle.out (y) (p9) (c9) (a9) (Hs9.out) (Hl9.out))
      | false =>
        obtain rfl : firstV b = z := ((if_pos rfl).trans ((if_pos rfl).trans (if_neg (by simp)))).symm.trans Hy.out
        clear Hy
        have Hw := Lib.hid (first_any ty p0 b cap w2 hl hb)
        generalize firstV b = y at *
        clear hb Hbd
        go_wp2_with fail
        refine (Hw.out).mono ?_
        rintro e w9 ⟨p9, c9, a9, rfl, hs9, hl9, hb9⟩
        have HBg := Lib.hid (HBg.out.below hb9 Hlt.out)
        have HBw := Lib.hid (HBw.out.trans (hb9.mono HBw.out.size))
        have Hs9 := Lib.hid (hs9.weak PrS.still (S' := fun j => w.heap.size ≤ j ∧ j ≠ g) (fun k hk hS => ⟨by have := Hlt.out; have := Hle.out; omega, by have := Hlt.out; omega⟩))
        have Hl9 := Lib.hid (hl9.weak (S' := fun j => w.heap.size ≤ j ∧ j ≠ g) (fun k hk hS => ⟨by have := Hlt.out; have := Hle.out; omega, by have := Hlt.out; omega⟩))
        clear hs9 hl9 hb9
        unfold itArg itCells
        go_wp2_with (refine wpList_store_it _ rfl (.tmp 8) (.tmp 26) rfl g _ _ rfl rfl HBg.out rfl rfl (by simp [Value.oneCell']) ?_; intro w8 hb8 hT8; have HB8 := Lib.hid hb8; have HT8 := Lib.hid hT8; clear hb8 hT8)
        exact bodyPost_ret (v := .agg #[.int .i64 y.kind, .int .i64 y.hel.code, .int .i64 y.hel.process, .int .i64 y.hel.secret, .slice p9 y.hel.params.length c9, .int .u8 y.front.kind, .int .u8 y.front.what, .string y.front.name, .string y.front.portal, .string y.front.text, .slice a9.po y.front.oids.length a9.co, .slice a9.pf y.front.formats.length a9.cf, .slice a9.pr y.front.results.length a9.cr, .slice a9.pp y.front.params.length a9.cp, .int .i64 y.front.max, .string y.code, .string y.text]) (results_cell_row (fn := Tryz.f28) (p := 8) (by kernel_rfl) _ _ g _ _ (0, 0) _ rfl HB8.out Tryz.underlying48 rfl it_info) rfl (it_fin HT8.out HBw.out Hle.out (y) (p9) (c9) (a9) (Hs9.out) (Hl9.out))
  · obtain rfl : faultV er = z := (if_neg he).symm.trans Hy.out
    clear Hy
    have heb : (er == 0) = false := by simpa using he
    have Hw := Lib.hid (wrong_any er w2)
    generalize faultV er = y at *
    clear Hbd hm hc2
    go_wp2_with fail
    refine (Hw.out).mono ?_
    rintro e w9 ⟨p9, c9, a9, rfl, hs9, hl9, hb9⟩
    have HBg := Lib.hid (HBg.out.below hb9 Hlt.out)
    have HBw := Lib.hid (HBw.out.trans (hb9.mono HBw.out.size))
    have Hs9 := Lib.hid (hs9.weak PrS.still (S' := fun j => w.heap.size ≤ j ∧ j ≠ g) (fun k hk hS => ⟨by have := Hlt.out; have := Hle.out; omega, by have := Hlt.out; omega⟩))
    have Hl9 := Lib.hid (hl9.weak (S' := fun j => w.heap.size ≤ j ∧ j ≠ g) (fun k hk hS => ⟨by have := Hlt.out; have := Hle.out; omega, by have := Hlt.out; omega⟩))
    clear hs9 hl9 hb9
    unfold itArg itCells
    go_wp2_with (refine wpList_store_it _ rfl (.tmp 8) (.tmp 13) rfl g _ _ rfl rfl HBg.out rfl rfl (by simp [Value.oneCell']) ?_; intro w8 hb8 hT8; have HB8 := Lib.hid hb8; have HT8 := Lib.hid hT8; clear hb8 hT8)
    exact bodyPost_ret (v := .agg #[.int .i64 y.kind, .int .i64 y.hel.code, .int .i64 y.hel.process, .int .i64 y.hel.secret, .slice p9 y.hel.params.length c9, .int .u8 y.front.kind, .int .u8 y.front.what, .string y.front.name, .string y.front.portal, .string y.front.text, .slice a9.po y.front.oids.length a9.co, .slice a9.pf y.front.formats.length a9.cf, .slice a9.pr y.front.results.length a9.cr, .slice a9.pp y.front.params.length a9.cp, .int .i64 y.front.max, .string y.code, .string y.text]) (results_cell_row (fn := Tryz.f28) (p := 8) (by kernel_rfl) _ _ g _ _ (0, 0) _ rfl HB8.out Tryz.underlying48 rfl it_info) rfl (it_fin HT8.out HBw.out Hle.out (y) (p9) (c9) (a9) (Hs9.out) (Hl9.out))

end Go.Proofs.YtacnmdlefonjmaaGreat

/-
  The contract of frame's Next (layer 4).
-/
namespace Go.Proofs.YtacnmdlefonjmaaGreat
open Go.RowKit

/-- The first message: its type, what is in it, what is behind it. -/
def nextL (t : Bool) (most : Nat) (L : List UInt8) (wrong : Int) : Option (Nat × List UInt8 × List UInt8) :=
  if (frWhole t L most wrong).2.1 then some (tyOf t L, (L.drop (headN t + 4)).take ((frWhole t L most wrong).1.toNat - (headN t + 4)), L.drop (frWhole t L most wrong).1.toNat) else none
/-- What is wrong then. -/
def wrongL (t : Bool) (most : Nat) (L : List UInt8) (wrong : Int) : Int := (frWhole t L most wrong).2.2

theorem frWhole_yes {t : Bool} {L : List UInt8} {most : Nat} {wrong n r : Int} (h : frWhole t L most wrong = (n, true, r)) : wrong = 0 ∧ r = 0 ∧ ∃ m, n = ((headN t + 4 + m : Nat) : Int) ∧ headN t + 4 + m ≤ L.length := by
  unfold frWhole at h
  split at h
  · simp at h
  · rename_i hw
    split at h
    · simp at h
    · split at h
      · simp at h
      · rename_i he
        simp only [Prod.mk.injEq, decide_eq_true_eq] at h
        obtain ⟨h1, h2, h3⟩ := h
        have h4 : 4 ≤ frN t L := by
          by_cases h5 : frN t L < 4
          · exfalso
            apply he
            unfold frErr
            rw [if_pos h5]
            decide
          · omega
        refine ⟨by omega, h3.symm, (frN t L - 4).toNat, by omega, by omega⟩

def PeekR (t : Bool) (L : List UInt8) (most : Nat) (wrong : Int) (e : Ending) (w' : World) (S : Nat → Prop) : Prop :=
  (nextL t most L wrong = none ∧ e = .returned (.tuple #[.agg #[.int .u8 0, .slice none 0 0], .bool false, .int .i64 (wrongL t most L wrong)])) ∨
  (∃ ty b r q d, nextL t most L wrong = some (ty, b, r) ∧ wrong = 0 ∧ wrongL t most L wrong = 0 ∧ headN t + 4 + b.length ≤ L.length ∧ r = L.drop (headN t + 4 + b.length) ∧ e = .returned (.tuple #[.agg #[.int .u8 (ty : Nat), .slice q b.length d], .bool true, .int .i64 0]) ∧ BytesS S w' [.slice q b.length d] b)

theorem frPeek_any (B sb : Nat) (t : Bool) (L : List UInt8) (most room : Nat) (wrong : Int) (v : Value) (w : World) (h : FrO B w sb t L most room wrong v) (hr : 0 < room) (hL : L.length ≤ 262144) :
    Calls Tryz.prog 29 #[.pointer (some ⟨sb, 0, none⟩)] w fun e w' => PeekR t L most wrong e w' (fun k => w.heap.size ≤ k) ∧ FrO B w' sb t L most room (wrongL t most L wrong) v ∧ Touch (fun i => i = sb) w w' := by
  obtain ⟨n, b, r, hwh⟩ : ∃ n b r, frWhole t L most wrong = (n, b, r) := ⟨_, _, _, rfl⟩
  cases b
  · refine (frPeek_no B sb t L most room wrong v n r w h hr hwh).mono ?_
    rintro e w' ⟨rfl, hf, ht⟩
    have hn : nextL t most L wrong = none := by unfold nextL; rw [hwh]; rfl
    have hw : wrongL t most L wrong = r := by unfold wrongL; rw [hwh]
    rw [hw]
    exact ⟨.inl ⟨hn, by rw [hw]⟩, hf, ht⟩
  · obtain ⟨rfl, rfl, m, rfl, hm⟩ := frWhole_yes hwh
    have hw : wrongL t most L 0 = 0 := by unfold wrongL; rw [hwh]
    have hh : headN t ≤ 1 := by cases t <;> simp [headN]
    have hbl : ((L.drop (headN t + 4)).take m).length = m := by rw [List.length_take, List.length_drop]; omega
    have hn : nextL t most L 0 = some (tyOf t L, (L.drop (headN t + 4)).take m, L.drop (headN t + 4 + m)) := by
      unfold nextL
      rw [hwh]
      simp only [if_true, Int.toNat_natCast]
      rw [show headN t + 4 + m - (headN t + 4) = m from by omega]
    refine (frPeek_yes B sb t L most room v (headN t) m _ w h hr rfl hh hwh hm hL rfl).mono ?_
    rintro e w' ⟨q, d, rfl, hb, hf, ht⟩
    rw [hw]
    exact ⟨.inr ⟨_, _, _, q, d, hn, rfl, hw, by rw [hbl]; exact hm, by rw [hbl], rfl, hb⟩, hf, ht⟩

theorem frNext_nil (w : World) : Calls Tryz.prog 34 #[.pointer none] w fun e w' => e = .returned (.tuple #[.agg #[.int .u8 0, .slice none 0 0], .bool false, .int .i64 2]) ∧ Below w.heap.size w w' := by
  have Ha := Lib.hid ((Below.refl w.heap.size w).alloc (Nat.le_refl _) (.cells #[.int .u8 0, .slice none 0 0] 73))
  have Hr := Lib.hid (Blk.new w 73 #[.int .u8 0, .slice none 0 0])
  go_enter Tryz.func34, Tryz.ntmps34
  go_wp2_with fail
  generalize w.alloc (.cells #[.int .u8 0, .slice none 0 0] 73) = w1 at *
  refine (frPeek_nil w1).mono ?_
  rintro e w2 ⟨rfl, hb2⟩
  have hr2 := Hr.out.below hb2 Hr.out.lt
  have hl2 := hr2.lt
  have hrc := hr2.cell
  have hf0 := hr2.frozen 0
  have hf1 := hr2.frozen 1
  have Hb2 := Lib.hid (Ha.out.trans (hb2.mono Ha.out.size))
  have hz := Hb2.out.size
  clear hb2 hr2
  go_wp2
  exact bodyPost_ret (v := .tuple #[.agg #[.int .u8 0, .slice none 0 0], .bool false, .int .i64 2]) (by simp [results, Tryz.results34, go_sem, hrc, hl2]) rfl ⟨rfl, ((Hb2.out.setCell (by exact Nat.le_refl _) _).setCell (by exact Nat.le_refl _) _).alloc (by simpa [World.setCell] using hz) _⟩

/-- What the taking of a message leaves. -/
def NxC (w wx : World) (B sb : Nat) (t : Bool) (R : List UInt8) (most room : Nat) (v : Value) (g ty : Nat) (b : List UInt8) (q : Option Addr) (d : Nat) : Prop :=
  ∃ v', FrO B wx sb t R most room 0 v' ∧ (∀ k, rowOf v' = some k → rowOf v = some k) ∧ Blk wx g 73 #[.int .u8 (ty : Nat), .slice q b.length d] ∧ Blk wx w.heap.size 73 #[.int .u8 0, .slice none 0 0] ∧
    BytesS (fun k => w.heap.size < k) wx [.slice q b.length d] b ∧ Touch (fun i => i = sb ∨ rowOf v = some i) w wx

/-- What stays ahead of it. -/
structure NxI (w0 w : World) (B sb : Nat) (t : Bool) (L : List UInt8) (most room : Nat) (v : Value) (g ty : Nat) (b : List UInt8) (q : Option Addr) (d : Nat) : Prop where
  fr : FrO B w sb t L most room 0 v
  msg : Blk w g 73 #[.int .u8 (ty : Nat), .slice q b.length d]
  res : Blk w w0.heap.size 73 #[.int .u8 0, .slice none 0 0]
  body : BytesS (fun k => w0.heap.size < k) w [.slice q b.length d] b
  tch : Touch (fun i => i = sb) w0 w
  sbl : sb < w0.heap.size
  row : ∀ k, rowOf v = some k → k < w0.heap.size
  gl : w0.heap.size < g

theorem NxI.step {w0 w w' : World} {B sb : Nat} {t : Bool} {L : List UInt8} {most room : Nat} {v : Value} {g ty : Nat} {b : List UInt8} {q : Option Addr} {d : Nat} (h : NxI w0 w B sb t L most room v g ty b q d) (hb : Below w.heap.size w w') : NxI w0 w' B sb t L most room v g ty b q d :=
  ⟨h.fr.still hb, h.msg.below hb h.msg.lt, h.res.below hb h.res.lt, BytesS.still _ _ _ _ _ _ h.body (Kept.all hb), h.tch.then (Touch.of_below (p := fun i => i = sb) hb) (fun _ _ e => e), h.sbl, h.row, h.gl⟩

theorem nxC_end {w w4 w5 : World} {B sb : Nat} {t : Bool} {L R : List UInt8} {most room : Nat} {v v' : Value} {g ty : Nat} {b : List UInt8} {q : Option Addr} {d : Nat} (h : NxI w w4 B sb t L most room v g ty b q d) (ho : OwnBR B w5 v' R) (hr : rowOf v' = rowOf v) (hT : Touch (fun i => rowOf v = some i) w4 w5) :
    NxC w (w5.setCell ⟨sb, 1, none⟩ v') B sb t R most room v g ty b q d := by
  have hsl := h.sbl
  have hgl := h.gl
  have hT2 : Touch (fun i => i = sb) w5 (w5.setCell ⟨sb, 1, none⟩ v') := (Touch.refl (fun i => i = sb) w5).setCell (x := ⟨sb, 1, none⟩) (fun _ => rfl) _
  have hTT : Touch (fun i => i = sb ∨ rowOf v = some i) w4 (w5.setCell ⟨sb, 1, none⟩ v') := (hT.mono (fun _ _ e => .inr e)).trans (hT2.mono (fun _ _ e => .inl e))
  refine ⟨v', FrO.setBytes (hT.blk h.fr.blk h.fr.no) h.fr.sB ho (by rw [hr]; exact h.fr.no), fun k hk => by rw [← hr]; exact hk, hTT.blk h.msg ?_, hTT.blk h.res ?_, BytesS.still _ _ _ _ _ _ h.body (Kept.touch hTT (fun k _ hs => ⟨hs, ?_⟩)), (h.tch.mono (fun _ _ e => .inl e)).then hTT (fun i _ e => e)⟩
  · rintro (e | e)
    · omega
    · have := h.row _ e; omega
  · rintro (e | e)
    · omega
    · have := h.row _ e; omega
  · rintro (e | e)
    · omega
    · have := h.row _ e; omega

end Go.Proofs.YtacnmdlefonjmaaGreat

/-
  The contract of frame's Next on a framer that a call made (layer 4).
-/
namespace Go.Proofs.YtacnmdlefonjmaaGreat
open Go.RowKit

def NextR (B sb : Nat) (t : Bool) (L : List UInt8) (most room : Nat) (wrong : Int) (v : Value) (w : World) (e : Ending) (w' : World) : Prop :=
  (nextL t most L wrong = none ∧ e = .returned (.tuple #[.agg #[.int .u8 0, .slice none 0 0], .bool false, .int .i64 (wrongL t most L wrong)]) ∧ FrO B w' sb t L most room (wrongL t most L wrong) v ∧ Touch (fun i => i = sb) w w') ∨
  (∃ ty b r q d v', nextL t most L wrong = some (ty, b, r) ∧ wrong = 0 ∧ r.length < L.length ∧ b.length ≤ L.length ∧ e = .returned (.tuple #[.agg #[.int .u8 (ty : Nat), .slice q b.length d], .bool true, .int .i64 0]) ∧ BytesS (fun k => w.heap.size ≤ k) w' [.slice q b.length d] b ∧
    FrO B w' sb t r most room 0 v' ∧ (∀ k, rowOf v' = some k → rowOf v = some k) ∧ FrT sb v w w')

set_option maxRecDepth 100000 in
set_option maxHeartbeats 10000000 in
theorem frNext_any (B sb : Nat) (t : Bool) (L : List UInt8) (most room : Nat) (wrong : Int) (v : Value) (w : World) (h : FrO B w sb t L most room wrong v) (hr : 0 < room) (hL : L.length ≤ 262144) :
    Calls Tryz.prog 34 #[.pointer (some ⟨sb, 0, none⟩)] w fun e w' => NextR B sb t L most room wrong v w e w' := by
  have H1 := Lib.hid (h.alloc (.cells #[.int .u8 0, .slice none 0 0] 73))
  have Hres := Lib.hid (Blk.new w 73 #[.int .u8 0, .slice none 0 0])
  have HT1 := Lib.hid ((Touch.refl (fun i => i = sb) w).alloc (.cells #[.int .u8 0, .slice none 0 0] 73))
  have hsl := h.blk.lt
  have Hrow := Lib.hid (fun k hk => (h.own.row k hk).2)
  clear h
  go_enter Tryz.func34, Tryz.ntmps34
  go_wp2_with fail
  have hz1 : (w.alloc (.cells #[.int .u8 0, .slice none 0 0] 73)).heap.size = w.heap.size + 1 := by simp
  generalize w.alloc (.cells #[.int .u8 0, .slice none 0 0] 73) = w1 at *
  refine (frPeek_any B sb t L most room wrong v w1 H1.out hr hL).mono ?_
  rintro e w2 ⟨hp, hf2, hT2⟩
  have hres2 := hT2.blk Hres.out (by omega)
  have HT2 := Lib.hid (HT1.out.trans hT2)
  have hz2 := hT2.size
  rcases hp with ⟨hn, rfl⟩ | ⟨ty, b, r, q, d, hn, rfl, hw0, hbl, rfl, rfl, hbs⟩
  · have Hn := Lib.hid hn
    have Hf2 := Lib.hid hf2
    have hrl := hres2.lt
    have hrc := hres2.cell
    have hrf0 := hres2.frozen 0
    have hrf1 := hres2.frozen 1
    generalize hwl : wrongL t most L wrong = wl at *
    have Hwl := Lib.hid hwl
    clear hn hf2 hT2 hres2 hz1 hwl
    go_wp2
    refine bodyPost_ret (v := .tuple #[.agg #[.int .u8 0, .slice none 0 0], .bool false, .int .i64 wl]) (by simp [results, Tryz.results34, go_sem, hrc, hrl]) rfl (.inl ⟨Hn.out, by rw [Hwl.out], ?_, ?_⟩)
    · rw [Hwl.out]
      have hT : Touch (fun i => i = w.heap.size) w2 ((w2.setCell ⟨w.heap.size, 0, none⟩ (.int .u8 0)).setCell ⟨w.heap.size, 1, none⟩ (.slice none 0 0)) := ((Touch.refl (fun i => i = w.heap.size) w2).setCell (x := ⟨w.heap.size, 0, none⟩) (fun _ => rfl) _).setCell (x := ⟨w.heap.size, 1, none⟩) (fun _ => rfl) _
      exact (Hf2.out.touch hT (by omega) (fun k hk e => by have := Hrow.out k hk; omega)).alloc _
    · have hT : Touch (fun i => i = w.heap.size) w2 ((w2.setCell ⟨w.heap.size, 0, none⟩ (.int .u8 0)).setCell ⟨w.heap.size, 1, none⟩ (.slice none 0 0)) := ((Touch.refl (fun i => i = w.heap.size) w2).setCell (x := ⟨w.heap.size, 0, none⟩) (fun _ => rfl) _).setCell (x := ⟨w.heap.size, 1, none⟩) (fun _ => rfl) _
      exact (HT2.out.then hT (fun i hi e => by omega)).alloc _
  · rw [hw0] at hf2
    have hh1 : headN t ≤ 1 := by cases t <;> simp [headN]
    have Hn := Lib.hid hn
    have HI := Lib.hid (show NxI w (w2.alloc (.cells #[.int .u8 (ty : Nat), .slice q b.length d] 73)) B sb t L most room v w2.heap.size ty b q d from
      ⟨hf2.alloc _, Blk.new _ _ _, hres2.alloc _, BytesS.still _ _ _ _ _ _ hbs (fun k hk hs => ⟨by omega, Below.heap_alloc w2 _ k hk⟩), HT2.out.alloc _, hsl, Hrow.out, by omega⟩)
    clear hn hf2 hT2 hres2 hbs hw0 HT1 HT2 Hres H1
    go_upto_region 3 with (fail)
    generalize w2.alloc (.cells #[.int .u8 (ty : Nat), .slice q b.length d] 73) = w3 at *
    generalize w2.heap.size = g at *
    obtain ⟨pv, cv, rfl, hpv1, hpv2, _⟩ := HI.out.fr.own.slice
    have hfc := HI.out.fr.blk.cell
    have hmc := HI.out.msg.cell
    unfold maxLen at hpv2
    have hws : IntKind.i64.wrap ((headN t : Int) + 4) = (headN t : Int) + 4 := by rw [IntKind.wrap_i64]; omega
    have hws2 : IntKind.i64.wrap ((headN t : Int) + 4 + (b.length : Int)) = (headN t : Int) + 4 + (b.length : Int) := by rw [IntKind.wrap_i64]; omega
    have Hsum := Lib.hid (show (headN t : Int) + 4 + (b.length : Int) = ((headN t + 4 + b.length : Nat) : Int) by omega)
    go_cut [] (fun wx => NxC w wx B sb t (L.drop (headN t + 4 + b.length)) most room (.slice pv L.length cv) g ty b q d)
    case first =>
      go_region_with (first
        | (go_at_call 52; refine (frHead_any t _).mono ?_; rintro e w4 ⟨rfl, hb4⟩; have HI4 := Lib.hid (HI.out.step (below_ofDr hb4)); have hfc4 := HI4.out.fr.blk.cell; have hmc4 := HI4.out.msg.cell; clear hb4)
        | (go_at_call 62; rw [Hsum.out]; refine (delete_any B _ L (headN t + 4 + b.length) _ HI4.out.fr.own (by omega) hbl).mono ?_; rintro e w5 ⟨v5, rfl, ho5, hr5, hT5⟩; obtain ⟨p5, n5, c5, rfl⟩ : ∃ p n c, v5 = .slice p n c := (by obtain ⟨p, c, h, _⟩ := ho5.slice; exact ⟨p, _, c, h⟩); have hfb5 := hT5.blk HI4.out.fr.blk HI4.out.fr.no; have hfc5 := hfb5.cell; have hff5 := hfb5.frozen 1; have HO5 := Lib.hid (nxC_end HI4.out ho5 hr5 hT5); clear ho5 hr5 hT5 hfb5))
      all_goals
        go_wp2_with fail
        go_meet
        exact HO5.out
    case rest =>
      obtain ⟨v', hf, hrw, hm, hres, hbs, hT⟩ := hcut
      have hmc5 := hm.cell
      have hrc := hres.cell
      have hrf0 := hres.frozen 0
      have hrf1 := hres.frozen 1
      have Hf := Lib.hid hf
      have Hrw := Lib.hid hrw
      have Hbs := Lib.hid hbs
      have HT := Lib.hid hT
      have hTs : ∀ a c, Touch (fun i => i = w.heap.size) wc ((wc.setCell ⟨w.heap.size, 0, none⟩ a).setCell ⟨w.heap.size, 1, none⟩ c) := fun a c => ((Touch.refl (fun i => i = w.heap.size) wc).setCell (x := ⟨w.heap.size, 0, none⟩) (fun _ => rfl) a).setCell (x := ⟨w.heap.size, 1, none⟩) (fun _ => rfl) c
      have HTs := Lib.hid hTs
      have hrl : (L.drop (headN t + 4 + b.length)).length < L.length := by rw [List.length_drop]; omega
      have Hrl := Lib.hid hrl
      have hwg : ¬ g = w.heap.size := by omega
      have hwg2 : ¬ w.heap.size = g := by omega
      clear hf hrw hbs hT hTs hm hres hrl hfc hmc
      go_wp2
      refine bodyPost_ret (v := .tuple #[.agg #[.int .u8 (ty : Nat), .slice q b.length d], .bool true, .int .i64 0]) (by simp [results, Tryz.results34, go_sem, hrc]) rfl (.inr ⟨ty, b, _, q, d, v', Hn.out, rfl, Hrl.out, by omega, rfl, ?_, ?_, Hrw.out, ?_⟩)
      · exact BytesS.still _ _ _ _ _ _ Hbs.out (Kept.touch (HTs.out _ _) (fun k _ hs => ⟨by omega, by omega⟩))
      · exact Hf.out.touch (HTs.out _ _) (by omega) (fun k hk e => by have := Hrow.out k (Hrw.out k hk); omega)
      · exact HT.out.then (HTs.out _ _) (fun i hi e => by omega)

end Go.Proofs.YtacnmdlefonjmaaGreat

/-
  A client in memory (layer 39).
-/
namespace Go.Proofs.YtacnmdlefonjmaaGreat
open Go.RowKit
set_option linter.unusedVariables false
set_option linter.unusedSimpArgs false

/-- A client in memory: its struct in block cb, its framer. -/
structure ClO (B : Nat) (w : World) (cb sb : Nat) (t : Bool) (L : List UInt8) (most room : Nat) (wrong : Int) (v : Value) : Prop where
  blk : Blk w cb 65 #[.pointer (some ⟨sb, 0, none⟩), .bool t]
  fr : FrO B w sb t L most room wrong v
  cB : B ≤ cb
  ne : cb ≠ sb
  no : rowOf v ≠ some cb
section
variable {B : Nat} {w w' : World} {cb sb : Nat} {t : Bool} {L L' : List UInt8} {most room : Nat} {wrong wrong' : Int} {v v' : Value}
theorem ClO.touch {p : Nat → Prop} (h : ClO B w cb sb t L most room wrong v) (ht : Touch p w w') (h0 : ¬ p cb) (h1 : ¬ p sb) (h2 : ∀ k, rowOf v = some k → ¬ p k) : ClO B w' cb sb t L most room wrong v :=
  ⟨ht.blk h.blk h0, h.fr.touch ht h1 h2, h.cB, h.ne, h.no⟩
theorem ClO.still (h : ClO B w cb sb t L most room wrong v) (hb : Below w.heap.size w w') : ClO B w' cb sb t L most room wrong v :=
  h.touch (Touch.of_below (p := fun _ => False) hb) (fun e => e) (fun e => e) (fun _ _ e => e)
/-- The framer did a step. -/
theorem ClO.step (h : ClO B w cb sb t L most room wrong v) (hf : FrO B w' sb t L' most room wrong' v') (hr : ∀ k, rowOf v' = some k → rowOf v = some k ∨ w.heap.size ≤ k) (hT : Touch (fun i => i = sb ∨ rowOf v = some i) w w') : ClO B w' cb sb t L' most room wrong' v' :=
  ⟨hT.blk h.blk (fun e => by rcases e with e | e; (· exact h.ne e); (· exact h.no e)), hf, h.cB, h.ne, fun e => by
    rcases hr cb e with e' | e'
    · exact h.no e'
    · have := h.blk.lt; omega⟩
end
theorem clReady_nil (w : World) : Calls Tryz.prog 24 #[.pointer none] w fun e w' => e = .returned (.bool false) ∧ w = w' := by
  go_enter Tryz.func24, Tryz.ntmps24
  go_wp2
  go_ret
  exact ⟨rfl, rfl⟩
set_option maxRecDepth 100000 in
theorem clReady_blk (cb : Nat) (u : Value) (p : Option Addr) (w : World) (h : ∀ i, w.cell? ⟨cb, i, none⟩ = (#[.pointer p, u] : Array Value)[i]?) :
    Calls Tryz.prog 24 #[.pointer (some ⟨cb, 0, none⟩)] w fun e w' => e = .returned (.bool p.isSome) ∧ w = w' := by
  cases p with
  | none =>
    go_enter Tryz.func24, Tryz.ntmps24
    go_wp2
    go_ret
    exact ⟨rfl, rfl⟩
  | some a =>
    go_enter Tryz.func24, Tryz.ntmps24
    go_wp2
    go_ret
    exact ⟨rfl, rfl⟩
/-- What no call made. -/
theorem cl_none (x : Option Addr) (u : Value) (w : World) (h : x = none ∨ ∃ cb, x = some ⟨cb, 0, none⟩ ∧ ∀ i, w.cell? ⟨cb, i, none⟩ = (#[.pointer none, u] : Array Value)[i]?) :
    Calls Tryz.prog 24 #[.pointer x] w fun e w' => e = .returned (.bool false) ∧ w = w' := by
  rcases h with rfl | ⟨cb, rfl, h⟩
  · exact clReady_nil w
  · exact clReady_blk cb u none w h
theorem clFeed_none (x : Option Addr) (y : Value) (w : World) (h : Calls Tryz.prog 24 #[.pointer x] w fun e w' => e = .returned (.bool false) ∧ w = w') :
    Calls Tryz.prog 9 #[.pointer x, y] w fun e w' => e = .returned (.int .i64 2) ∧ w = w' := by
  have H := Lib.hid h
  clear h
  go_enter Tryz.func9, Tryz.ntmps9
  go_wp2_with fail
  refine H.out.mono ?_
  rintro e w1 ⟨rfl, rfl⟩
  go_wp2
  go_ret
  exact ⟨rfl, rfl⟩
theorem clSize_none (x : Option Addr) (w : World) (h : Calls Tryz.prog 24 #[.pointer x] w fun e w' => e = .returned (.bool false) ∧ w = w') :
    Calls Tryz.prog 17 #[.pointer x] w fun e w' => e = .returned (.int .i64 0) ∧ w = w' := by
  have H := Lib.hid h
  clear h
  go_enter Tryz.func17, Tryz.ntmps17
  go_wp2_with fail
  refine H.out.mono ?_
  rintro e w1 ⟨rfl, rfl⟩
  go_wp2
  go_ret
  exact ⟨rfl, rfl⟩
theorem clBegin_nil (w : World) : Calls Tryz.prog 16 #[.pointer none] w fun e w' => e = .returned (.tuple #[]) ∧ w = w' := by
  go_enter Tryz.func16, Tryz.ntmps16
  go_wp2_with fail
  refine (clReady_nil _).mono ?_
  rintro e w1 ⟨rfl, rfl⟩
  go_wp2
  go_end0
  exact ⟨rfl, rfl⟩

theorem frBegin_any (B sb : Nat) (t : Bool) (L : List UInt8) (most room : Nat) (wrong : Int) (v : Value) (w : World) (h : FrO B w sb t L most room wrong v) (hr : 0 < room) :
    Calls Tryz.prog 36 #[.pointer (some ⟨sb, 0, none⟩)] w fun e w' => e = .returned (.tuple #[]) ∧ FrO B w' sb true L most room wrong v ∧ Touch (fun i => i = sb) w w' := by
  obtain ⟨p, c, rfl, _⟩ := h.own.slice
  have hc := h.blk.cell
  have hf := h.blk.frozen
  have hd : decide (0 < room) = true := by simpa using hr
  have HR := frReady_blk sb _ _ _ _ room w hc
  rw [hd] at HR
  have HR := Lib.hid HR
  have hT : Touch (fun i => i = sb) w (w.setCell ⟨sb, 0, none⟩ (.bool true)) := (Touch.refl (fun i => i = sb) w).setCell (x := ⟨sb, 0, none⟩) (fun _ => rfl) _
  have HE : Hid (FrO B (w.setCell ⟨sb, 0, none⟩ (.bool true)) sb true L most room wrong (.slice p L.length c) ∧ Touch (fun i => i = sb) w (w.setCell ⟨sb, 0, none⟩ (.bool true))) := Lib.hid ⟨⟨by simpa using h.blk.set_ 0 (.bool true), h.own.touch hT (fun k hk e => h.no (by rw [hk, e])), h.sB, h.no⟩, hT⟩
  clear h hT hd
  go_enter Tryz.func36, Tryz.ntmps36
  go_wp2_with fail
  refine HR.out.mono ?_
  rintro e w1 ⟨rfl, rfl⟩
  go_wp2
  go_end0
  exact ⟨rfl, HE.out⟩
theorem frFeed_full (B sb : Nat) (t : Bool) (L : List UInt8) (most room : Nat) (wrong : Int) (v : Value) (p : Option Addr) (n c : Nat) (w : World) (h : FrO B w sb t L most room wrong v) (hr : 0 < room) (hrm : room ≤ 262144) (hL : L.length ≤ room) (hfull : room < L.length + n) :
    Calls Tryz.prog 25 #[.pointer (some ⟨sb, 0, none⟩), .slice p n c] w fun e w' => e = .returned (.int .i64 6) ∧ ∃ r, w' = w.drewN r := by
  obtain ⟨pv, cv, rfl, _⟩ := h.own.slice
  have hc := h.blk.cell
  have hd : decide (0 < room) = true := by simpa using hr
  have HR := frReady_blk sb _ _ _ _ room w hc
  rw [hd] at HR
  have HR := Lib.hid HR
  have hwr : IntKind.i64.wrap ((room : Int) - (L.length : Int)) = (room : Int) - (L.length : Int) := by rw [IntKind.wrap_i64]; omega
  have hgt : (room : Int) - (L.length : Int) < (n : Int) := by omega
  clear h hd
  go_enter Tryz.func25, Tryz.ntmps25
  go_wp2_with fail
  refine HR.out.mono ?_
  rintro e w1 ⟨rfl, rfl⟩
  go_wp2_with fail
  go_quiet (fail)
  go_wp2
  go_ret
  exact ⟨rfl, _, rfl⟩

theorem clNew_ok (most room : Nat) (w : World) (h1 : 4 ≤ most) (h2 : most ≤ 65536) (h3 : most < room) (h4 : room ≤ 262144) :
    Calls Tryz.prog 5 #[.int .i64 (most : Int), .int .i64 (room : Int)] w fun e w' => ∃ cb sb, e = .returned (.tuple #[.pointer (some ⟨cb, 0, none⟩), .int .i64 0]) ∧ ClO w.heap.size w' cb sb false [] most room 0 (.slice none 0 0) ∧ Below w.heap.size w w' := by
  have HN := Lib.hid (frNew_ok most room true w h1 h2 h3 h4)
  go_enter Tryz.func5, Tryz.ntmps5
  go_wp2_with fail
  refine HN.out.mono ?_
  rintro e w1 ⟨rfl, hf, hb⟩
  have hlt := hf.blk.lt
  have HF : Hid (ClO w.heap.size (w1.alloc (.cells #[.pointer (some ⟨w.heap.size, 0, none⟩), .bool false] 65)) w1.heap.size w.heap.size false [] most room 0 (.slice none 0 0)) := Lib.hid ⟨Blk.new _ _ _, hf.alloc _, hb.size, by omega, by simp [rowOf]⟩
  have HB := Lib.hid (hb.alloc hb.size (.cells #[.pointer (some ⟨w.heap.size, 0, none⟩), .bool false] 65))
  clear hf hb hlt HN
  go_wp2_with fail
  go_ret2
  exact ⟨_, _, rfl, HF.out, HB.out⟩
theorem clFeed_ok (B cb sb : Nat) (t : Bool) (L : List UInt8) (most room : Nat) (wrong : Int) (v : Value) (p : Option Addr) (l : List UInt8) (c : Nat) (w : World) (h : ClO B w cb sb t L most room wrong v) (hr : 0 < room) (hrm : room ≤ 262144)
    (hfit : L.length + l.length ≤ room) (hBw : B ≤ w.heap.size) (hl : BytesIn w p l) :
    Calls Tryz.prog 9 #[.pointer (some ⟨cb, 0, none⟩), .slice p l.length c] w fun e w' => ∃ v', e = .returned (.int .i64 0) ∧ ClO B w' cb sb t (L ++ l) most room wrong v' ∧ (∀ k, rowOf v' = some k → rowOf v = some k ∨ w.heap.size ≤ k) ∧ FrT sb v w w' := by
  have hc := h.blk.cell
  have HR := Lib.hid (clReady_blk cb _ _ w hc)
  have HF := Lib.hid (frFeed_ok B sb t L most room wrong v p l c w h.fr hr hrm hfit hBw hl)
  have H := Lib.hid h
  clear h hl
  go_enter Tryz.func9, Tryz.ntmps9
  go_wp2_with fail
  refine HR.out.mono ?_
  rintro e w1 ⟨rfl, rfl⟩
  go_wp2_with fail
  refine HF.out.mono ?_
  rintro e w2 ⟨v', rfl, hf, hr', hT⟩
  have HE := Lib.hid (And.intro (H.out.step hf hr' hT) (And.intro hr' hT))
  clear hf hr' hT HF
  go_wp2_with fail
  go_ret
  exact ⟨v', rfl, HE.out⟩
theorem clFeed_full (B cb sb : Nat) (t : Bool) (L : List UInt8) (most room : Nat) (wrong : Int) (v : Value) (p : Option Addr) (n c : Nat) (w : World) (h : ClO B w cb sb t L most room wrong v) (hr : 0 < room) (hrm : room ≤ 262144) (hL : L.length ≤ room) (hfull : room < L.length + n) :
    Calls Tryz.prog 9 #[.pointer (some ⟨cb, 0, none⟩), .slice p n c] w fun e w' => e = .returned (.int .i64 6) ∧ ∃ r, w' = w.drewN r := by
  have hc := h.blk.cell
  have HR := Lib.hid (clReady_blk cb _ _ w hc)
  have HF := Lib.hid (frFeed_full B sb t L most room wrong v p n c w h.fr hr hrm hL hfull)
  clear h
  go_enter Tryz.func9, Tryz.ntmps9
  go_wp2_with fail
  refine HR.out.mono ?_
  rintro e w1 ⟨rfl, rfl⟩
  go_wp2_with fail
  refine HF.out.mono ?_
  rintro e w2 ⟨rfl, r, rfl⟩
  go_wp2_with fail
  go_ret
  exact ⟨rfl, r, rfl⟩
theorem clSize_any (B cb sb : Nat) (t : Bool) (L : List UInt8) (most room : Nat) (wrong : Int) (v : Value) (w : World) (h : ClO B w cb sb t L most room wrong v) (hr : 0 < room) :
    Calls Tryz.prog 17 #[.pointer (some ⟨cb, 0, none⟩)] w fun e w' => e = .returned (.int .i64 (L.length : Nat)) ∧ w = w' := by
  have hc := h.blk.cell
  have HR := Lib.hid (clReady_blk cb _ _ w hc)
  have HF := Lib.hid (frSize_any B sb t L most room wrong v w h.fr hr)
  clear h
  go_enter Tryz.func17, Tryz.ntmps17
  go_wp2_with fail
  refine HR.out.mono ?_
  rintro e w1 ⟨rfl, rfl⟩
  go_wp2_with fail
  refine HF.out.mono ?_
  rintro e w2 ⟨rfl, rfl⟩
  go_wp2_with fail
  go_ret
  exact ⟨rfl, rfl⟩
theorem clBegin_any (B cb sb : Nat) (t : Bool) (L : List UInt8) (most room : Nat) (wrong : Int) (v : Value) (w : World) (h : ClO B w cb sb t L most room wrong v) (hr : 0 < room) :
    Calls Tryz.prog 16 #[.pointer (some ⟨cb, 0, none⟩)] w fun e w' => e = .returned (.tuple #[]) ∧ ClO B w' cb sb true L most room wrong v ∧ Touch (fun i => i = cb ∨ i = sb) w w' := by
  have hc := h.blk.cell
  have hf := h.blk.frozen
  have HR := Lib.hid (clReady_blk cb _ _ w hc)
  have hT1 : Touch (fun i => i = cb) w (w.setCell ⟨cb, 1, none⟩ (.bool true)) := (Touch.refl (fun i => i = cb) w).setCell (x := ⟨cb, 1, none⟩) (fun _ => rfl) _
  have hb1 : Blk (w.setCell ⟨cb, 1, none⟩ (.bool true)) cb 65 #[.pointer (some ⟨sb, 0, none⟩), .bool true] := by simpa using h.blk.set_ 1 (.bool true)
  have HF := Lib.hid (frBegin_any B sb t L most room wrong v _ (h.fr.touch hT1 (fun e => h.ne e.symm) (fun k hk e => h.no (by rw [hk, e]))) hr)
  have H := Lib.hid h
  have HB1 := Lib.hid hb1
  have HT1 := Lib.hid hT1
  have hc1 := hb1.cell
  clear h hT1 hb1
  go_enter Tryz.func16, Tryz.ntmps16
  go_wp2_with fail
  refine HR.out.mono ?_
  rintro e w1 ⟨rfl, rfl⟩
  go_upto_region 2 with (fail)
  generalize (w.setCell ⟨cb, 1, none⟩ (.bool true)) = w1 at *
  clear hc hf
  go_wp2_with fail
  refine HF.out.mono ?_
  rintro e w2 ⟨rfl, hf2, hT2⟩
  have HE : Hid (ClO B w2 cb sb true L most room wrong v ∧ Touch (fun i => i = cb ∨ i = sb) w w2) := Lib.hid ⟨⟨hT2.blk HB1.out H.out.ne, hf2, H.out.cB, H.out.ne, H.out.no⟩, (HT1.out.mono (fun _ _ e => .inl e)).trans (hT2.mono (fun _ _ e => .inr e))⟩
  clear hf2 hT2 HF
  go_wp2
  go_end0
  exact ⟨rfl, HE.out⟩

end Go.Proofs.YtacnmdlefonjmaaGreat

