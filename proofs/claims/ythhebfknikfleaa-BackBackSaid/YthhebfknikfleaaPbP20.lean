/-
  Ground: BbGr, BbH, FpM, BbS, BbN, MgS, BbNr.
-/
import Derived.Test.YthhebfknikfleaaPbXBbG
import Derived.Deep.RegionHeld3
import Derived.Test.YthhebfknikfleaaPbP4
import Derived.Test.YthhebfknikfleaaPbP1
import Derived.Test.YthhebfknikfleaaPbP16
import Derived.Test.YthhebfknikfleaaPbP0
/-
  Messages of servers (layer 7): a message that is read, by its kinds: the program's.
-/
namespace Go.Proofs.Ythhebfknikfleaa
open Go.RowKit
set_option linter.unusedVariables false
set_option linter.unusedSimpArgs false


set_option maxRecDepth 100000 in
set_option maxHeartbeats 4000000 in
theorem bmsg_R (sb g : Nat) (L : List UInt8) (bad : Bool) (w : World) (h : ScanO w sb g L bad) (hL : L.length ≤ 100000) :
    Calls Try.prog 75 #[.agg #[.pointer (some ⟨sb, 0, none⟩)], .int .u8 82] w (bmsgR sb g L bad 82 w) := by
  have hsb := h.lt
  have Hg := Lib.hid (fun e : L ≠ [] => h.ltg e)
  have hA : Below w.heap.size w (w.alloc (.cells #[.pointer (some ⟨sb, 0, none⟩)] 124)) := (Below.refl _ _).alloc (Nat.le_refl _) _
  have hm := BmI.start sb w (w.alloc (.cells #[.pointer (some ⟨sb, 0, none⟩)] 124)) 82 (Touch.of_below hA) hsb
  rw [show (w.alloc (.cells #[.pointer (some ⟨sb, 0, none⟩)] 124)).heap.size = w.heap.size + 1 by simp] at hm
  have hk := ((Blk.new w 124 #[.pointer (some ⟨sb, 0, none⟩)]).alloc (.cells baZ 33)).alloc (.cells (baCells (baZero 82) baNil) 33)
  have hs := h.touch (p := fun _ => False) ((((Touch.refl _ w).alloc (.cells #[.pointer (some ⟨sb, 0, none⟩)] 124)).alloc (.cells baZ 33)).alloc (.cells (baCells (baZero 82) baNil) 33)) (fun e => e) (fun _ e => e)
  unfold baZ at hm hk hs
  rw [show baCells (baZero 82) baNil = #[.int .u8 82, .int .u8 0, .string ⟨#[]⟩, .string ⟨#[]⟩, .string ⟨#[]⟩, .int .i64 0, .int .i64 0, .slice none 0 0, .slice none 0 0, .slice none 0 0, .slice none 0 0] from rfl] at hm hk hs
  have Hm1 := Lib.hid hm
  have HK1 := Lib.hid hk
  have Hs1 := Lib.hid hs
  clear h hA hm hk hs
  go_enter Try.func75, Try.ntmps75
  go_upto_region 2 with (fail)
  generalize ((w.alloc (.cells #[.pointer (some ⟨sb, 0, none⟩)] 124)).alloc (.cells #[.int .u8 0, .int .u8 0, .string ⟨#[]⟩, .string ⟨#[]⟩, .string ⟨#[]⟩, .int .i64 0, .int .i64 0, .slice none 0 0, .slice none 0 0, .slice none 0 0, .slice none 0 0] 33)).alloc (.cells #[.int .u8 82, .int .u8 0, .string ⟨#[]⟩, .string ⟨#[]⟩, .string ⟨#[]⟩, .int .i64 0, .int .i64 0, .slice none 0 0, .slice none 0 0, .slice none 0 0, .slice none 0 0] 33) = w1 at *
  have c1 : ∀ i, w1.cell? ⟨w.heap.size, i, none⟩ = (#[.pointer (some ⟨sb, 0, none⟩)] : Array Value)[i]? := HK1.out.cell
  have Hm1d := Lib.hid (Hm1.out.step ((Touch.refl _ w1).drew))
  have HK1d := Lib.hid (((Touch.refl (fun _ => False) w1).drew).blk HK1.out (fun e => e))
  have Hs1d := Lib.hid (Hs1.out.touch ((Touch.refl (fun _ => False) w1).drew) (fun e => e) (fun _ e => e))
  obtain ⟨t1, L1, b1, hq, ht, hc⟩ := bsNum_o Hs1d.out 4 4 (by decide)
  have HQ1 := Lib.hid hq
  have HC := Lib.hid hc
  clear hq hc ht c1 Hm1 HK1 Hs1
  have c1 : ∀ i, w1.drew.cell? ⟨w.heap.size, i, none⟩ = (#[.pointer (some ⟨sb, 0, none⟩)] : Array Value)[i]? := HK1d.out.cell
  have c3 : ∀ i, w1.drew.cell? ⟨w.heap.size + 1 + 1, i, none⟩ = (#[.int .u8 82, .int .u8 0, .string ⟨#[]⟩, .string ⟨#[]⟩, .string ⟨#[]⟩, .int .i64 0, .int .i64 0, .slice none 0 0, .slice none 0 0, .slice none 0 0, .slice none 0 0] : Array Value)[i]? := Hm1d.out.b3.cell
  have HcO := Lib.hid (And.intro c1 c3)
  go_upto_region 4 with (fail)
  go_region_held3 (fun w' => (∀ i, w'.cell? ⟨w.heap.size, i, none⟩ = (#[.pointer (some ⟨sb, 0, none⟩)] : Array Value)[i]?) ∧ (∀ i, w'.cell? ⟨w.heap.size + 1 + 1, i, none⟩ = (#[.int .u8 82, .int .u8 0, .string ⟨#[]⟩, .string ⟨#[]⟩, .string ⟨#[]⟩, .int .i64 0, .int .i64 0, .slice none 0 0, .slice none 0 0, .slice none 0 0, .slice none 0 0] : Array Value)[i]?))
    (first | with_reducible exact HcO.out | with_reducible exact HcA.out | with_reducible exact HcB.out | go_keep)
    (first | (go_at_call 103; refine HC.out.mono ?_; rintro e w2 ⟨rfl, hs, hT⟩; have hz2 := hT.size; have Hm2 := Lib.hid (Hm1d.out.step hT); have HK2 := Lib.hid (hT.blk HK1d.out (by omega)); have Hs2 := Lib.hid hs; have c2 : ∀ i, w2.cell? ⟨w.heap.size + 1, i, none⟩ = (#[.int .u8 0, .int .u8 0, .string ⟨#[]⟩, .string ⟨#[]⟩, .string ⟨#[]⟩, .int .i64 0, .int .i64 0, .slice none 0 0, .slice none 0 0, .slice none 0 0, .slice none 0 0] : Array Value)[i]? := Hm2.out.b2.cell; have f2 := Hm2.out.b2.frozen; have HT9 := Lib.hid (setEl_touch w2 (w.heap.size + 1) (.int .u8 82) (.int .u8 0) (.string ⟨#[]⟩) (.string ⟨#[]⟩) (.string ⟨#[]⟩) (.int .i64 0) (.int .i64 0) (.slice none 0 0) (.slice none 0 0) (.slice none 0 0) (.slice none 0 0)); have HN9 : Hid (¬ w.heap.size = w.heap.size + 1 ∧ ¬ w.heap.size + 1 + 1 = w.heap.size + 1) := Lib.hid ⟨by omega, by omega⟩; unfold setEl at HT9; have HcA : Hid ((∀ i, w2.cell? ⟨w.heap.size, i, none⟩ = (#[.pointer (some ⟨sb, 0, none⟩)] : Array Value)[i]?) ∧ (∀ i, w2.cell? ⟨w.heap.size + 1 + 1, i, none⟩ = (#[.int .u8 82, .int .u8 0, .string ⟨#[]⟩, .string ⟨#[]⟩, .string ⟨#[]⟩, .int .i64 0, .int .i64 0, .slice none 0 0, .slice none 0 0, .slice none 0 0, .slice none 0 0] : Array Value)[i]?)) := Lib.hid ⟨HK2.out.cell, Hm2.out.b3.cell⟩; have hcB := And.intro (HT9.out.blk HK2.out HN9.out.1).cell (HT9.out.blk Hm2.out.b3 HN9.out.2).cell; rw [show baCells (baZero 82) baNil = #[.int .u8 82, .int .u8 0, .string ⟨#[]⟩, .string ⟨#[]⟩, .string ⟨#[]⟩, .int .i64 0, .int .i64 0, .slice none 0 0, .slice none 0 0, .slice none 0 0, .slice none 0 0] from rfl] at hcB; have HcB := Lib.hid hcB; clear hs hT hcB))
  rename_i hHx
  clear hHx HcA HcB HN9 HcO c1 c3 HT9 HC Hm1d HK1d Hs1d
  have hT := setEl_touch w2 (w.heap.size + 1) (.int .u8 82) (.int .u8 0) (.string ⟨#[]⟩) (.string ⟨#[]⟩) (.string ⟨#[]⟩) (.int .i64 0) (.int .i64 0) (.slice none 0 0) (.slice none 0 0) (.slice none 0 0) (.slice none 0 0)
  have hbf := setEl_blk (.int .u8 82) (.int .u8 0) (.string ⟨#[]⟩) (.string ⟨#[]⟩) (.string ⟨#[]⟩) (.int .i64 0) (.int .i64 0) (.slice none 0 0) (.slice none 0 0) (.slice none 0 0) (.slice none 0 0) Hm2.out.b2
  have hl := Hm2.out.lst.keep (S' := fun k => w.heap.size ≤ k) (Kept.touch hT (fun k hk hs => by have hs' : w.heap.size + 1 + 2 ≤ k := hs; exact ⟨by omega, by omega⟩))
  have hs := Hs2.out.touch hT (by omega) (fun hne e => by have := Hg.out (HQ1.out.neB hne); omega)
  have ht := Hm2.out.tch.then hT (fun k hk e => by omega)
  have HH := Lib.hid (And.intro hl (And.intro hs ht))
  unfold setEl at hbf HH
  have hcf := hbf.cell
  clear hT hbf hl hs ht c2 f2
  go_wp2_with fail
  refine bodyPost_ret (v := .tuple #[.agg #[.int .u8 82, .int .u8 0, .string ⟨#[]⟩, .string ⟨#[]⟩, .string ⟨#[]⟩, .int .i64 0, .int .i64 0, .slice none 0 0, .slice none 0 0, .slice none 0 0, .slice none 0 0], .bool (t1 == 0)]) (by simp [results, Try.results75, go_sem, hcf]) rfl ?_
  exact ⟨baZero 82, baNil, L1, b1, t1 == 0, rfl, HH.out.1, HH.out.2.1, readB_R HQ1.out, HH.out.2.2⟩

theorem bmsg_any (sb g : Nat) (L : List UInt8) (bad : Bool) (w : World) (h : ScanO w sb g L bad) (hL : L.length ≤ 100000) (k : Int) :
    Calls Try.prog 75 #[.agg #[.pointer (some ⟨sb, 0, none⟩)], .int .u8 k] w (bmsgR sb g L bad k w) := by
  by_cases h0 : k = 82
  · subst h0; exact bmsg_R sb g L bad w h hL
  by_cases h1 : k = 83
  · subst h1; exact bmsg_S sb g L bad w h hL
  by_cases h2 : k = 75
  · subst h2; exact bmsg_K sb g L bad w h hL
  by_cases h3 : k = 90
  · subst h3; exact bmsg_Zany sb g L bad w h hL
  by_cases h4 : k = 67
  · subst h4; exact bmsg_C sb g L bad w h hL
  by_cases h5 : k = 68
  · subst h5; exact bmsg_D sb g L bad w h hL
  by_cases h6 : k = 84
  · subst h6; exact bmsg_T sb g L bad w h hL
  by_cases h7 : k = 116
  · subst h7; exact bmsg_t sb g L bad w h hL
  by_cases h8 : k = 69
  · subst h8; exact bmsg_69 sb g L bad w h hL
  by_cases h9 : k = 78
  · subst h9; exact bmsg_78 sb g L bad w h hL
  exact bmsg_other sb g L bad w h hL k h0 h1 h2 h3 h4 h5 h6 h7 (by omega)

end Go.Proofs.Ythhebfknikfleaa

/-
  Messages of servers (layer 7): Decode, the program's.
-/
namespace Go.Proofs.Ythhebfknikfleaa
open Go.RowKit
set_option linter.unusedVariables false
set_option linter.unusedSimpArgs false

/-- What Decode leaves. -/
def DecBR (k : Int) (L : List UInt8) (w : World) (e : Ending) (w' : World) : Prop :=
  ∃ a, e = .returned (.tuple #[baArg (decB k L).1 a, .int .i64 (decB k L).2]) ∧ BaL (fun j => w.heap.size ≤ j) w' (decB k L).1 a ∧ Below w.heap.size w w'
/-- The end: the result's block is set. -/
theorem BdI.done {S : Nat → Prop} {w0 w : World} {c : Array Value} {f : BaV} {a : BaP} (h : BdI w0 w c) (hl : BaL S w f a) (hS : ∀ j, S j → j ≠ w0.heap.size + 1 ∧ w0.heap.size ≤ j) :
    Blk (setEl w (w0.heap.size + 1) (.int .u8 f.kind) (.int .u8 f.status) (.string f.tag) (.string f.name) (.string f.value) (.int .i64 f.n) (.int .i64 f.m) (.slice a.po f.oids.length a.co) (.slice a.pc f.cols.length a.cc) (.slice a.pr f.row.length a.cr) (.slice a.pf f.fields.length a.cf)) (w0.heap.size + 1) 33 (baCells f a) ∧
    BaL (fun j => w0.heap.size ≤ j) (setEl w (w0.heap.size + 1) (.int .u8 f.kind) (.int .u8 f.status) (.string f.tag) (.string f.name) (.string f.value) (.int .i64 f.n) (.int .i64 f.m) (.slice a.po f.oids.length a.co) (.slice a.pc f.cols.length a.cc) (.slice a.pr f.row.length a.cr) (.slice a.pf f.fields.length a.cf)) f a ∧
    Below w0.heap.size w0 (setEl w (w0.heap.size + 1) (.int .u8 f.kind) (.int .u8 f.status) (.string f.tag) (.string f.name) (.string f.value) (.int .i64 f.n) (.int .i64 f.m) (.slice a.po f.oids.length a.co) (.slice a.pc f.cols.length a.cc) (.slice a.pr f.row.length a.cr) (.slice a.pf f.fields.length a.cf)) := by
  have hT := setEl_touch w (w0.heap.size + 1) (.int .u8 f.kind) (.int .u8 f.status) (.string f.tag) (.string f.name) (.string f.value) (.int .i64 f.n) (.int .i64 f.m) (.slice a.po f.oids.length a.co) (.slice a.pc f.cols.length a.cc) (.slice a.pr f.row.length a.cr) (.slice a.pf f.fields.length a.cf)
  exact ⟨setEl_blk _ _ _ _ _ _ _ _ _ _ _ h.r, hl.keep (Kept.touch hT (fun j _ hs => ⟨(hS j hs).2, (hS j hs).1⟩)), h.bel.trans (hT.below h.bel.size (fun j e => by omega))⟩
theorem readB_texts {k : Int} {L T : List UInt8} {x : BaV} (h : readB k L = some (x, T)) : x.tag.size ≤ L.length ∧ x.name.size ≤ L.length ∧ x.value.size ≤ L.length := by
  have z : ∀ y : BaV, y.tag = ⟨#[]⟩ → y.name = ⟨#[]⟩ → y.value = ⟨#[]⟩ → y.tag.size ≤ L.length ∧ y.name.size ≤ L.length ∧ y.value.size ≤ L.length := fun y h1 h2 h3 => by rw [h1, h2, h3]; exact ⟨Nat.zero_le _, Nat.zero_le _, Nat.zero_le _⟩
  unfold readB at h
  split at h
  · obtain ⟨⟨n, L1⟩, e1, h⟩ := bindQ_some h
    dsimp only at h
    split at h
    · injection h with h; injection h with h h'; subst h; exact z _ rfl rfl rfl
    · cases h
  split at h
  · obtain ⟨⟨a, L1⟩, q1, h⟩ := bindQ_some h
    obtain ⟨⟨b, L2⟩, q2, h⟩ := bindQ_some h
    injection h with h; injection h with h h'
    dsimp only at h q2
    subst h
    have k1 := textQ_len q1
    have k2 := textQ_len q2
    exact ⟨Nat.zero_le _, by show a.size ≤ _; omega, by show b.size ≤ _; omega⟩
  split at h
  · obtain ⟨⟨a, L1⟩, q1, h⟩ := bindQ_some h
    obtain ⟨⟨b, L2⟩, q2, h⟩ := bindQ_some h
    injection h with h; injection h with h h'; subst h; exact z _ rfl rfl rfl
  split at h
  · obtain ⟨⟨a, L1⟩, q1, h⟩ := bindQ_some h
    injection h with h; injection h with h h'; subst h; exact z _ rfl rfl rfl
  split at h
  · obtain ⟨⟨a, L1⟩, q1, h⟩ := bindQ_some h
    injection h with h; injection h with h h'
    dsimp only at h
    subst h
    have k1 := textQ_len q1
    exact ⟨by show a.size ≤ _; omega, Nat.zero_le _, Nat.zero_le _⟩
  iterate 4
    split at h
    · obtain ⟨⟨a, L1⟩, q1, h⟩ := bindQ_some h
      injection h with h; injection h with h h'; subst h; exact z _ rfl rfl rfl
  injection h with h; injection h with h h'; subst h; exact z _ rfl rfl rfl
theorem servK_byte {k : Int} (h : servK k = true) : 0 ≤ k ∧ k < 256 := by
  unfold servK at h
  simp only [decide_eq_true_eq, List.mem_cons, List.not_mem_nil, or_false] at h
  omega

set_option maxRecDepth 100000 in
set_option maxHeartbeats 4000000 in
theorem bdec_any (k : Int) (h0 : 0 ≤ k) (h1 : k < 256) (p : Option Addr) (l : List UInt8) (cap : Nat) (w : World) (hl : l.length ≤ 100000) (hb : BytesIn w p l) :
    Calls Try.prog 42 #[.agg #[.int .u8 k, .slice p l.length cap]] w (DecBR k l w) := by
  have H1 := Lib.hid (BdI.start w #[.int .u8 k, .slice p l.length cap])
  have HK := Lib.hid (fun w0 : World => bknown_any k h0 h1 w0)
  have HU := Lib.hid (fun h : servK k = false => decB_unknown (L := l) h)
  have HQ := Lib.hid (fun (L' : List UInt8) (f : BaV) (b : Bool) (h1 : servK k = true) h2 h3 => @decB_bad k l L' f b h1 h2 h3)
  have HG := Lib.hid (fun (f : BaV) (h1 : servK k = true) h2 => @decB_ok k l f h1 h2)
  have Hb1 : Hid (BytesIn ((w.alloc (.cells #[.int .u8 k, .slice p l.length cap] 75)).alloc (.cells baZ 33)) p l) := Lib.hid ((((Touch.refl (fun _ => False) w).alloc _).alloc _).bytesIn hb (fun _ _ _ e => e))
  unfold baZ at H1 Hb1
  clear hb
  go_enter Try.func42, Try.ntmps42
  go_upto_region 1 with (fail)
  generalize (w.alloc (.cells #[.int .u8 k, .slice p l.length cap] 75)).alloc (.cells #[.int .u8 0, .int .u8 0, .string ⟨#[]⟩, .string ⟨#[]⟩, .string ⟨#[]⟩, .int .i64 0, .int .i64 0, .slice none 0 0, .slice none 0 0, .slice none 0 0, .slice none 0 0] 33) = w1 at *
  have c1 := H1.out.m.cell
  go_wp2_with fail
  refine (HK.out w1).mono ?_
  rintro e w2 ⟨rfl, hb⟩
  have H2 := Lib.hid (H1.out.bstep hb)
  have Hb2 : Hid (BytesIn w2 p l) := Lib.hid ((Touch.of_below (p := fun _ => False) hb).bytesIn Hb1.out (fun _ _ _ e => e))
  clear hb c1 Hb1 H1 HK
  generalize hkv : servK k = kv at *
  clear hkv
  cases kv with
  | false =>
    have Hd := Lib.hid (HU.out rfl)
    clear HQ HG HU
    have c2 : ∀ i, w2.cell? ⟨w.heap.size + 1, i, none⟩ = (#[.int .u8 0, .int .u8 0, .string ⟨#[]⟩, .string ⟨#[]⟩, .string ⟨#[]⟩, .int .i64 0, .int .i64 0, .slice none 0 0, .slice none 0 0, .slice none 0 0, .slice none 0 0] : Array Value)[i]? := H2.out.r.cell
    have f2 := H2.out.r.frozen
    go_wp2_with fail
    obtain ⟨hbf, hl', hB⟩ := H2.out.done (BaL.zero (fun _ => False) w2 0) (fun _ e => e.elim)
    have HH := Lib.hid (And.intro hl' hB)
    clear hl' hB c2 f2
    unfold setEl baCells baZero baNil at hbf
    unfold setEl at HH
    dsimp only [List.length_nil] at hbf
    have hcf := hbf.cell
    clear hbf
    refine bodyPost_ret (v := .tuple #[.agg #[.int .u8 0, .int .u8 0, .string ⟨#[]⟩, .string ⟨#[]⟩, .string ⟨#[]⟩, .int .i64 0, .int .i64 0, .slice none 0 0, .slice none 0 0, .slice none 0 0, .slice none 0 0], .int .i64 9]) (by simp [results, Try.results42, go_sem, hcf]) rfl ?_
    unfold DecBR
    rw [Hd.out]
    exact ⟨baNil, rfl, HH.out.1, HH.out.2⟩

  | true =>
    have Hq := Lib.hid (fun L' f b => HQ.out L' f b rfl)
    have Hg := Lib.hid (fun f => HG.out f rfl)
    clear HQ HG HU
    have c2 := H2.out.m.cell
    have HN := Lib.hid (scanNew_any p l cap w2 (by omega) Hb2.out)
    go_upto_region 4 with (go_at_call 74; refine HN.out.mono ?_; rintro e w3 ⟨sb, g, rfl, hs, hsb, hg, hT⟩; have H3 := Lib.hid (H2.out.step hT (fun _ e => e.elim)); have Hs3 := Lib.hid hs; have hz3 := hT.size; clear hs hT HN c2)
    have hw2 := H2.out.r.lt
    have hal : Below w3.heap.size w3 (w3.alloc (.cells #[.pointer (some ⟨sb, 0, none⟩)] 124)) := (Below.refl _ _).alloc (Nat.le_refl _) _
    have H4 := Lib.hid (H3.out.bstep hal)
    have Hs4 := Lib.hid (Hs3.out.touch (Touch.of_below (p := fun _ => False) hal) (fun e => e) (fun _ e => e))
    have Hr4 : Hid (Blk (w3.alloc (.cells #[.pointer (some ⟨sb, 0, none⟩)] 124)) w3.heap.size 124 #[.pointer (some ⟨sb, 0, none⟩)]) := Lib.hid (Blk.new _ _ _)
    have hz4 : w3.heap.size < (w3.alloc (.cells #[.pointer (some ⟨sb, 0, none⟩)] 124)).heap.size := by simp
    have hsl := Hs3.out.lt
    clear hal H3 Hs3 H2 Hb2
    generalize w3.alloc (.cells #[.pointer (some ⟨sb, 0, none⟩)] 124) = w4 at *
    generalize w3.heap.size = rb at *
    have c4 := H4.out.m.cell
    have r4 := Hr4.out.cell
    have HM := Lib.hid (bmsg_any sb g l false w4 Hs4.out hl k)
    unfold bmsgR baArg baCells at HM
    go_upto_region 5 with (go_at_call 75; refine HM.out.mono ?_; rintro e w5 ⟨f, a, L', b', srv, rfl, hfl, hs, hq, hT⟩; have H5 := Lib.hid (H4.out.step hT (fun j e => by omega)); have Hs5 := Lib.hid hs; have Hfl5 := Lib.hid hfl; have HQ := Lib.hid hq; have Hr5 := Lib.hid (hT.blk Hr4.out (by omega)); have hz5 := hT.size; clear hs hT hfl hq HM c4 r4 H4 Hs4 Hr4)
    obtain ⟨xk, xs, xt, xn, xv, xa, xb, xo, xc, xr, xf⟩ := f
    obtain ⟨apo, aco, apc, acc, apr, acr, apf, acf⟩ := a
    dsimp only
    have hw5 := H5.out.r.lt
    have hal : Below w5.heap.size w5 (w5.alloc (.cells #[.int .u8 xk, .int .u8 xs, .string xt, .string xn, .string xv, .int .i64 xa, .int .i64 xb, .slice apo xo.length aco, .slice apc xc.length acc, .slice apr xr.length acr, .slice apf xf.length acf] 33)) := (Below.refl _ _).alloc (Nat.le_refl _) _
    have H6 := Lib.hid (H5.out.bstep hal)
    have Hs6 := Lib.hid (Hs5.out.touch (Touch.of_below (p := fun _ => False) hal) (fun e => e) (fun _ e => e))
    have Hr6 := Lib.hid (Hr5.out.below hal Hr5.out.lt)
    have Hf6 : Hid (Blk (w5.alloc (.cells #[.int .u8 xk, .int .u8 xs, .string xt, .string xn, .string xv, .int .i64 xa, .int .i64 xb, .slice apo xo.length aco, .slice apc xc.length acc, .slice apr xr.length acr, .slice apf xf.length acf] 33)) w5.heap.size 33 #[.int .u8 xk, .int .u8 xs, .string xt, .string xn, .string xv, .int .i64 xa, .int .i64 xb, .slice apo xo.length aco, .slice apc xc.length acc, .slice apr xr.length acr, .slice apf xf.length acf]) := Lib.hid (Blk.new _ _ _)
    have Hfl6 := Lib.hid (Hfl5.out.below hal)
    have hz6 : w5.heap.size < (w5.alloc (.cells #[.int .u8 xk, .int .u8 xs, .string xt, .string xn, .string xv, .int .i64 xa, .int .i64 xb, .slice apo xo.length aco, .slice apc xc.length acc, .slice apr xr.length acr, .slice apf xf.length acf] 33)).heap.size := by simp
    clear hal H5 Hs5 Hr5 Hfl5
    generalize w5.alloc (.cells #[.int .u8 xk, .int .u8 xs, .string xt, .string xn, .string xv, .int .i64 xa, .int .i64 xb, .slice apo xo.length aco, .slice apc xc.length acc, .slice apr xr.length acr, .slice apf xf.length acf] 33) = w6 at *
    generalize w5.heap.size = gf at *
    have r6 := Hr6.out.cell
    have f6 := Hf6.out.cell
    have HD := Lib.hid (scanDone_any sb g L' b' w6 Hs6.out)
    cases srv with
    | false =>
      have Hd := Lib.hid (Hq.out _ _ _ HQ.out (by simp))
      have c2 : ∀ i, w6.cell? ⟨w.heap.size + 1, i, none⟩ = (#[.int .u8 0, .int .u8 0, .string ⟨#[]⟩, .string ⟨#[]⟩, .string ⟨#[]⟩, .int .i64 0, .int .i64 0, .slice none 0 0, .slice none 0 0, .slice none 0 0, .slice none 0 0] : Array Value)[i]? := H6.out.r.cell
      have f2 := H6.out.r.frozen
      go_wp2_with fail
      obtain ⟨hbf, hl', hB⟩ := H6.out.done (BaL.zero (fun _ => False) w6 0) (fun _ e => e.elim)
      have HH := Lib.hid (And.intro hl' hB)
      clear hl' hB c2 f2
      unfold setEl baCells baZero baNil at hbf
      unfold setEl at HH
      dsimp only [List.length_nil] at hbf
      have hcf := hbf.cell
      clear hbf
      refine bodyPost_ret (v := .tuple #[.agg #[.int .u8 0, .int .u8 0, .string ⟨#[]⟩, .string ⟨#[]⟩, .string ⟨#[]⟩, .int .i64 0, .int .i64 0, .slice none 0 0, .slice none 0 0, .slice none 0 0, .slice none 0 0], .int .i64 4]) (by simp [results, Try.results42, go_sem, hcf]) rfl ?_
      unfold DecBR
      rw [Hd.out]
      exact ⟨baNil, rfl, HH.out.1, HH.out.2⟩

    | true =>
      have HQ' : Hid (StepO l false (readB k) ⟨xk, xs, xt, xn, xv, xa, xb, xo, xc, xr, xf⟩ L' b') := Lib.hid (by have := HQ.out; simpa using this)
      clear HQ
      generalize hem : (!b' && L'.isEmpty) = em at *
      cases em with
      | false =>
        have Hd := Lib.hid (Hq.out _ _ _ HQ'.out hem)
        clear hem
        have c2 : ∀ i, w6.cell? ⟨w.heap.size + 1, i, none⟩ = (#[.int .u8 0, .int .u8 0, .string ⟨#[]⟩, .string ⟨#[]⟩, .string ⟨#[]⟩, .int .i64 0, .int .i64 0, .slice none 0 0, .slice none 0 0, .slice none 0 0, .slice none 0 0] : Array Value)[i]? := H6.out.r.cell
        have f2 := H6.out.r.frozen
        go_wp2_with (go_at_call 76; refine HD.out.mono ?_; rintro e w7 ⟨rfl, rfl⟩)
        obtain ⟨hbf, hl', hB⟩ := H6.out.done (BaL.zero (fun _ => False) w6 0) (fun _ e => e.elim)
        have HH := Lib.hid (And.intro hl' hB)
        clear hl' hB c2 f2
        unfold setEl baCells baZero baNil at hbf
        unfold setEl at HH
        dsimp only [List.length_nil] at hbf
        have hcf := hbf.cell
        clear hbf
        refine bodyPost_ret (v := .tuple #[.agg #[.int .u8 0, .int .u8 0, .string ⟨#[]⟩, .string ⟨#[]⟩, .string ⟨#[]⟩, .int .i64 0, .int .i64 0, .slice none 0 0, .slice none 0 0, .slice none 0 0, .slice none 0 0], .int .i64 4]) (by simp [results, Try.results42, go_sem, hcf]) rfl ?_
        unfold DecBR
        rw [Hd.out]
        exact ⟨baNil, rfl, HH.out.1, HH.out.2⟩

      | true =>
        have hb' : b' = false := by cases b' <;> simp at hem ⊢
        subst hb'
        have hL' : L' = [] := by cases L' <;> simp at hem ⊢
        subst hL'
        clear hem
        have hrd := (HQ'.out.1 rfl).2
        have hpt := readB_parts hrd
        have htx := readB_texts hrd
        have hfb : BaB ⟨xk, xs, xt, xn, xv, xa, xb, xo, xc, xr, xf⟩ := ⟨by have := hpt.kind; dsimp only at this; show 0 ≤ xk; omega, by have := hpt.kind; dsimp only at this; show xk < 256; omega, hpt.status.1, hpt.status.2⟩
        have HC := Lib.hid (bcheck_any _ ⟨xk, xs, xt, xn, xv, xa, xb, xo, xc, xr, xf⟩ ⟨apo, aco, apc, acc, apr, acr, apf, acf⟩ w6 Hfl6.out hfb)
        have Hd := Lib.hid (Hg.out _ HQ'.out)
        clear hrd hpt htx hfb HQ' Hq Hg
        unfold baArg baCells at HC
        dsimp only at HC
        generalize hcv : checkB ⟨xk, xs, xt, xn, xv, xa, xb, xo, xc, xr, xf⟩ = cv at *
        clear hcv
        by_cases hc0 : cv = 0
        · subst hc0
          have Hd' : Hid (decB k l = (⟨xk, xs, xt, xn, xv, xa, xb, xo, xc, xr, xf⟩, 0)) := Lib.hid (by rw [Hd.out, if_pos rfl])
          clear Hd
          go_upto_region 7 with (first | (go_at_call 76; refine HD.out.mono ?_; rintro e w7 ⟨rfl, rfl⟩) | (go_at_call 67; refine HC.out.mono ?_; rintro e w7 ⟨rfl, hb⟩))
          have H7 := Lib.hid (H6.out.bstep hb)
          have Hf7 := Lib.hid (Hf6.out.below hb Hf6.out.lt)
          have Hfl7 := Lib.hid (Hfl6.out.below hb)
          clear hb r6 f6 H6 Hs6 Hr6 Hfl6 Hf6 HD HC
          have c2 : ∀ i, w7.cell? ⟨w.heap.size + 1, i, none⟩ = (#[.int .u8 0, .int .u8 0, .string ⟨#[]⟩, .string ⟨#[]⟩, .string ⟨#[]⟩, .int .i64 0, .int .i64 0, .slice none 0 0, .slice none 0 0, .slice none 0 0, .slice none 0 0] : Array Value)[i]? := H7.out.r.cell
          have f2 := H7.out.r.frozen
          have f7 := Hf7.out.cell
          go_wp2_with fail
          obtain ⟨hbf, hl', hB⟩ := H7.out.done Hfl7.out (fun j hj => ⟨by omega, by omega⟩)
          have HH := Lib.hid (And.intro hl' hB)
          clear hl' hB c2 f2 f7
          unfold setEl baCells at hbf
          unfold setEl at HH
          dsimp only at hbf HH
          have hcf := hbf.cell
          clear hbf
          refine bodyPost_ret (v := .tuple #[.agg #[.int .u8 xk, .int .u8 xs, .string xt, .string xn, .string xv, .int .i64 xa, .int .i64 xb, .slice apo xo.length aco, .slice apc xc.length acc, .slice apr xr.length acr, .slice apf xf.length acf], .int .i64 0]) (by simp [results, Try.results42, go_sem, hcf]) rfl ?_
          unfold DecBR
          rw [Hd'.out]
          exact ⟨⟨apo, aco, apc, acc, apr, acr, apf, acf⟩, rfl, HH.out.1, HH.out.2⟩
        · have Hd' : Hid (decB k l = (baZero 0, 4)) := Lib.hid (by rw [Hd.out, if_neg hc0])
          clear Hd
          have hci : (cv != 0) = true := by simpa using hc0
          go_upto_region 6 with (first | (go_at_call 76; refine HD.out.mono ?_; rintro e w7 ⟨rfl, rfl⟩) | (go_at_call 67; refine HC.out.mono ?_; rintro e w7 ⟨rfl, hb⟩))
          have H7 := Lib.hid (H6.out.bstep hb)
          clear hb r6 f6 H6 Hs6 Hr6 Hfl6 Hf6 HD HC
          have Hd := Hd'
          clear Hd'
          have c2 : ∀ i, w7.cell? ⟨w.heap.size + 1, i, none⟩ = (#[.int .u8 0, .int .u8 0, .string ⟨#[]⟩, .string ⟨#[]⟩, .string ⟨#[]⟩, .int .i64 0, .int .i64 0, .slice none 0 0, .slice none 0 0, .slice none 0 0, .slice none 0 0] : Array Value)[i]? := H7.out.r.cell
          have f2 := H7.out.r.frozen
          go_wp2_with fail
          obtain ⟨hbf, hl', hB⟩ := H7.out.done (BaL.zero (fun _ => False) w7 0) (fun _ e => e.elim)
          have HH := Lib.hid (And.intro hl' hB)
          clear hl' hB c2 f2
          unfold setEl baCells baZero baNil at hbf
          unfold setEl at HH
          dsimp only [List.length_nil] at hbf
          have hcf := hbf.cell
          clear hbf
          refine bodyPost_ret (v := .tuple #[.agg #[.int .u8 0, .int .u8 0, .string ⟨#[]⟩, .string ⟨#[]⟩, .string ⟨#[]⟩, .int .i64 0, .int .i64 0, .slice none 0 0, .slice none 0 0, .slice none 0 0, .slice none 0 0], .int .i64 4]) (by simp [results, Try.results42, go_sem, hcf]) rfl ?_
          unfold DecBR
          rw [Hd.out]
          exact ⟨baNil, rfl, HH.out.1, HH.out.2⟩


end Go.Proofs.Ythhebfknikfleaa

/-
  Plain laws of sizes: texts, numbers and values as bytes.
-/
namespace Go.Proofs.Ythhebfknikfleaa
open Go.RowKit
set_option linter.unusedVariables false
set_option linter.unusedSimpArgs false

theorem numsC_len {z : Nat} (l : List Int) : (numsC z l).length = z * l.length := by
  induction l with
  | nil => rfl
  | cons n l ih =>
    have e : numsC z (n :: l) = putB n z z ++ numsC z l := rfl
    rw [e, List.length_append, putB_length, ih, List.length_cons, Nat.mul_succ, Nat.add_comm]
theorem listC_len {z : Nat} (l : List Int) : (listC z l).length = 2 + z * l.length := by
  unfold listC
  rw [List.length_append, putB_length, numsC_len]
theorem cellC_len (c : CeV) : (cellC c).length ≤ 4 + c.bytes.length ∧ 4 ≤ (cellC c).length ∧ (c.null = false → (cellC c).length = 4 + c.bytes.length) := by
  unfold cellC
  split
  · rename_i h
    rw [putB_length]
    exact ⟨by omega, by omega, fun e => by rw [e] at h; cases h⟩
  · rw [List.length_append, putB_length]
    exact ⟨by omega, by omega, fun _ => rfl⟩
theorem cellsC_len (l : List CeV) (B : Nat) (h : ∀ c ∈ l, c.bytes.length ≤ B) : (cellsC l).length ≤ (4 + B) * l.length := by
  induction l with
  | nil => simp [cellsC]
  | cons c l ih =>
    have h1 := ih (fun x hx => h x (by simp [hx]))
    have h2 := h c (by simp)
    have h3 := (cellC_len c).1
    have e : cellsC (c :: l) = cellC c ++ cellsC l := rfl
    rw [e, List.length_append, List.length_cons, Nat.mul_succ]
    omega
/-- Values are no more, and no longer, than their bytes. -/
theorem cellsC_many (l : List CeV) (h : ∀ c ∈ l, rightC c) : 4 * l.length ≤ (cellsC l).length ∧ ∀ c ∈ l, c.bytes.length ≤ (cellsC l).length := by
  induction l with
  | nil => exact ⟨Nat.zero_le _, fun c hc => by cases hc⟩
  | cons c l ih =>
    obtain ⟨h1, h2⟩ := ih (fun x hx => h x (by simp [hx]))
    have h3 := cellC_len c
    have e : cellsC (c :: l) = cellC c ++ cellsC l := rfl
    have hc : c.bytes.length ≤ (cellC c).length := by
      cases hn : c.null with
      | true => rw [(h c (by simp)).1 hn]; exact Nat.zero_le _
      | false => rw [h3.2.2 hn]; omega
    rw [e, List.length_append, List.length_cons]
    refine ⟨by omega, fun x hx => ?_⟩
    rcases List.mem_cons.1 hx with rfl | hx
    · omega
    · have := h2 x hx; omega
theorem strP_len (s : ByteArray) : (strP s).length = s.size + 1 := by
  unfold strP
  rw [List.length_append, size_data]
  rfl

end Go.Proofs.Ythhebfknikfleaa

/-
  Messages of servers (layer 7): what is read of few bytes is small: a plain law.
-/
namespace Go.Proofs.Ythhebfknikfleaa
open Go.RowKit
set_option linter.unusedVariables false
set_option linter.unusedSimpArgs false

theorem colsC_many (l : List CoV) : 19 * l.length ≤ (colsC l).length ∧ ∀ c ∈ l, c.name.size ≤ (colsC l).length := by
  induction l with
  | nil => exact ⟨Nat.zero_le _, fun c hc => by cases hc⟩
  | cons c l ih =>
    obtain ⟨h1, h2⟩ := ih
    have e : colsC (c :: l) = colC c ++ colsC l := rfl
    have hc : (colC c).length = c.name.size + 19 := by
      unfold colC
      simp only [List.length_append, putB_length, strP_len]
    rw [e, List.length_append, List.length_cons]
    refine ⟨by omega, fun x hx => ?_⟩
    rcases List.mem_cons.1 hx with rfl | hx
    · omega
    · have := h2 x hx; omega
theorem fieldsC_many (l : List FdV) : 2 * l.length ≤ (fieldsC l).length ∧ ∀ c ∈ l, c.text.size ≤ (fieldsC l).length := by
  induction l with
  | nil => exact ⟨Nat.zero_le _, fun c hc => by cases hc⟩
  | cons c l ih =>
    obtain ⟨h1, h2⟩ := ih
    have e : fieldsC (c :: l) = fieldC c ++ fieldsC l := rfl
    have hc : (fieldC c).length = c.text.size + 2 := by
      unfold fieldC
      rw [List.length_append, putB_length, strP_len]
      omega
    rw [e, List.length_append, List.length_cons]
    refine ⟨by omega, fun x hx => ?_⟩
    rcases List.mem_cons.1 hx with rfl | hx
    · omega
    · have := h2 x hx; omega
/-- Lists that a kind does not have are empty. -/
theorem kept_lists {x : BaV} (h : x = keptB x) : (x.kind ≠ 84 → x.cols = []) ∧ (x.kind ≠ 68 → x.row = []) ∧ (¬ (x.kind = 69 ∨ x.kind = 78) → x.fields = []) := by
  unfold keptB at h
  refine ⟨fun hk => ?_, fun hk => ?_, fun hk => ?_⟩
  · have e := congrArg BaV.cols h
    rw [e]
    repeat' split
    all_goals first | rfl | (exfalso; omega)
  · have e := congrArg BaV.row h
    rw [e]
    repeat' split
    all_goals first | rfl | (exfalso; omega)
  · have e := congrArg BaV.fields h
    rw [e]
    repeat' split
    all_goals first | rfl | (exfalso; omega)
theorem read_smallB {k : Int} {L : List UInt8} {x : BaV} (h : readB k L = some (x, [])) (hc : checkB x = 0) (hL : L.length ≤ 2000) : SmallB x := by
  have hr := readB_parts h
  have ht := readB_texts h
  have ok := checkB_ok hc
  obtain ⟨l1, l2, l3⟩ := kept_lists ok.kept
  have hb := hr.body
  have hcs : x.cols.length ≤ 1000 ∧ ∀ c ∈ x.cols, c.name.size ≤ 10000 := by
    by_cases hk : x.kind = 84
    · unfold bodyBC at hb
      rw [if_neg (by omega), if_neg (by omega), if_neg (by omega), if_neg (by omega), if_neg (by omega), if_neg (by omega), if_pos hk] at hb
      have hl := congrArg List.length hb
      unfold colLC at hl
      rw [List.length_append, putB_length] at hl
      have := colsC_many x.cols
      exact ⟨by omega, fun c hc => by have := this.2 c hc; omega⟩
    · rw [l1 hk]
      exact ⟨by simp, fun c hc => by cases hc⟩
  have hrs : x.row.length ≤ 1000 ∧ ∀ c ∈ x.row, c.bytes.length ≤ 2000 := by
    by_cases hk : x.kind = 68
    · unfold bodyBC at hb
      rw [if_neg (by omega), if_neg (by omega), if_neg (by omega), if_neg (by omega), if_neg (by omega), if_pos hk] at hb
      have hl := congrArg List.length hb
      unfold rowC at hl
      rw [List.length_append, putB_length] at hl
      have := cellsC_many x.row ok.row.2
      exact ⟨by omega, fun c hc => by have := this.2 c hc; omega⟩
    · rw [l2 hk]
      exact ⟨by simp, fun c hc => by cases hc⟩
  have hfs : x.fields.length ≤ 1000 ∧ ∀ c ∈ x.fields, c.text.size ≤ 10000 := by
    by_cases hk : x.kind = 69 ∨ x.kind = 78
    · unfold bodyBC at hb
      rw [if_neg (by omega), if_neg (by omega), if_neg (by omega), if_neg (by omega), if_neg (by omega), if_neg (by omega), if_neg (by omega), if_neg (by omega), if_pos hk] at hb
      have hl := congrArg List.length hb
      rw [List.length_append, putB_length] at hl
      have := fieldsC_many x.fields
      exact ⟨by omega, fun c hc => by have := this.2 c hc; omega⟩
    · rw [l3 hk]
      exact ⟨by simp, fun c hc => by cases hc⟩
  exact ⟨by omega, by omega, by omega, by have := ok.oids.1; omega, hcs.1, hcs.2, hrs.1, hrs.2, hfs.1, hfs.2⟩
/-- Decode: nothing, or a message that may be, with just these bytes. -/
theorem dec_partsB (k : Int) (L : List UInt8) (hL : L.length ≤ 2000) :
    ((decB k L).2 = 0 ∧ encB (decB k L).1 = (k, L, 0) ∧ BaB (decB k L).1 ∧ SmallB (decB k L).1) ∨ ((decB k L).2 ≠ 0 ∧ (decB k L).1 = baZero 0) := by
  unfold decB
  split
  · rename_i hk
    split
    · rename_i f hf
      split
      · rename_i hc
        have hr := readB_parts hf
        have hb : bodyB f = L := by rw [bodyB_c (checkB_ok hc) hr.status hr.codes]; exact hr.body
        have h8 := servK_byte hk
        refine .inl ⟨rfl, ?_, ⟨?_, ?_, hr.status.1, hr.status.2⟩, read_smallB hf hc hL⟩
        · show encB f = _
          unfold encB
          rw [if_pos hc, hb, hr.kind]
        · show 0 ≤ f.kind
          rw [hr.kind]; exact h8.1
        · show f.kind < 256
          rw [hr.kind]; exact h8.2
      · exact .inr ⟨by show (4 : Int) ≠ 0; decide, rfl⟩
    · exact .inr ⟨by show (4 : Int) ≠ 0; decide, rfl⟩
  · exact .inr ⟨by show (9 : Int) ≠ 0; decide, rfl⟩
/-- The codes of a message's fields in memory are bytes. -/
theorem BaL.codes {S : Nat → Prop} {w : World} {x : BaV} {a : BaP} (h : BaL S w x a) : FdsB x := by
  intro f hf
  obtain ⟨i, hi, rfl⟩ := List.mem_iff_getElem.1 hf
  obtain ⟨b, o, _, _, _, _, _, _, h0, h1⟩ := fd_at h.lf hi
  exact ⟨h0, h1⟩

end Go.Proofs.Ythhebfknikfleaa

/-
  Messages of servers (layer 7): the walk of BackBack.
-/
namespace Go.Proofs.Ythhebfknikfleaa
open Go.RowKit
set_option linter.unusedVariables false
set_option linter.unusedSimpArgs false

/-- A message in its block, another one's bytes in theirs. -/
structure BoI (w0 w : World) (x : BaV) (a : BaP) (k : Int) (p : Option Addr) (l : List UInt8) (c : Nat) : Prop where
  b : Blk w w0.heap.size 33 (baCells x a)
  m : Blk w (w0.heap.size + 1) 75 #[.int .u8 k, .slice p l.length c]
  s : BaL (fun _ => True) w x a
  y : BytesIn w p l
  bel : Below w0.heap.size w0 w
section
variable {w0 w w' : World} {x : BaV} {a : BaP} {k : Int} {l : List UInt8} {p : Option Addr} {c : Nat}
theorem BoI.step (H : BoI w0 w x a k p l c) (hb : Below w.heap.size w w') : BoI w0 w' x a k p l c :=
  ⟨H.b.below hb H.b.lt, H.m.below hb H.m.lt, H.s.below hb, H.y.below hb, H.bel.trans (hb.mono H.bel.size)⟩
theorem BoI.cells (H : BoI w0 w x a k p l c) : (∀ i, w.cell? ⟨w0.heap.size, i, none⟩ = (baCells x a)[i]?) ∧ (∀ i, w.cell? ⟨w0.heap.size + 1, i, none⟩ = (#[.int .u8 k, .slice p l.length c] : Array Value)[i]?) := ⟨H.b.cell, H.m.cell⟩
theorem BoI.start {S : Nat → Prop} {w : World} (h : BaL S w x a) (hy : BytesIn w p l) : BoI w ((w.alloc (.cells (baCells x a) 33)).alloc (.cells #[.int .u8 k, .slice p l.length c] 75)) x a k p l c := by
  have e1 : (w.alloc (.cells (baCells x a) 33)).heap.size = w.heap.size + 1 := by simp
  have hb : Below w.heap.size w ((w.alloc (.cells (baCells x a) 33)).alloc (.cells #[.int .u8 k, .slice p l.length c] 75)) := ((Below.refl _ _).alloc (Nat.le_refl _) _).alloc (by simp) _
  refine ⟨(Blk.new _ _ _).alloc _, ?_, (h.below hb).any, hy.below hb, hb⟩
  have := Blk.new (w.alloc (.cells (baCells x a) 33)) 75 #[.int .u8 k, .slice p l.length c]
  rw [e1] at this
  exact this
end

set_option maxRecDepth 100000 in
set_option maxHeartbeats 4000000 in
theorem backBack_walk (x : BaV) (a : BaP) (k : Int) (h0 : 0 ≤ k) (h1 : k < 256) (p : Option Addr) (l : List UInt8) (c : Nat) (w : World) (hx : BaL (fun k => k < w.heap.size) w x a) (hfb : BaB x) (hin : BytesIn w p l) :
    Calls Try.prog 8 #[baArg x a, .agg #[.int .u8 k, .slice p l.length c]] w fun e w' => e = .returned (.bool true) ∧ Below w.heap.size w w' := by
  have H0 : Hid (BoI w ((w.alloc (.cells (baCells x a) 33)).alloc (.cells #[.int .u8 k, .slice p l.length c] 75)) x a k p l c) := Lib.hid (BoI.start hx hin)
  have Haw := Lib.hid (fun w0 => baAwake_any w0)
  have HC : Hid (∀ w1 : World, BoI w w1 x a k p l c → (∀ i, w1.cell? ⟨w.heap.size, i, none⟩ = (baCells x a)[i]?) ∧ (∀ i, w1.cell? ⟨w.heap.size + 1, i, none⟩ = (#[.int .u8 k, .slice p l.length c] : Array Value)[i]?)) := Lib.hid (fun w1 H => H.cells)
  have HF := Lib.hid (fun (w0 : World) (H : BoI w w0 x a k p l c) => fewB_any _ x a w0 H.s)
  have HE := Lib.hid (fun (hf : FewB x) (w0 : World) (H : BoI w w0 x a k p l c) => benc_any _ x a w0 H.s hfb hf.small)
  have HD := Lib.hid (fun (hl : l.length ≤ 2000) (w0 : World) (H : BoI w w0 x a k p l c) => bdec_any k h0 h1 p l c w0 (by omega) H.y)
  have Hdp := Lib.hid (fun hl => dec_partsB k l hl)
  have HG := Lib.hid (fun (hf : FewB x) (hck : checkB x = 0) (q : Option Addr) (d : Nat) (w0 : World) hb => bdec_any x.kind hfb.1 hfb.2.1 q (bodyB x) d w0 hf.bytes hb)
  have HS := Lib.hid (fun (w0 : World) (b : BaP) (H : BoI w w0 x a k p l c) (S : Nat → Prop) h2 => bsame_any _ S x x a b w0 H.s h2)
  rw [baEq_self] at HS
  have Hev : Hid (encB x = if checkB x = 0 then (x.kind, bodyB x, 0) else (0, [], checkB x)) := Lib.hid rfl
  have Hde : Hid (checkB x = 0 → decB x.kind (bodyB x) = (x, 0)) := Lib.hid (fun h => decB_enc ⟨hfb.2.2.1, hfb.2.2.2⟩ hx.codes h)
  unfold FewBR at HF
  unfold EncB at HE
  unfold DecBR at HD HG
  rw [Hev.out] at HE
  generalize FewB x = fwx at *
  generalize bodyB x = B at *
  generalize checkB x = ck at *
  clear hx hfb hin Hev
  generalize hdv : decB k l = dv at *
  have HdvX := Lib.hid hdv
  clear hdv
  obtain ⟨gv, er⟩ := dv
  dsimp only at HD Hdp
  obtain ⟨xk, xs, xt, xn, xv, xa, xb, xo, xc, xr, xf⟩ := x
  obtain ⟨apo, aco, apc, acc, apr, acr, apf, acf⟩ := a
  dsimp only at *
  unfold baArg at HF HE HS HG ⊢
  unfold baCells at HC HF HE HS H0 HG ⊢
  dsimp only at *
  go_enter Try.func8, Try.ntmps8
  go_upto_region 1 with (fail)
  generalize (w.alloc (.cells #[.int .u8 xk, .int .u8 xs, .string xt, .string xn, .string xv, .int .i64 xa, .int .i64 xb, .slice apo xo.length aco, .slice apc xc.length acc, .slice apr xr.length acr, .slice apf xf.length acf] 33)).alloc (.cells #[.int .u8 k, .slice p l.length c] 75) = w1 at *
  obtain ⟨c1, d1⟩ := HC.out w1 H0.out
  have HF1 := Lib.hid (HF.out w1 H0.out)
  go_wp2_with fail
  refine HF1.out.mono ?_
  rintro e w2 ⟨bx, rfl, hfx, hb⟩
  have H2 := Lib.hid (H0.out.step hb)
  obtain ⟨c2, d2⟩ := HC.out w2 H2.out
  clear hb c1 d1 HF1 HF H0
  cases bx with
  | false =>
    go_wp2_with (first | (go_at_call 40; refine (Haw.out _).mono ?_; rintro e wz ⟨rfl, hb⟩; have HZ := Lib.hid (H2.out.step hb); clear hb))
    go_ret
    exact ⟨rfl, HZ.out.bel⟩
  | true =>
    have Hfx := Lib.hid (hfx rfl)
    clear hfx
    by_cases hbig : (2000 : Int) < (l.length : Int)
    · go_wp2_with (first | (go_at_call 40; refine (Haw.out _).mono ?_; rintro e wz ⟨rfl, hb⟩; have HZ := Lib.hid (H2.out.step hb); clear hb))
      go_ret
      exact ⟨rfl, HZ.out.bel⟩
    · have hl : l.length ≤ 2000 := by omega
      have HD' := Lib.hid (HD.out hl)
      have Hdp' := Lib.hid (Hdp.out hl)
      clear HD Hdp hl
      have HD := HD'
      have Hdp := Hdp'
      clear HD' Hdp'
      have HE2 := Lib.hid (HE.out Hfx.out w2 H2.out)
      by_cases hck : ck = 0
      · subst hck
        have HG' := Lib.hid (HG.out Hfx.out rfl)
        rw [Hde.out rfl] at HG'
        rw [if_pos rfl] at HE2
        clear HE HG Hde
        dsimp only at HG' HE2
        go_wp2_with fail
        refine HE2.out.mono ?_
        rintro e w3 ⟨v3, rfl, ho3, hb3⟩
        obtain ⟨p3, k3, hv3, -, -, q3, -⟩ := OwnBR.slice ho3
        subst hv3
        have hal : Below w3.heap.size w3 (w3.alloc (.cells #[.int .u8 xk, .slice p3 B.length k3] 75)) := (Below.refl _ _).alloc (Nat.le_refl _) _
        have H3 := Lib.hid ((H2.out.step hb3).step hal)
        have HG3 := Lib.hid (HG'.out p3 k3 _ (q3.below hal))
        have c3 := (Blk.new w3 75 #[.int .u8 xk, .slice p3 B.length k3]).cell
        clear ho3 hb3 q3 hal HE2 HG' c2 d2 H2
        go_upto_region 5 with fail
        generalize w3.alloc (.cells #[.int .u8 xk, .slice p3 B.length k3] 75) = w4 at *
        generalize w3.heap.size = g4 at *
        go_wp2_with fail
        refine HG3.out.mono ?_
        rintro e w5 ⟨⟨bpo, bco, bpc, bcc, bpr, bcr, bpf, bcf⟩, rfl, hf5, hb5⟩
        try dsimp only at hf5 ⊢
        have hal : Below w5.heap.size w5 (w5.alloc (.cells #[.int .u8 xk, .int .u8 xs, .string xt, .string xn, .string xv, .int .i64 xa, .int .i64 xb, .slice bpo xo.length bco, .slice bpc xc.length bcc, .slice bpr xr.length bcr, .slice bpf xf.length bcf] 33)) := (Below.refl _ _).alloc (Nat.le_refl _) _
        have H5 := Lib.hid ((H3.out.step hb5).step hal)
        have HS5 := Lib.hid (HS.out _ _ H5.out _ (hf5.below hal))
        have d5 := (Blk.new w5 33 #[.int .u8 xk, .int .u8 xs, .string xt, .string xn, .string xv, .int .i64 xa, .int .i64 xb, .slice bpo xo.length bco, .slice bpc xc.length bcc, .slice bpr xr.length bcr, .slice bpf xf.length bcf]).cell
        dsimp only at HS5
        clear hf5 hb5 hal HG3 c3 H3
        go_upto_region 6 with fail
        generalize w5.alloc (.cells #[.int .u8 xk, .int .u8 xs, .string xt, .string xn, .string xv, .int .i64 xa, .int .i64 xb, .slice bpo xo.length bco, .slice bpc xc.length bcc, .slice bpr xr.length bcr, .slice bpf xf.length bcf] 33) = w6 at *
        generalize w5.heap.size = g6 at *
        obtain ⟨c6, -⟩ := HC.out w6 H5.out
        go_upto_region 8 with (first | (go_at_call 33; refine HS5.out.mono ?_; rintro e wB ⟨rfl, hb⟩; have HB := Lib.hid (H5.out.step hb); clear hb c6 d5 HS5 H5))
        obtain ⟨c8, d8⟩ := HC.out wB HB.out
        have HD8 := Lib.hid (HD.out wB HB.out)
        rcases Hdp.out with ⟨he0, hev, hgb, hgs⟩ | ⟨he0, hz0⟩
        · have Hen := Lib.hid (fun (S : Nat → Prop) (a : BaP) (w0 : World) hs => benc_any S gv a w0 hs hgb hgs)
          unfold EncB at Hen
          rw [hev] at Hen
          dsimp only at Hen
          subst he0
          clear hev hgb hgs HD Hdp
          obtain ⟨yk, ys, yt, yn, yv, ya, yb, yo, yc, yr, yf⟩ := gv
          unfold baArg baCells at Hen HD8
          dsimp only at Hen HD8
          go_wp2_with fail
          refine HD8.out.mono ?_
          rintro e w9 ⟨⟨bpo, bco, bpc, bcc, bpr, bcr, bpf, bcf⟩, rfl, hf9, hb9⟩
          try dsimp only at hf9 ⊢
          have hal : Below w9.heap.size w9 (w9.alloc (.cells #[.int .u8 yk, .int .u8 ys, .string yt, .string yn, .string yv, .int .i64 ya, .int .i64 yb, .slice bpo yo.length bco, .slice bpc yc.length bcc, .slice bpr yr.length bcr, .slice bpf yf.length bcf] 33)) := (Below.refl _ _).alloc (Nat.le_refl _) _
          have H9 := Lib.hid ((HB.out.step hb9).step hal)
          have Hen9 := Lib.hid (Hen.out _ _ _ (hf9.below hal))
          have cy := (Blk.new w9 33 #[.int .u8 yk, .int .u8 ys, .string yt, .string yn, .string yv, .int .i64 ya, .int .i64 yb, .slice bpo yo.length bco, .slice bpc yc.length bcc, .slice bpr yr.length bcr, .slice bpf yf.length bcf]).cell
          dsimp only at Hen9
          clear hf9 hb9 hal HD8 Hen c8 d8 HB
          go_upto_region 11 with fail
          generalize w9.alloc (.cells #[.int .u8 yk, .int .u8 ys, .string yt, .string yn, .string yv, .int .i64 ya, .int .i64 yb, .slice bpo yo.length bco, .slice bpc yc.length bcc, .slice bpr yr.length bcr, .slice bpf yf.length bcf] 33) = wa at *
          generalize w9.heap.size = ga at *
          go_wp2_with fail
          refine Hen9.out.mono ?_
          rintro e wb ⟨vb, rfl, hob, hbb⟩
          obtain ⟨pb, cb, hvb, -, -, qb, -⟩ := OwnBR.slice hob
          subst hvb
          have hal : Below wb.heap.size wb (wb.alloc (.cells #[.int .u8 k, .slice pb l.length cb] 75)) := (Below.refl _ _).alloc (Nat.le_refl _) _
          have Hb := Lib.hid ((H9.out.step hbb).step hal)
          have Hqb := Lib.hid (qb.below hal)
          have HMb : Hid (Blk (wb.alloc (.cells #[.int .u8 k, .slice pb l.length cb] 75)) wb.heap.size 75 #[.int .u8 k, .slice pb l.length cb]) := Lib.hid (Blk.new _ _ _)
          clear hob hbb qb hal Hen9 cy H9
          go_upto_region 12 with fail
          generalize wb.alloc (.cells #[.int .u8 k, .slice pb l.length cb] 75) = wd at *
          generalize wb.heap.size = gd at *
          obtain ⟨ce, de⟩ := HC.out wd Hb.out
          have cm := HMb.out.cell
          have Heq := Lib.hid (equal_any pb p l l cb c wd Hqb.out Hb.out.y)
          rw [beq_self_eq_true] at Heq
          go_wp2_with (first
            | (go_at_call 16; refine Heq.out.mono ?_; rintro e we ⟨rfl, rfl⟩)
            | (go_at_call 40; refine (Haw.out _).mono ?_; rintro e wz ⟨rfl, hb⟩; have HZ := Lib.hid (Hb.out.step hb); clear hb))
          go_ret
          exact ⟨rfl, HZ.out.bel⟩
        · subst hz0
          have HSz := Lib.hid (fun (S : Nat → Prop) (b : BaP) (w0 : World) h1 => bsame_any S (fun _ => False) (baZero 0) (baZero 0) b baNil w0 h1 (BaL.zero _ _ 0))
          rw [baEq_self] at HSz
          have hei : (er == 0) = false := by simpa using he0
          clear HD Hdp
          unfold baArg baCells baZero at HSz HD8
          unfold baNil at HSz
          dsimp only [List.length_nil] at HSz HD8
          go_wp2_with fail
          refine HD8.out.mono ?_
          rintro e w9 ⟨⟨zpo, zco, zpc, zcc, zpr, zcr, zpf, zcf⟩, rfl, hf9, hb9⟩
          try dsimp only at hf9 ⊢
          have hal : Below w9.heap.size w9 (w9.alloc (.cells #[.int .u8 0, .int .u8 0, .string ⟨#[]⟩, .string ⟨#[]⟩, .string ⟨#[]⟩, .int .i64 0, .int .i64 0, .slice zpo 0 zco, .slice zpc 0 zcc, .slice zpr 0 zcr, .slice zpf 0 zcf] 33)) := (Below.refl _ _).alloc (Nat.le_refl _) _
          have H9 := Lib.hid ((HB.out.step hb9).step hal)
          have HSz9 := Lib.hid (HSz.out _ _ _ (hf9.below hal))
          have cy := (Blk.new w9 33 #[.int .u8 0, .int .u8 0, .string ⟨#[]⟩, .string ⟨#[]⟩, .string ⟨#[]⟩, .int .i64 0, .int .i64 0, .slice zpo 0 zco, .slice zpc 0 zcc, .slice zpr 0 zcr, .slice zpf 0 zcf]).cell
          dsimp only at HSz9
          clear hf9 hb9 hal HD8 HSz c8 d8 HB
          go_upto_region 10 with fail
          generalize w9.alloc (.cells #[.int .u8 0, .int .u8 0, .string ⟨#[]⟩, .string ⟨#[]⟩, .string ⟨#[]⟩, .int .i64 0, .int .i64 0, .slice zpo 0 zco, .slice zpc 0 zcc, .slice zpr 0 zcr, .slice zpf 0 zcf] 33) = wa at *
          generalize w9.heap.size = ga at *
          go_wp2_with (first
            | (go_at_call 33; refine HSz9.out.mono ?_; rintro e wb ⟨rfl, hb⟩; have Hb := Lib.hid (H9.out.step hb); clear hb)
            | (go_at_call 40; refine (Haw.out _).mono ?_; rintro e wz ⟨rfl, hb⟩; have HZ := Lib.hid (Hb.out.step hb); clear hb))
          go_ret
          exact ⟨rfl, HZ.out.bel⟩
      · rw [if_neg hck] at HE2
        clear HE HG Hde
        dsimp only at HE2
        have hci : (ck == 0) = false := by simpa using hck
        go_upto_region 4 with (first | (go_at_call 41; refine HE2.out.mono ?_; rintro e w3 ⟨v3, rfl, ho3, hb3⟩; obtain ⟨p3, k3, hv3, -, -, q3, -⟩ := OwnBR.slice ho3; subst hv3; have H3 := Lib.hid (H2.out.step hb3); clear ho3 hb3 q3 c2 d2 H2 HE2))
        have hal : Below w3.heap.size w3 (w3.alloc (.cells #[.int .u8 0, .slice p3 ([] : List UInt8).length k3] 75)) := (Below.refl _ _).alloc (Nat.le_refl _) _
        have HB := Lib.hid (H3.out.step hal)
        simp only [List.length_nil] at HB ⊢
        clear hal H3
        generalize w3.alloc (.cells #[.int .u8 0, .slice p3 0 k3] 75) = wB at *
        go_upto_region 8 with fail
        obtain ⟨c8, d8⟩ := HC.out wB HB.out
        have HD8 := Lib.hid (HD.out wB HB.out)
        rcases Hdp.out with ⟨he0, hev, hgb, hgs⟩ | ⟨he0, hz0⟩
        · have Hen := Lib.hid (fun (S : Nat → Prop) (a : BaP) (w0 : World) hs => benc_any S gv a w0 hs hgb hgs)
          unfold EncB at Hen
          rw [hev] at Hen
          dsimp only at Hen
          subst he0
          clear hev hgb hgs HD Hdp
          obtain ⟨yk, ys, yt, yn, yv, ya, yb, yo, yc, yr, yf⟩ := gv
          unfold baArg baCells at Hen HD8
          dsimp only at Hen HD8
          go_wp2_with fail
          refine HD8.out.mono ?_
          rintro e w9 ⟨⟨bpo, bco, bpc, bcc, bpr, bcr, bpf, bcf⟩, rfl, hf9, hb9⟩
          try dsimp only at hf9 ⊢
          have hal : Below w9.heap.size w9 (w9.alloc (.cells #[.int .u8 yk, .int .u8 ys, .string yt, .string yn, .string yv, .int .i64 ya, .int .i64 yb, .slice bpo yo.length bco, .slice bpc yc.length bcc, .slice bpr yr.length bcr, .slice bpf yf.length bcf] 33)) := (Below.refl _ _).alloc (Nat.le_refl _) _
          have H9 := Lib.hid ((HB.out.step hb9).step hal)
          have Hen9 := Lib.hid (Hen.out _ _ _ (hf9.below hal))
          have cy := (Blk.new w9 33 #[.int .u8 yk, .int .u8 ys, .string yt, .string yn, .string yv, .int .i64 ya, .int .i64 yb, .slice bpo yo.length bco, .slice bpc yc.length bcc, .slice bpr yr.length bcr, .slice bpf yf.length bcf]).cell
          dsimp only at Hen9
          clear hf9 hb9 hal HD8 Hen c8 d8 HB
          go_upto_region 11 with fail
          generalize w9.alloc (.cells #[.int .u8 yk, .int .u8 ys, .string yt, .string yn, .string yv, .int .i64 ya, .int .i64 yb, .slice bpo yo.length bco, .slice bpc yc.length bcc, .slice bpr yr.length bcr, .slice bpf yf.length bcf] 33) = wa at *
          generalize w9.heap.size = ga at *
          go_wp2_with fail
          refine Hen9.out.mono ?_
          rintro e wb ⟨vb, rfl, hob, hbb⟩
          obtain ⟨pb, cb, hvb, -, -, qb, -⟩ := OwnBR.slice hob
          subst hvb
          have hal : Below wb.heap.size wb (wb.alloc (.cells #[.int .u8 k, .slice pb l.length cb] 75)) := (Below.refl _ _).alloc (Nat.le_refl _) _
          have Hb := Lib.hid ((H9.out.step hbb).step hal)
          have Hqb := Lib.hid (qb.below hal)
          have HMb : Hid (Blk (wb.alloc (.cells #[.int .u8 k, .slice pb l.length cb] 75)) wb.heap.size 75 #[.int .u8 k, .slice pb l.length cb]) := Lib.hid (Blk.new _ _ _)
          clear hob hbb qb hal Hen9 cy H9
          go_upto_region 12 with fail
          generalize wb.alloc (.cells #[.int .u8 k, .slice pb l.length cb] 75) = wd at *
          generalize wb.heap.size = gd at *
          obtain ⟨ce, de⟩ := HC.out wd Hb.out
          have cm := HMb.out.cell
          have Heq := Lib.hid (equal_any pb p l l cb c wd Hqb.out Hb.out.y)
          rw [beq_self_eq_true] at Heq
          go_wp2_with (first
            | (go_at_call 16; refine Heq.out.mono ?_; rintro e we ⟨rfl, rfl⟩)
            | (go_at_call 40; refine (Haw.out _).mono ?_; rintro e wz ⟨rfl, hb⟩; have HZ := Lib.hid (Hb.out.step hb); clear hb))
          go_ret
          exact ⟨rfl, HZ.out.bel⟩
        · subst hz0
          have HSz := Lib.hid (fun (S : Nat → Prop) (b : BaP) (w0 : World) h1 => bsame_any S (fun _ => False) (baZero 0) (baZero 0) b baNil w0 h1 (BaL.zero _ _ 0))
          rw [baEq_self] at HSz
          have hei : (er == 0) = false := by simpa using he0
          clear HD Hdp
          unfold baArg baCells baZero at HSz HD8
          unfold baNil at HSz
          dsimp only [List.length_nil] at HSz HD8
          go_wp2_with fail
          refine HD8.out.mono ?_
          rintro e w9 ⟨⟨zpo, zco, zpc, zcc, zpr, zcr, zpf, zcf⟩, rfl, hf9, hb9⟩
          try dsimp only at hf9 ⊢
          have hal : Below w9.heap.size w9 (w9.alloc (.cells #[.int .u8 0, .int .u8 0, .string ⟨#[]⟩, .string ⟨#[]⟩, .string ⟨#[]⟩, .int .i64 0, .int .i64 0, .slice zpo 0 zco, .slice zpc 0 zcc, .slice zpr 0 zcr, .slice zpf 0 zcf] 33)) := (Below.refl _ _).alloc (Nat.le_refl _) _
          have H9 := Lib.hid ((HB.out.step hb9).step hal)
          have HSz9 := Lib.hid (HSz.out _ _ _ (hf9.below hal))
          have cy := (Blk.new w9 33 #[.int .u8 0, .int .u8 0, .string ⟨#[]⟩, .string ⟨#[]⟩, .string ⟨#[]⟩, .int .i64 0, .int .i64 0, .slice zpo 0 zco, .slice zpc 0 zcc, .slice zpr 0 zcr, .slice zpf 0 zcf]).cell
          dsimp only at HSz9
          clear hf9 hb9 hal HD8 HSz c8 d8 HB
          go_upto_region 10 with fail
          generalize w9.alloc (.cells #[.int .u8 0, .int .u8 0, .string ⟨#[]⟩, .string ⟨#[]⟩, .string ⟨#[]⟩, .int .i64 0, .int .i64 0, .slice zpo 0 zco, .slice zpc 0 zcc, .slice zpr 0 zcr, .slice zpf 0 zcf] 33) = wa at *
          generalize w9.heap.size = ga at *
          go_wp2_with (first
            | (go_at_call 33; refine HSz9.out.mono ?_; rintro e wb ⟨rfl, hb⟩; have Hb := Lib.hid (H9.out.step hb); clear hb)
            | (go_at_call 40; refine (Haw.out _).mono ?_; rintro e wz ⟨rfl, hb⟩; have HZ := Lib.hid (Hb.out.step hb); clear hb))
          go_ret
          exact ⟨rfl, HZ.out.bel⟩

end Go.Proofs.Ythhebfknikfleaa

/-
  A message's type and bytes as an argument.
-/
namespace Go.Proofs.Ythhebfknikfleaa
open Go.RowKit
set_option linter.unusedVariables false
set_option linter.unusedSimpArgs false

/-- A type with its bytes, as it is handed over. -/
def MgS : Rd (Int × List UInt8) := fun S w cs x => (0 ≤ x.1 ∧ x.1 < 256) ∧ ∃ p c, cs = [.int .u8 x.1, .slice p x.2.length c] ∧ BytesS S w [.slice p x.2.length c] x.2
theorem opensS_mg : OpensS Try.prog 75 MgS := by
  intro H enc w base spare held fuel cs x h
  have S : StructOf Try.prog 75 _ := ⟨Try.underlying75, by kernel_rfl, by kernel_rfl⟩
  have hl := S.len h
  match cs, hl with
  | [c0, c1], _ =>
    obtain ⟨y0, e0, hw⟩ := S.field h 0 _ rfl c0 rfl (opens_int Try.underlying5)
    obtain ⟨y1, hy1⟩ := S.field h 1 _ rfl c1 rfl (opensS_bytes Try.underlying37 Try.underlying5 (by kernel_rfl))
    obtain ⟨p, c, rfl⟩ := BytesS.shape hy1
    simp only [List.cons.injEq, and_true] at e0
    subst e0
    exact ⟨(y0, y1), byte_of_wf hw, p, c, rfl, hy1⟩

end Go.Proofs.Ythhebfknikfleaa

/-
  Messages of servers (layer 7): BackBack's walk, of what a statement's arguments hold.
-/
namespace Go.Proofs.Ythhebfknikfleaa
open Go.RowKit
set_option linter.unusedVariables false
set_option linter.unusedSimpArgs false

theorem backBack_read (s t : Array Value) (x : BaV) (y : Int × List UInt8) (w : World) (h : BaS (fun k => k < w.heap.size) w s.toList x) (k : MgS (fun k => k < w.heap.size) w t.toList y) :
    Calls Try.prog 8 #[.agg s, .agg t] w fun e w' => e = .returned (.bool true) ∧ Below w.heap.size w w' := by
  obtain ⟨a, hs, hl, hb⟩ := h
  obtain ⟨kb, p, c, ks, kl⟩ := k
  obtain rfl : s = baCells x a := Array.toList_inj.1 hs
  obtain rfl : t = #[.int .u8 y.1, .slice p y.2.length c] := Array.toList_inj.1 ks
  exact backBack_walk x a y.1 kb.1 kb.2 p y.2 c w hl hb kl.parts.2.2.2

end Go.Proofs.Ythhebfknikfleaa

