/-
  Ground: BbGr, BbH, BbI.
-/
import Derived.Test.YthhebfknikfleaaGreatPbDXBbG
import Derived.Deep.RegionHeld3
/-
  Messages of servers (layer 7): a message that is read, by its kinds: the program's.
-/
namespace Go.Proofs.YthhebfknikfleaaGreat
open Go.RowKit
set_option linter.unusedVariables false
set_option linter.unusedSimpArgs false


set_option maxRecDepth 100000 in
set_option maxHeartbeats 4000000 in
theorem bmsg_R (sb g : Nat) (L : List UInt8) (bad : Bool) (w : World) (h : ScanO w sb g L bad) (hL : L.length ≤ 100000) :
    Calls Tryz.prog 82 #[.agg #[.pointer (some ⟨sb, 0, none⟩)], .int .u8 82] w (bmsgR sb g L bad 82 w) := by
  have hsb := h.lt
  have Hg := Lib.hid (fun e : L ≠ [] => h.ltg e)
  have hA : Below w.heap.size w (w.alloc (.cells #[.pointer (some ⟨sb, 0, none⟩)] 124)) := (Below.refl _ _).alloc (Nat.le_refl _) _
  have hm := BmI.start sb w (w.alloc (.cells #[.pointer (some ⟨sb, 0, none⟩)] 124)) 82 (Touch.of_below hA) hsb
  rw [show (w.alloc (.cells #[.pointer (some ⟨sb, 0, none⟩)] 124)).heap.size = w.heap.size + 1 by simp] at hm
  have hk := ((Blk.new w 124 #[.pointer (some ⟨sb, 0, none⟩)]).alloc (.cells baZ 39)).alloc (.cells (baCells (baZero 82) baNil) 39)
  have hs := h.touch (p := fun _ => False) ((((Touch.refl _ w).alloc (.cells #[.pointer (some ⟨sb, 0, none⟩)] 124)).alloc (.cells baZ 39)).alloc (.cells (baCells (baZero 82) baNil) 39)) (fun e => e) (fun _ e => e)
  unfold baZ at hm hk hs
  rw [show baCells (baZero 82) baNil = #[.int .u8 82, .int .u8 0, .string ⟨#[]⟩, .string ⟨#[]⟩, .string ⟨#[]⟩, .int .i64 0, .int .i64 0, .slice none 0 0, .slice none 0 0, .slice none 0 0, .slice none 0 0] from rfl] at hm hk hs
  have Hm1 := Lib.hid hm
  have HK1 := Lib.hid hk
  have Hs1 := Lib.hid hs
  clear h hA hm hk hs
  go_enter Tryz.func82, Tryz.ntmps82
  go_upto_region 2 with (fail)
  generalize ((w.alloc (.cells #[.pointer (some ⟨sb, 0, none⟩)] 124)).alloc (.cells #[.int .u8 0, .int .u8 0, .string ⟨#[]⟩, .string ⟨#[]⟩, .string ⟨#[]⟩, .int .i64 0, .int .i64 0, .slice none 0 0, .slice none 0 0, .slice none 0 0, .slice none 0 0] 39)).alloc (.cells #[.int .u8 82, .int .u8 0, .string ⟨#[]⟩, .string ⟨#[]⟩, .string ⟨#[]⟩, .int .i64 0, .int .i64 0, .slice none 0 0, .slice none 0 0, .slice none 0 0, .slice none 0 0] 39) = w1 at *
  have c1 : ∀ i, w1.cell? ⟨w.heap.size, i, none⟩ = (#[.pointer (some ⟨sb, 0, none⟩)] : Array Value)[i]? := HK1.out.cell
  have Hm1d := Lib.hid (Hm1.out.step ((Touch.refl _ w1).drew))
  have HK1d := Lib.hid (((Touch.refl (fun _ => False) w1).drew).blk HK1.out (fun e => e))
  have Hs1d := Lib.hid (Hs1.out.touch ((Touch.refl (fun _ => False) w1).drew) (fun e => e) (fun _ e => e))
  obtain ⟨t1, L1, b1, hq, ht, hc⟩ := bsNum_o Hs1d.out 4 4 (by decide)
  have HQ1 := Lib.hid hq
  have HC := Lib.hid hc
  clear hq hc ht c1 Hm1 HK1 Hs1
  have c1 : ∀ i, w1.drew.cell? ⟨w.heap.size, i, none⟩ = (#[.pointer (some ⟨sb, 0, none⟩)] : Array Value)[i]? := HK1d.out.cell
  have c3 : ∀ i, w1.drew.cell? ⟨w.heap.size + 1 + 1, i, none⟩ = (#[.int .u8 82, .int .u8 0, .string ⟨#[]⟩, .string ⟨#[]⟩, .string ⟨#[]⟩, .int .i64 0, .int .i64 0, .slice none 0 0, .slice none 0 0, .slice none 0 0, .slice none 0 0] : Array Value)[i]? := Hm1d.out.b3.cell
  have HcO := Lib.hid (And.intro c1 c3)
  go_upto_region 4 with (fail)
  go_region_held3 (fun w' => (∀ i, w'.cell? ⟨w.heap.size, i, none⟩ = (#[.pointer (some ⟨sb, 0, none⟩)] : Array Value)[i]?) ∧ (∀ i, w'.cell? ⟨w.heap.size + 1 + 1, i, none⟩ = (#[.int .u8 82, .int .u8 0, .string ⟨#[]⟩, .string ⟨#[]⟩, .string ⟨#[]⟩, .int .i64 0, .int .i64 0, .slice none 0 0, .slice none 0 0, .slice none 0 0, .slice none 0 0] : Array Value)[i]?))
    (first | with_reducible exact HcO.out | with_reducible exact HcA.out | with_reducible exact HcB.out | go_keep)
    (first | (go_at_call 110; refine HC.out.mono ?_; rintro e w2 ⟨rfl, hs, hT⟩; have hz2 := hT.size; have Hm2 := Lib.hid (Hm1d.out.step hT); have HK2 := Lib.hid (hT.blk HK1d.out (by omega)); have Hs2 := Lib.hid hs; have c2 : ∀ i, w2.cell? ⟨w.heap.size + 1, i, none⟩ = (#[.int .u8 0, .int .u8 0, .string ⟨#[]⟩, .string ⟨#[]⟩, .string ⟨#[]⟩, .int .i64 0, .int .i64 0, .slice none 0 0, .slice none 0 0, .slice none 0 0, .slice none 0 0] : Array Value)[i]? := Hm2.out.b2.cell; have f2 := Hm2.out.b2.frozen; have HT9 := Lib.hid (setEl_touch w2 (w.heap.size + 1) (.int .u8 82) (.int .u8 0) (.string ⟨#[]⟩) (.string ⟨#[]⟩) (.string ⟨#[]⟩) (.int .i64 0) (.int .i64 0) (.slice none 0 0) (.slice none 0 0) (.slice none 0 0) (.slice none 0 0)); have HN9 : Hid (¬ w.heap.size = w.heap.size + 1 ∧ ¬ w.heap.size + 1 + 1 = w.heap.size + 1) := Lib.hid ⟨by omega, by omega⟩; unfold setEl at HT9; have HcA : Hid ((∀ i, w2.cell? ⟨w.heap.size, i, none⟩ = (#[.pointer (some ⟨sb, 0, none⟩)] : Array Value)[i]?) ∧ (∀ i, w2.cell? ⟨w.heap.size + 1 + 1, i, none⟩ = (#[.int .u8 82, .int .u8 0, .string ⟨#[]⟩, .string ⟨#[]⟩, .string ⟨#[]⟩, .int .i64 0, .int .i64 0, .slice none 0 0, .slice none 0 0, .slice none 0 0, .slice none 0 0] : Array Value)[i]?)) := Lib.hid ⟨HK2.out.cell, Hm2.out.b3.cell⟩; have hcB := And.intro (HT9.out.blk HK2.out HN9.out.1).cell (HT9.out.blk Hm2.out.b3 HN9.out.2).cell; rw [show baCells (baZero 82) baNil = #[.int .u8 82, .int .u8 0, .string ⟨#[]⟩, .string ⟨#[]⟩, .string ⟨#[]⟩, .int .i64 0, .int .i64 0, .slice none 0 0, .slice none 0 0, .slice none 0 0, .slice none 0 0] from rfl] at hcB; have HcB := Lib.hid hcB; clear hs hT hcB))
  rename_i hHx
  clear hHx HcA HcB HN9 HcO c1 c3 HT9 HC Hm1d HK1d Hs1d
  have hT := setEl_touch w2 (w.heap.size + 1) (.int .u8 82) (.int .u8 0) (.string ⟨#[]⟩) (.string ⟨#[]⟩) (.string ⟨#[]⟩) (.int .i64 0) (.int .i64 0) (.slice none 0 0) (.slice none 0 0) (.slice none 0 0) (.slice none 0 0)
  have hbf := setEl_blk (.int .u8 82) (.int .u8 0) (.string ⟨#[]⟩) (.string ⟨#[]⟩) (.string ⟨#[]⟩) (.int .i64 0) (.int .i64 0) (.slice none 0 0) (.slice none 0 0) (.slice none 0 0) (.slice none 0 0) Hm2.out.b2
  have hl := Hm2.out.lst.keep (S' := fun k => w.heap.size ≤ k) (Kept.touch hT (fun k hk hs => by have hs' : w.heap.size + 1 + 2 ≤ k := hs; exact ⟨by omega, by omega⟩))
  have hs := Hs2.out.touch hT (by omega) (fun hne e => by have := Hg.out (HQ1.out.neB hne); omega)
  have ht := Hm2.out.tch.then hT (fun k hk e => by omega)
  have HH := Lib.hid (And.intro hl (And.intro hs ht))
  unfold setEl at hbf HH
  have hcf := hbf.cell
  clear hT hbf hl hs ht c2 f2
  go_wp2_with fail
  refine bodyPost_ret (v := .tuple #[.agg #[.int .u8 82, .int .u8 0, .string ⟨#[]⟩, .string ⟨#[]⟩, .string ⟨#[]⟩, .int .i64 0, .int .i64 0, .slice none 0 0, .slice none 0 0, .slice none 0 0, .slice none 0 0], .bool (t1 == 0)]) (by simp [results, Tryz.results82, go_sem, hcf]) rfl ?_
  exact ⟨baZero 82, baNil, L1, b1, t1 == 0, rfl, HH.out.1, HH.out.2.1, readB_R HQ1.out, HH.out.2.2⟩

theorem bmsg_any (sb g : Nat) (L : List UInt8) (bad : Bool) (w : World) (h : ScanO w sb g L bad) (hL : L.length ≤ 100000) (k : Int) :
    Calls Tryz.prog 82 #[.agg #[.pointer (some ⟨sb, 0, none⟩)], .int .u8 k] w (bmsgR sb g L bad k w) := by
  by_cases h0 : k = 82
  · subst h0; exact bmsg_R sb g L bad w h hL
  by_cases h1 : k = 83
  · subst h1; exact bmsg_S sb g L bad w h hL
  by_cases h2 : k = 75
  · subst h2; exact bmsg_K sb g L bad w h hL
  by_cases h3 : k = 90
  · subst h3; exact bmsg_Zany sb g L bad w h hL
  by_cases h4 : k = 67
  · subst h4; exact bmsg_C sb g L bad w h hL
  by_cases h5 : k = 68
  · subst h5; exact bmsg_D sb g L bad w h hL
  by_cases h6 : k = 84
  · subst h6; exact bmsg_T sb g L bad w h hL
  by_cases h7 : k = 116
  · subst h7; exact bmsg_t sb g L bad w h hL
  by_cases h8 : k = 69
  · subst h8; exact bmsg_69 sb g L bad w h hL
  by_cases h9 : k = 78
  · subst h9; exact bmsg_78 sb g L bad w h hL
  exact bmsg_other sb g L bad w h hL k h0 h1 h2 h3 h4 h5 h6 h7 (by omega)

end Go.Proofs.YthhebfknikfleaaGreat

/-
  Messages of servers (layer 7): Decode, the program's.
-/
namespace Go.Proofs.YthhebfknikfleaaGreat
open Go.RowKit
set_option linter.unusedVariables false
set_option linter.unusedSimpArgs false

/-- What Decode leaves. -/
def DecBR (k : Int) (L : List UInt8) (w : World) (e : Ending) (w' : World) : Prop :=
  ∃ a, e = .returned (.tuple #[baArg (decB k L).1 a, .int .i64 (decB k L).2]) ∧ BaL (fun j => w.heap.size ≤ j) w' (decB k L).1 a ∧ Below w.heap.size w w'
/-- The end: the result's block is set. -/
theorem BdI.done {S : Nat → Prop} {w0 w : World} {c : Array Value} {f : BaV} {a : BaP} (h : BdI w0 w c) (hl : BaL S w f a) (hS : ∀ j, S j → j ≠ w0.heap.size + 1 ∧ w0.heap.size ≤ j) :
    Blk (setEl w (w0.heap.size + 1) (.int .u8 f.kind) (.int .u8 f.status) (.string f.tag) (.string f.name) (.string f.value) (.int .i64 f.n) (.int .i64 f.m) (.slice a.po f.oids.length a.co) (.slice a.pc f.cols.length a.cc) (.slice a.pr f.row.length a.cr) (.slice a.pf f.fields.length a.cf)) (w0.heap.size + 1) 39 (baCells f a) ∧
    BaL (fun j => w0.heap.size ≤ j) (setEl w (w0.heap.size + 1) (.int .u8 f.kind) (.int .u8 f.status) (.string f.tag) (.string f.name) (.string f.value) (.int .i64 f.n) (.int .i64 f.m) (.slice a.po f.oids.length a.co) (.slice a.pc f.cols.length a.cc) (.slice a.pr f.row.length a.cr) (.slice a.pf f.fields.length a.cf)) f a ∧
    Below w0.heap.size w0 (setEl w (w0.heap.size + 1) (.int .u8 f.kind) (.int .u8 f.status) (.string f.tag) (.string f.name) (.string f.value) (.int .i64 f.n) (.int .i64 f.m) (.slice a.po f.oids.length a.co) (.slice a.pc f.cols.length a.cc) (.slice a.pr f.row.length a.cr) (.slice a.pf f.fields.length a.cf)) := by
  have hT := setEl_touch w (w0.heap.size + 1) (.int .u8 f.kind) (.int .u8 f.status) (.string f.tag) (.string f.name) (.string f.value) (.int .i64 f.n) (.int .i64 f.m) (.slice a.po f.oids.length a.co) (.slice a.pc f.cols.length a.cc) (.slice a.pr f.row.length a.cr) (.slice a.pf f.fields.length a.cf)
  exact ⟨setEl_blk _ _ _ _ _ _ _ _ _ _ _ h.r, hl.keep (Kept.touch hT (fun j _ hs => ⟨(hS j hs).2, (hS j hs).1⟩)), h.bel.trans (hT.below h.bel.size (fun j e => by omega))⟩
theorem readB_texts {k : Int} {L T : List UInt8} {x : BaV} (h : readB k L = some (x, T)) : x.tag.size ≤ L.length ∧ x.name.size ≤ L.length ∧ x.value.size ≤ L.length := by
  have z : ∀ y : BaV, y.tag = ⟨#[]⟩ → y.name = ⟨#[]⟩ → y.value = ⟨#[]⟩ → y.tag.size ≤ L.length ∧ y.name.size ≤ L.length ∧ y.value.size ≤ L.length := fun y h1 h2 h3 => by rw [h1, h2, h3]; exact ⟨Nat.zero_le _, Nat.zero_le _, Nat.zero_le _⟩
  unfold readB at h
  split at h
  · obtain ⟨⟨n, L1⟩, e1, h⟩ := bindQ_some h
    dsimp only at h
    split at h
    · injection h with h; injection h with h h'; subst h; exact z _ rfl rfl rfl
    · cases h
  split at h
  · obtain ⟨⟨a, L1⟩, q1, h⟩ := bindQ_some h
    obtain ⟨⟨b, L2⟩, q2, h⟩ := bindQ_some h
    injection h with h; injection h with h h'
    dsimp only at h q2
    subst h
    have k1 := textQ_len q1
    have k2 := textQ_len q2
    exact ⟨Nat.zero_le _, by show a.size ≤ _; omega, by show b.size ≤ _; omega⟩
  split at h
  · obtain ⟨⟨a, L1⟩, q1, h⟩ := bindQ_some h
    obtain ⟨⟨b, L2⟩, q2, h⟩ := bindQ_some h
    injection h with h; injection h with h h'; subst h; exact z _ rfl rfl rfl
  split at h
  · obtain ⟨⟨a, L1⟩, q1, h⟩ := bindQ_some h
    injection h with h; injection h with h h'; subst h; exact z _ rfl rfl rfl
  split at h
  · obtain ⟨⟨a, L1⟩, q1, h⟩ := bindQ_some h
    injection h with h; injection h with h h'
    dsimp only at h
    subst h
    have k1 := textQ_len q1
    exact ⟨by show a.size ≤ _; omega, Nat.zero_le _, Nat.zero_le _⟩
  iterate 4
    split at h
    · obtain ⟨⟨a, L1⟩, q1, h⟩ := bindQ_some h
      injection h with h; injection h with h h'; subst h; exact z _ rfl rfl rfl
  injection h with h; injection h with h h'; subst h; exact z _ rfl rfl rfl
theorem servK_byte {k : Int} (h : servK k = true) : 0 ≤ k ∧ k < 256 := by
  unfold servK at h
  simp only [decide_eq_true_eq, List.mem_cons, List.not_mem_nil, or_false] at h
  omega

set_option maxRecDepth 100000 in
set_option maxHeartbeats 4000000 in
theorem bdec_any (k : Int) (h0 : 0 ≤ k) (h1 : k < 256) (p : Option Addr) (l : List UInt8) (cap : Nat) (w : World) (hl : l.length ≤ 100000) (hb : BytesIn w p l) :
    Calls Tryz.prog 25 #[.agg #[.int .u8 k, .slice p l.length cap]] w (DecBR k l w) := by
  have H1 := Lib.hid (BdI.start w #[.int .u8 k, .slice p l.length cap])
  have HK := Lib.hid (fun w0 : World => bknown_any k h0 h1 w0)
  have HU := Lib.hid (fun h : servK k = false => decB_unknown (L := l) h)
  have HQ := Lib.hid (fun (L' : List UInt8) (f : BaV) (b : Bool) (h1 : servK k = true) h2 h3 => @decB_bad k l L' f b h1 h2 h3)
  have HG := Lib.hid (fun (f : BaV) (h1 : servK k = true) h2 => @decB_ok k l f h1 h2)
  have Hb1 : Hid (BytesIn ((w.alloc (.cells #[.int .u8 k, .slice p l.length cap] 42)).alloc (.cells baZ 39)) p l) := Lib.hid ((((Touch.refl (fun _ => False) w).alloc _).alloc _).bytesIn hb (fun _ _ _ e => e))
  unfold baZ at H1 Hb1
  clear hb
  go_enter Tryz.func25, Tryz.ntmps25
  go_upto_region 1 with (fail)
  generalize (w.alloc (.cells #[.int .u8 k, .slice p l.length cap] 42)).alloc (.cells #[.int .u8 0, .int .u8 0, .string ⟨#[]⟩, .string ⟨#[]⟩, .string ⟨#[]⟩, .int .i64 0, .int .i64 0, .slice none 0 0, .slice none 0 0, .slice none 0 0, .slice none 0 0] 39) = w1 at *
  have c1 := H1.out.m.cell
  go_wp2_with fail
  refine (HK.out w1).mono ?_
  rintro e w2 ⟨rfl, hb⟩
  have H2 := Lib.hid (H1.out.bstep hb)
  have Hb2 : Hid (BytesIn w2 p l) := Lib.hid ((Touch.of_below (p := fun _ => False) hb).bytesIn Hb1.out (fun _ _ _ e => e))
  clear hb c1 Hb1 H1 HK
  generalize hkv : servK k = kv at *
  clear hkv
  cases kv with
  | false =>
    have Hd := Lib.hid (HU.out rfl)
    clear HQ HG HU
    have c2 : ∀ i, w2.cell? ⟨w.heap.size + 1, i, none⟩ = (#[.int .u8 0, .int .u8 0, .string ⟨#[]⟩, .string ⟨#[]⟩, .string ⟨#[]⟩, .int .i64 0, .int .i64 0, .slice none 0 0, .slice none 0 0, .slice none 0 0, .slice none 0 0] : Array Value)[i]? := H2.out.r.cell
    have f2 := H2.out.r.frozen
    go_wp2_with fail
    obtain ⟨hbf, hl', hB⟩ := H2.out.done (BaL.zero (fun _ => False) w2 0) (fun _ e => e.elim)
    have HH := Lib.hid (And.intro hl' hB)
    clear hl' hB c2 f2
    unfold setEl baCells baZero baNil at hbf
    unfold setEl at HH
    dsimp only [List.length_nil] at hbf
    have hcf := hbf.cell
    clear hbf
    refine bodyPost_ret (v := .tuple #[.agg #[.int .u8 0, .int .u8 0, .string ⟨#[]⟩, .string ⟨#[]⟩, .string ⟨#[]⟩, .int .i64 0, .int .i64 0, .slice none 0 0, .slice none 0 0, .slice none 0 0, .slice none 0 0], .int .i64 9]) (by simp [results, Tryz.results25, go_sem, hcf]) rfl ?_
    unfold DecBR
    rw [Hd.out]
    exact ⟨baNil, rfl, HH.out.1, HH.out.2⟩

  | true =>
    have Hq := Lib.hid (fun L' f b => HQ.out L' f b rfl)
    have Hg := Lib.hid (fun f => HG.out f rfl)
    clear HQ HG HU
    have c2 := H2.out.m.cell
    have HN := Lib.hid (scanNew_any p l cap w2 (by omega) Hb2.out)
    go_upto_region 4 with (go_at_call 81; refine HN.out.mono ?_; rintro e w3 ⟨sb, g, rfl, hs, hsb, hg, hT⟩; have H3 := Lib.hid (H2.out.step hT (fun _ e => e.elim)); have Hs3 := Lib.hid hs; have hz3 := hT.size; clear hs hT HN c2)
    have hw2 := H2.out.r.lt
    have hal : Below w3.heap.size w3 (w3.alloc (.cells #[.pointer (some ⟨sb, 0, none⟩)] 124)) := (Below.refl _ _).alloc (Nat.le_refl _) _
    have H4 := Lib.hid (H3.out.bstep hal)
    have Hs4 := Lib.hid (Hs3.out.touch (Touch.of_below (p := fun _ => False) hal) (fun e => e) (fun _ e => e))
    have Hr4 : Hid (Blk (w3.alloc (.cells #[.pointer (some ⟨sb, 0, none⟩)] 124)) w3.heap.size 124 #[.pointer (some ⟨sb, 0, none⟩)]) := Lib.hid (Blk.new _ _ _)
    have hz4 : w3.heap.size < (w3.alloc (.cells #[.pointer (some ⟨sb, 0, none⟩)] 124)).heap.size := by simp
    have hsl := Hs3.out.lt
    clear hal H3 Hs3 H2 Hb2
    generalize w3.alloc (.cells #[.pointer (some ⟨sb, 0, none⟩)] 124) = w4 at *
    generalize w3.heap.size = rb at *
    have c4 := H4.out.m.cell
    have r4 := Hr4.out.cell
    have HM := Lib.hid (bmsg_any sb g l false w4 Hs4.out hl k)
    unfold bmsgR baArg baCells at HM
    go_upto_region 5 with (go_at_call 82; refine HM.out.mono ?_; rintro e w5 ⟨f, a, L', b', srv, rfl, hfl, hs, hq, hT⟩; have H5 := Lib.hid (H4.out.step hT (fun j e => by omega)); have Hs5 := Lib.hid hs; have Hfl5 := Lib.hid hfl; have HQ := Lib.hid hq; have Hr5 := Lib.hid (hT.blk Hr4.out (by omega)); have hz5 := hT.size; clear hs hT hfl hq HM c4 r4 H4 Hs4 Hr4)
    obtain ⟨xk, xs, xt, xn, xv, xa, xb, xo, xc, xr, xf⟩ := f
    obtain ⟨apo, aco, apc, acc, apr, acr, apf, acf⟩ := a
    dsimp only
    have hw5 := H5.out.r.lt
    have hal : Below w5.heap.size w5 (w5.alloc (.cells #[.int .u8 xk, .int .u8 xs, .string xt, .string xn, .string xv, .int .i64 xa, .int .i64 xb, .slice apo xo.length aco, .slice apc xc.length acc, .slice apr xr.length acr, .slice apf xf.length acf] 39)) := (Below.refl _ _).alloc (Nat.le_refl _) _
    have H6 := Lib.hid (H5.out.bstep hal)
    have Hs6 := Lib.hid (Hs5.out.touch (Touch.of_below (p := fun _ => False) hal) (fun e => e) (fun _ e => e))
    have Hr6 := Lib.hid (Hr5.out.below hal Hr5.out.lt)
    have Hf6 : Hid (Blk (w5.alloc (.cells #[.int .u8 xk, .int .u8 xs, .string xt, .string xn, .string xv, .int .i64 xa, .int .i64 xb, .slice apo xo.length aco, .slice apc xc.length acc, .slice apr xr.length acr, .slice apf xf.length acf] 39)) w5.heap.size 39 #[.int .u8 xk, .int .u8 xs, .string xt, .string xn, .string xv, .int .i64 xa, .int .i64 xb, .slice apo xo.length aco, .slice apc xc.length acc, .slice apr xr.length acr, .slice apf xf.length acf]) := Lib.hid (Blk.new _ _ _)
    have Hfl6 := Lib.hid (Hfl5.out.below hal)
    have hz6 : w5.heap.size < (w5.alloc (.cells #[.int .u8 xk, .int .u8 xs, .string xt, .string xn, .string xv, .int .i64 xa, .int .i64 xb, .slice apo xo.length aco, .slice apc xc.length acc, .slice apr xr.length acr, .slice apf xf.length acf] 39)).heap.size := by simp
    clear hal H5 Hs5 Hr5 Hfl5
    generalize w5.alloc (.cells #[.int .u8 xk, .int .u8 xs, .string xt, .string xn, .string xv, .int .i64 xa, .int .i64 xb, .slice apo xo.length aco, .slice apc xc.length acc, .slice apr xr.length acr, .slice apf xf.length acf] 39) = w6 at *
    generalize w5.heap.size = gf at *
    have r6 := Hr6.out.cell
    have f6 := Hf6.out.cell
    have HD := Lib.hid (scanDone_any sb g L' b' w6 Hs6.out)
    cases srv with
    | false =>
      have Hd := Lib.hid (Hq.out _ _ _ HQ.out (by simp))
      have c2 : ∀ i, w6.cell? ⟨w.heap.size + 1, i, none⟩ = (#[.int .u8 0, .int .u8 0, .string ⟨#[]⟩, .string ⟨#[]⟩, .string ⟨#[]⟩, .int .i64 0, .int .i64 0, .slice none 0 0, .slice none 0 0, .slice none 0 0, .slice none 0 0] : Array Value)[i]? := H6.out.r.cell
      have f2 := H6.out.r.frozen
      go_wp2_with fail
      obtain ⟨hbf, hl', hB⟩ := H6.out.done (BaL.zero (fun _ => False) w6 0) (fun _ e => e.elim)
      have HH := Lib.hid (And.intro hl' hB)
      clear hl' hB c2 f2
      unfold setEl baCells baZero baNil at hbf
      unfold setEl at HH
      dsimp only [List.length_nil] at hbf
      have hcf := hbf.cell
      clear hbf
      refine bodyPost_ret (v := .tuple #[.agg #[.int .u8 0, .int .u8 0, .string ⟨#[]⟩, .string ⟨#[]⟩, .string ⟨#[]⟩, .int .i64 0, .int .i64 0, .slice none 0 0, .slice none 0 0, .slice none 0 0, .slice none 0 0], .int .i64 4]) (by simp [results, Tryz.results25, go_sem, hcf]) rfl ?_
      unfold DecBR
      rw [Hd.out]
      exact ⟨baNil, rfl, HH.out.1, HH.out.2⟩

    | true =>
      have HQ' : Hid (StepO l false (readB k) ⟨xk, xs, xt, xn, xv, xa, xb, xo, xc, xr, xf⟩ L' b') := Lib.hid (by have := HQ.out; simpa using this)
      clear HQ
      generalize hem : (!b' && L'.isEmpty) = em at *
      cases em with
      | false =>
        have Hd := Lib.hid (Hq.out _ _ _ HQ'.out hem)
        clear hem
        have c2 : ∀ i, w6.cell? ⟨w.heap.size + 1, i, none⟩ = (#[.int .u8 0, .int .u8 0, .string ⟨#[]⟩, .string ⟨#[]⟩, .string ⟨#[]⟩, .int .i64 0, .int .i64 0, .slice none 0 0, .slice none 0 0, .slice none 0 0, .slice none 0 0] : Array Value)[i]? := H6.out.r.cell
        have f2 := H6.out.r.frozen
        go_wp2_with (go_at_call 83; refine HD.out.mono ?_; rintro e w7 ⟨rfl, rfl⟩)
        obtain ⟨hbf, hl', hB⟩ := H6.out.done (BaL.zero (fun _ => False) w6 0) (fun _ e => e.elim)
        have HH := Lib.hid (And.intro hl' hB)
        clear hl' hB c2 f2
        unfold setEl baCells baZero baNil at hbf
        unfold setEl at HH
        dsimp only [List.length_nil] at hbf
        have hcf := hbf.cell
        clear hbf
        refine bodyPost_ret (v := .tuple #[.agg #[.int .u8 0, .int .u8 0, .string ⟨#[]⟩, .string ⟨#[]⟩, .string ⟨#[]⟩, .int .i64 0, .int .i64 0, .slice none 0 0, .slice none 0 0, .slice none 0 0, .slice none 0 0], .int .i64 4]) (by simp [results, Tryz.results25, go_sem, hcf]) rfl ?_
        unfold DecBR
        rw [Hd.out]
        exact ⟨baNil, rfl, HH.out.1, HH.out.2⟩

      | true =>
        have hb' : b' = false := by cases b' <;> simp at hem ⊢
        subst hb'
        have hL' : L' = [] := by cases L' <;> simp at hem ⊢
        subst hL'
        clear hem
        have hrd := (HQ'.out.1 rfl).2
        have hpt := readB_parts hrd
        have htx := readB_texts hrd
        have hfb : BaB ⟨xk, xs, xt, xn, xv, xa, xb, xo, xc, xr, xf⟩ := ⟨by have := hpt.kind; dsimp only at this; show 0 ≤ xk; omega, by have := hpt.kind; dsimp only at this; show xk < 256; omega, hpt.status.1, hpt.status.2⟩
        have HC := Lib.hid (bcheck_any _ ⟨xk, xs, xt, xn, xv, xa, xb, xo, xc, xr, xf⟩ ⟨apo, aco, apc, acc, apr, acr, apf, acf⟩ w6 Hfl6.out hfb)
        have Hd := Lib.hid (Hg.out _ HQ'.out)
        clear hrd hpt htx hfb HQ' Hq Hg
        unfold baArg baCells at HC
        dsimp only at HC
        generalize hcv : checkB ⟨xk, xs, xt, xn, xv, xa, xb, xo, xc, xr, xf⟩ = cv at *
        clear hcv
        by_cases hc0 : cv = 0
        · subst hc0
          have Hd' : Hid (decB k l = (⟨xk, xs, xt, xn, xv, xa, xb, xo, xc, xr, xf⟩, 0)) := Lib.hid (by rw [Hd.out, if_pos rfl])
          clear Hd
          go_upto_region 7 with (first | (go_at_call 83; refine HD.out.mono ?_; rintro e w7 ⟨rfl, rfl⟩) | (go_at_call 19; refine HC.out.mono ?_; rintro e w7 ⟨rfl, hb⟩))
          have H7 := Lib.hid (H6.out.bstep hb)
          have Hf7 := Lib.hid (Hf6.out.below hb Hf6.out.lt)
          have Hfl7 := Lib.hid (Hfl6.out.below hb)
          clear hb r6 f6 H6 Hs6 Hr6 Hfl6 Hf6 HD HC
          have c2 : ∀ i, w7.cell? ⟨w.heap.size + 1, i, none⟩ = (#[.int .u8 0, .int .u8 0, .string ⟨#[]⟩, .string ⟨#[]⟩, .string ⟨#[]⟩, .int .i64 0, .int .i64 0, .slice none 0 0, .slice none 0 0, .slice none 0 0, .slice none 0 0] : Array Value)[i]? := H7.out.r.cell
          have f2 := H7.out.r.frozen
          have f7 := Hf7.out.cell
          go_wp2_with fail
          obtain ⟨hbf, hl', hB⟩ := H7.out.done Hfl7.out (fun j hj => ⟨by omega, by omega⟩)
          have HH := Lib.hid (And.intro hl' hB)
          clear hl' hB c2 f2 f7
          unfold setEl baCells at hbf
          unfold setEl at HH
          dsimp only at hbf HH
          have hcf := hbf.cell
          clear hbf
          refine bodyPost_ret (v := .tuple #[.agg #[.int .u8 xk, .int .u8 xs, .string xt, .string xn, .string xv, .int .i64 xa, .int .i64 xb, .slice apo xo.length aco, .slice apc xc.length acc, .slice apr xr.length acr, .slice apf xf.length acf], .int .i64 0]) (by simp [results, Tryz.results25, go_sem, hcf]) rfl ?_
          unfold DecBR
          rw [Hd'.out]
          exact ⟨⟨apo, aco, apc, acc, apr, acr, apf, acf⟩, rfl, HH.out.1, HH.out.2⟩
        · have Hd' : Hid (decB k l = (baZero 0, 4)) := Lib.hid (by rw [Hd.out, if_neg hc0])
          clear Hd
          have hci : (cv != 0) = true := by simpa using hc0
          go_upto_region 6 with (first | (go_at_call 83; refine HD.out.mono ?_; rintro e w7 ⟨rfl, rfl⟩) | (go_at_call 19; refine HC.out.mono ?_; rintro e w7 ⟨rfl, hb⟩))
          have H7 := Lib.hid (H6.out.bstep hb)
          clear hb r6 f6 H6 Hs6 Hr6 Hfl6 Hf6 HD HC
          have Hd := Hd'
          clear Hd'
          have c2 : ∀ i, w7.cell? ⟨w.heap.size + 1, i, none⟩ = (#[.int .u8 0, .int .u8 0, .string ⟨#[]⟩, .string ⟨#[]⟩, .string ⟨#[]⟩, .int .i64 0, .int .i64 0, .slice none 0 0, .slice none 0 0, .slice none 0 0, .slice none 0 0] : Array Value)[i]? := H7.out.r.cell
          have f2 := H7.out.r.frozen
          go_wp2_with fail
          obtain ⟨hbf, hl', hB⟩ := H7.out.done (BaL.zero (fun _ => False) w7 0) (fun _ e => e.elim)
          have HH := Lib.hid (And.intro hl' hB)
          clear hl' hB c2 f2
          unfold setEl baCells baZero baNil at hbf
          unfold setEl at HH
          dsimp only [List.length_nil] at hbf
          have hcf := hbf.cell
          clear hbf
          refine bodyPost_ret (v := .tuple #[.agg #[.int .u8 0, .int .u8 0, .string ⟨#[]⟩, .string ⟨#[]⟩, .string ⟨#[]⟩, .int .i64 0, .int .i64 0, .slice none 0 0, .slice none 0 0, .slice none 0 0, .slice none 0 0], .int .i64 4]) (by simp [results, Tryz.results25, go_sem, hcf]) rfl ?_
          unfold DecBR
          rw [Hd.out]
          exact ⟨baNil, rfl, HH.out.1, HH.out.2⟩


end Go.Proofs.YthhebfknikfleaaGreat

/-
  Messages of servers (layer 7): parts that are read: a column, the fields: the document's.
-/
namespace Go.Proofs.YthhebfknikfleaaGreat
open Go.RowKit
set_option linter.unusedVariables false
set_option linter.unusedSimpArgs false

theorem R2.start2 {sb n1 : Nat} {w0 w : World} {t1 : TypeId} {c1 : Array Value} (h1 : sb < w0.heap.size) (h2 : w0.heap.size ≤ n1) (h3 : Blk w n1 t1 c1) (h4 : Touch (fun k => k = sb) w0 w) (t2 : TypeId) (c2 : Array Value) :
    R2 sb w0 (w.alloc (.cells c2 t2)) n1 w.heap.size t1 t2 c1 c2 := ⟨h1, h2, h3.lt, h3.alloc _, Blk.new _ _ _, h4.alloc _⟩
/-- What is read of a column. -/
def rrdColR (sb g : Nat) (L : List UInt8) (bad : Bool) (w : World) (e : Ending) (w' : World) : Prop :=
  ∃ (x : CoV) (L' : List UInt8) (b' : Bool), e = .returned (.agg #[.string x.name, .int .i64 x.table, .int .i64 x.attr, .int .i64 x.oid, .int .i64 x.size, .int .i64 x.mod, .int .i64 x.format]) ∧ x.name.size ≤ L.length ∧ RefS w' sb g L' b' ∧ StepO L bad coRd x L' b' ∧ Touch (fun i => i = sb) w w'

set_option maxRecDepth 100000 in
set_option maxHeartbeats 4000000 in
theorem rrdCol_any (sb g : Nat) (L : List UInt8) (bad : Bool) (w : World) (h : RefS w sb g L bad) (hL : L.length ≤ 100000) :
    Calls Tryz.prog 123 #[.pointer (some ⟨sb, 0, none⟩)] w (rrdColR sb g L bad w) := by
  have hsb := h.lt
  have Hg := Lib.hid (fun e : L ≠ [] => h.ltgF e)
  have HK1 : Hid (Blk (w.alloc (.cells #[.string ⟨#[]⟩, .int .i64 0, .int .i64 0, .int .i64 0, .int .i64 0, .int .i64 0, .int .i64 0] 79)) w.heap.size 79 #[.string ⟨#[]⟩, .int .i64 0, .int .i64 0, .int .i64 0, .int .i64 0, .int .i64 0, .int .i64 0] ∧ Touch (fun k => k = sb) w (w.alloc (.cells #[.string ⟨#[]⟩, .int .i64 0, .int .i64 0, .int .i64 0, .int .i64 0, .int .i64 0, .int .i64 0] 79))) := Lib.hid ⟨Blk.new _ _ _, (Touch.refl _ w).alloc _⟩
  have Hs1 := Lib.hid (h.touch ((Touch.refl (fun _ => False) w).alloc (.cells #[.string ⟨#[]⟩, .int .i64 0, .int .i64 0, .int .i64 0, .int .i64 0, .int .i64 0, .int .i64 0] 79)) (fun e => e) (fun _ e => e))
  clear h
  go_enter Tryz.func123, Tryz.ntmps123
  go_upto_region 1 with (fail)
  generalize w.alloc (.cells #[.string ⟨#[]⟩, .int .i64 0, .int .i64 0, .int .i64 0, .int .i64 0, .int .i64 0, .int .i64 0] 79) = w1 at *
  obtain ⟨t1, L1, b1, hq, ht1, hc⟩ := brText_o Hs1.out hL
  have HT1 := Lib.hid ht1
  clear ht1
  have HQ1 := Lib.hid hq
  have HC := Lib.hid hc
  clear hq hc
  go_wp2_with fail
  refine HC.out.mono ?_
  rintro e w2 ⟨rfl, hs, hT⟩
  have hz2 := hT.size
  have HK2 := Lib.hid (And.intro (hT.blk HK1.out.1 (by omega)) (HK1.out.2.trans hT))
  have Hs2 := Lib.hid hs
  clear hs hT HC HK1 Hs1
  obtain ⟨t2, L2, b2, hq, -, hc⟩ := brNum_o Hs2.out 4 4 (by decide)
  have HQ2 := Lib.hid hq
  have HC := Lib.hid hc
  clear hq hc
  go_wp2_with fail
  refine HC.out.mono ?_
  rintro e w3 ⟨rfl, hs, hT⟩
  have hz3 := hT.size
  have HK3 := Lib.hid (And.intro (hT.blk HK2.out.1 (by omega)) (HK2.out.2.trans hT))
  have Hs3 := Lib.hid hs
  clear hs hT HC HK2 Hs2
  obtain ⟨t3, L3, b3, hq, -, hc⟩ := brNum_o Hs3.out 2 2 (by decide)
  have HQ3 := Lib.hid hq
  have HC := Lib.hid hc
  clear hq hc
  go_wp2_with fail
  refine HC.out.mono ?_
  rintro e w4 ⟨rfl, hs, hT⟩
  have hz4 := hT.size
  have HK4 := Lib.hid (And.intro (hT.blk HK3.out.1 (by omega)) (HK3.out.2.trans hT))
  have Hs4 := Lib.hid hs
  clear hs hT HC HK3 Hs3
  obtain ⟨t4, L4, b4, hq, -, hc⟩ := brNum_o Hs4.out 4 4 (by decide)
  have HQ4 := Lib.hid hq
  have HC := Lib.hid hc
  clear hq hc
  go_wp2_with fail
  refine HC.out.mono ?_
  rintro e w5 ⟨rfl, hs, hT⟩
  have hz5 := hT.size
  have HK5 := Lib.hid (And.intro (hT.blk HK4.out.1 (by omega)) (HK4.out.2.trans hT))
  have Hs5 := Lib.hid hs
  clear hs hT HC HK4 Hs4
  have HK6 := Lib.hid (R2.start2 hsb (Nat.le_refl _) HK5.out.1 HK5.out.2 79 #[.string t1, .int .i64 t2, .int .i64 t3, .int .i64 t4, .int .i64 0, .int .i64 0, .int .i64 0])
  have Hs6 := Lib.hid (Hs5.out.touch ((Touch.refl (fun _ => False) w5).alloc (.cells #[.string t1, .int .i64 t2, .int .i64 t3, .int .i64 t4, .int .i64 0, .int .i64 0, .int .i64 0] 79)) (fun e => e) (fun _ e => e))
  have hgc := HK6.out.l2
  clear HK5 Hs5
  go_upto_region 2 with fail
  generalize w5.alloc (.cells #[.string t1, .int .i64 t2, .int .i64 t3, .int .i64 t4, .int .i64 0, .int .i64 0, .int .i64 0] 79) = w6 at *
  generalize w5.heap.size = gc at *
  obtain ⟨t5, L5, b5, hq, -, hc⟩ := brNum_o Hs6.out 2 2 (by decide)
  have HQ5 := Lib.hid hq
  have HC := Lib.hid hc
  clear hq hc
  have HG := Lib.hid (fun w => signedR_any t5 2 w)
  obtain ⟨s5, hsg⟩ : ∃ sg, signedV t5 2 = sg := ⟨_, rfl⟩
  rw [hsg] at HG
  have HSg5 := Lib.hid hsg
  clear hsg
  go_wp2_with fail
  refine HC.out.mono ?_
  rintro e w7 ⟨rfl, hs, hT⟩
  have hz7 := hT.size
  have HK7 := Lib.hid (HK6.out.step hT)
  have Hs7 := Lib.hid hs
  clear hs hT HC HK6 Hs6
  have c3 := HK7.out.r.cell
  have f3 := HK7.out.r.frozen
  go_wp2_with fail
  refine (HG.out w7).mono ?_
  rintro e wx ⟨rfl, rfl⟩
  go_upto_region 3 with (fail)
  have hk := HK7.out.set 4 (.int .i64 s5)
  simp only [List.setIfInBounds_toArray, List.set_cons_succ, List.set_cons_zero] at hk
  have hT := R2.setT w7 gc 4 (.int .i64 s5)
  have hs := Hs7.out.touch hT (by omega) (fun hne e => by have := Hg.out (HQ1.out.neB (HQ2.out.neB (HQ3.out.neB (HQ4.out.neB (HQ5.out.neB hne))))); omega)
  have HK8 := Lib.hid hk
  have Hs8 := Lib.hid hs
  clear hk hT hs HK7 Hs7 c3 f3
  generalize w7.setCell ⟨gc, 4, none⟩ (.int .i64 s5) = w8 at *
  obtain ⟨t6, L6, b6, hq, -, hc⟩ := brNum_o Hs8.out 4 4 (by decide)
  have HQ6 := Lib.hid hq
  have HC := Lib.hid hc
  clear hq hc
  have HG := Lib.hid (fun w => signedR_any t6 4 w)
  obtain ⟨s6, hsg⟩ : ∃ sg, signedV t6 4 = sg := ⟨_, rfl⟩
  rw [hsg] at HG
  have HSg6 := Lib.hid hsg
  clear hsg
  go_wp2_with fail
  refine HC.out.mono ?_
  rintro e w9 ⟨rfl, hs, hT⟩
  have hz9 := hT.size
  have HK9 := Lib.hid (HK8.out.step hT)
  have Hs9 := Lib.hid hs
  clear hs hT HC HK8 Hs8
  have c3 := HK9.out.r.cell
  have f3 := HK9.out.r.frozen
  go_wp2_with fail
  refine (HG.out w9).mono ?_
  rintro e wx ⟨rfl, rfl⟩
  go_upto_region 4 with (fail)
  have hk := HK9.out.set 5 (.int .i64 s6)
  simp only [List.setIfInBounds_toArray, List.set_cons_succ, List.set_cons_zero] at hk
  have hT := R2.setT w9 gc 5 (.int .i64 s6)
  have hs := Hs9.out.touch hT (by omega) (fun hne e => by have := Hg.out (HQ1.out.neB (HQ2.out.neB (HQ3.out.neB (HQ4.out.neB (HQ5.out.neB (HQ6.out.neB hne)))))); omega)
  have HK10 := Lib.hid hk
  have Hs10 := Lib.hid hs
  clear hk hT hs HK9 Hs9 c3 f3
  generalize w9.setCell ⟨gc, 5, none⟩ (.int .i64 s6) = w10 at *
  obtain ⟨t7, L7, b7, hq, -, hc⟩ := brNum_o Hs10.out 2 2 (by decide)
  have HQ7 := Lib.hid hq
  have HC := Lib.hid hc
  clear hq hc
  go_wp2_with fail
  refine HC.out.mono ?_
  rintro e w11 ⟨rfl, hs, hT⟩
  have hz11 := hT.size
  have HK11 := Lib.hid (HK10.out.step hT)
  have Hs11 := Lib.hid hs
  clear hs hT HC HK10 Hs10
  have c3 := HK11.out.r.cell
  have f3 := HK11.out.r.frozen
  go_upto_region 5 with (fail)
  have hk := HK11.out.set 6 (.int .i64 t7)
  simp only [List.setIfInBounds_toArray, List.set_cons_succ, List.set_cons_zero] at hk
  have hT := R2.setT w11 gc 6 (.int .i64 t7)
  have hs := Hs11.out.touch hT (by omega) (fun hne e => by have := Hg.out (HQ1.out.neB (HQ2.out.neB (HQ3.out.neB (HQ4.out.neB (HQ5.out.neB (HQ6.out.neB (HQ7.out.neB hne))))))); omega)
  have HK12 := Lib.hid hk
  have Hs12 := Lib.hid hs
  clear hk hT hs HK11 Hs11 c3 f3
  generalize w11.setCell ⟨gc, 6, none⟩ (.int .i64 t7) = w12 at *
  have c3 : ∀ i, w12.cell? ⟨gc, i, none⟩ = (#[.string t1, .int .i64 t2, .int .i64 t3, .int .i64 t4, .int .i64 s5, .int .i64 s6, .int .i64 t7] : Array Value)[i]? := HK12.out.r.cell
  have c2 := HK12.out.k.cell
  have f2 := HK12.out.k.frozen
  go_wp2_with fail
  obtain ⟨hbf, hT⟩ := set7 (.string t1) (.int .i64 t2) (.int .i64 t3) (.int .i64 t4) (.int .i64 s5) (.int .i64 s6) (.int .i64 t7) HK12.out.k
  have hs := Hs12.out.touch hT (by omega) (fun hne e => by have := Hg.out (HQ1.out.neB (HQ2.out.neB (HQ3.out.neB (HQ4.out.neB (HQ5.out.neB (HQ6.out.neB (HQ7.out.neB hne))))))); omega)
  have ht := HK12.out.tch.then hT (fun k hk e => by omega)
  have HH := Lib.hid (And.intro hs ht)
  have hcf := hbf.cell
  clear hT hbf hs ht c2 c3 f2
  refine bodyPost_ret (v := .agg #[.string t1, .int .i64 t2, .int .i64 t3, .int .i64 t4, .int .i64 s5, .int .i64 s6, .int .i64 t7]) (by simp [results, Tryz.results123, go_sem, hcf]) rfl ?_
  refine ⟨⟨t1, t2, t3, t4, s5, s6, t7⟩, L7, b7, rfl, HT1.out, HH.out.1, ?_, HH.out.2⟩
  have q := coRd_o HQ1.out HQ2.out HQ3.out HQ4.out HQ5.out HQ6.out HQ7.out
  rw [HSg5.out, HSg6.out] at q
  exact q

/-- What is read of fields. -/
def rrdFdsR (sb g : Nat) (L : List UInt8) (bad : Bool) (w : World) (e : Ending) (w' : World) : Prop :=
  ∃ v xs L' bad', e = .returned v ∧ OwnFd w.heap.size w' v xs ∧ xs.length ≤ 200000 ∧ RefS w' sb g L' bad' ∧ StepO L bad fieldsP xs L' bad' ∧ Touch (fun i => i = sb) w w'

set_option maxRecDepth 100000 in
set_option maxHeartbeats 4000000 in
theorem rrdFds_any (sb g : Nat) (L : List UInt8) (bad : Bool) (w : World) (h : RefS w sb g L bad) (hL : L.length ≤ 100000) :
    Calls Tryz.prog 125 #[.pointer (some ⟨sb, 0, none⟩)] w (rrdFdsR sb g L bad w) := by
  have hsb := h.lt
  have Hg := Lib.hid (fun e : L ≠ [] => h.ltgF e)
  have H0 := Lib.hid h
  clear h
  go_enter Tryz.func125, Tryz.ntmps125
  go_wp2_with fail
  go_loopw [3] (fun v wr => ∃ (T : List UInt8) (b : Bool) (xs : List FdV), FsI (fieldsP L) bad T b xs ∧ (T ≠ [] → L ≠ []) ∧ T.length + xs.length ≤ L.length + (if b = true then 1 else 0) ∧ T.length ≤ L.length ∧ OwnFd w.heap.size wr v xs ∧ RefS wr sb g T b ∧ Touch (fun i => i = sb) w wr) (fun v _ => L.length + 2 - lenB7 v)
  case atStart => exact ⟨L, bad, [], FsI.start, fun e => e, by simp, Nat.le_refl _, OwnS.empty _, H0.out, Touch.refl _ _⟩
  case round =>
    obtain ⟨T, b, xs, hI, hTL, hTl, hTl2, ho, hs, hT⟩ := hrel
    have hzr := hT.size
    have HI := Lib.hid hI
    have HTL := Lib.hid hTL
    have Ho := Lib.hid ho
    have HS := Lib.hid hs
    have HT := Lib.hid hT
    have Hrow := Lib.hid ho.row
    have Hlv := Lib.hid ho.lenV
    obtain ⟨pq, cq, hcr⟩ := hs.cellsF
    clear hI hTL ho hs hT
    cases b with
    | true =>
      have Hst := Lib.hid (HI.out.finBad hTl2)
      go_wp2_with fail
      go_ret
      exact ⟨_, xs, T, true, rfl, Ho.out, by simp at hTl; omega, HS.out, Hst.out, HT.out⟩
    | false =>
      simp only [Bool.false_eq_true, if_false, Nat.add_zero] at hTl
      obtain ⟨t1, T1, b1, hq, ht, hc⟩ := brNum_o HS.out 1 1 (by decide)
      have hwr : t1 % 256 = t1 := by have := num8B T false; rw [← ht] at this; omega
      have Hb8 : Hid (0 ≤ t1 ∧ t1 < 256) := Lib.hid (by rw [ht]; exact num8B _ _)
      have Hth := Lib.hid (fun e : t1 ≠ 0 => num_there (by rw [← ht]; exact e : numV T false 1 ≠ 0))
      have Hq := Lib.hid hq
      have HC := Lib.hid hc
      clear hq hc ht
      go_wp2_with fail
      refine HC.out.mono ?_
      rintro e w2 ⟨rfl, hs, hT⟩
      have hz2 := hT.size
      have HS2 := Lib.hid hs
      have HT2 := Lib.hid (HT.out.trans hT)
      have HO2 := Lib.hid (Ho.out.touch (S' := fun k => w.heap.size ≤ k) FdS.still hT (fun k hk => by have := (Hrow.out k hk).1; omega) (fun k _ hk _ => ⟨hk, fun e => by have hk' : w.heap.size ≤ k := hk; omega⟩))
      clear hs hT hcr HC
      go_upto_region 4 with (fail)
      try simp only [hwr]
      by_cases hx : t1 = 0
      · subst hx
        have Hst := Lib.hid (HI.out.fin Hq.out hTl2)
        clear Hth Hb8
        go_wp2_with fail
        go_ret
        exact ⟨_, xs, T1, b1, rfl, HO2.out, by omega, HS2.out, Hst.out, HT2.out⟩
      · obtain ⟨-, hok, hTp⟩ := Hth.out hx
        have hx2 : (t1 == 0) = false := by simpa using hx
        have Hx := Lib.hid hx
        have hT1 : T1.length + 1 ≤ T.length := num_shorter Hq.out hok
        obtain ⟨t2, T2, b2, hq2, ht2, hc⟩ := brText_o HS2.out (by omega)
        have HI2 := Lib.hid (HI.out.more Hq.out hx hq2)
        have HTL2 : Hid (T2 ≠ [] → L ≠ []) := Lib.hid (fun e => HTL.out (Hq.out.neB (hq2.neB e)))
        have hT2 := hq2.2.2
        have Hts := Lib.hid ht2
        have HC := Lib.hid hc
        clear hq2 hc ht2 hx hok hwr
        go_wp2_with fail
        refine HC.out.mono ?_
        rintro e w3 ⟨rfl, hs, hT⟩
        have hz3 := hT.size
        have HO3 := Lib.hid (HO2.out.touch (S' := fun k => w.heap.size ≤ k) FdS.still hT (fun k hk => by have := (Hrow.out k hk).1; omega) (fun k _ hk _ => ⟨hk, fun e => by have hk' : w.heap.size ≤ k := hk; omega⟩))
        have hal : Below w3.heap.size w3 (w3.alloc (.cells #[.int .u8 t1, .string t2] 87)) := (Below.refl _ _).alloc (Nat.le_refl _) _
        have Ho4 := Lib.hid (HO3.out.below' FdS.still hal)
        have Hnw := Lib.hid (SliceS.new1 (S := fun k => w.heap.size ≤ k ∧ rowOf u3 ≠ some k) (S' := fun k => w.heap.size ≤ k ∧ rowOf u3 ≠ some k) FdS.still w3 87 #[.int .u8 t1, .string t2] ⟨t1, t2⟩ ⟨rfl, (by have := Hts.out; show t2.size ≤ maxLen; unfold maxLen; omega), Hb8.out⟩ rfl (fun k _ h => h) ⟨by omega, fun e => by have := (Hrow.out _ e).2; omega⟩)
        have HAl := Lib.hid hal
        have HS3 := Lib.hid hs
        have HT3 := Lib.hid (HT2.out.trans hT)
        have hwz : w.heap.size ≤ (w3.alloc (.cells #[.int .u8 t1, .string t2] 87)).heap.size := by rw [World.size_alloc]; omega
        have hxr : xs.length + 1 ≤ 1000000 := by omega
        clear hal hs hT HC
        go_wp2_with (at_builtin; refine step_appendFd _ rfl (.tmp 15) (.tmp 20) rfl w.heap.size u3 xs rfl Ho4.out (some ⟨w3.heap.size, 0, none⟩) 1 1 [⟨t1, t2⟩] rfl Hnw.out (by simpa using hxr) hwz ?_; intro v5 w5 ho5 hg5 hn5; have Ho6 := Lib.hid ho5; have HT6 := Lib.hid ((HT3.out.trans (Touch.of_below HAl.out)).then (Touch.of_row hg5) (fun i hi e => by have := (Hrow.out i e.symm).1; omega)); have HS6 := Lib.hid ((HS3.out.touch (Touch.of_below (p := fun _ => False) HAl.out) (fun e => e) (fun _ e => e)).touch (Touch.of_row hg5) (fun e => by have := (Hrow.out _ e.symm).1; omega) (fun hne e => by have := (Hrow.out _ e.symm).1; have := Hg.out (HTL2.out hne); omega)); clear ho5 hg5 hn5)
        go_roundw
        case rel => exact ⟨T2, b2, xs ++ [⟨t1, t2⟩], HI2.out, HTL2.out, by simp; omega, by omega, Ho6.out, HS6.out, HT6.out⟩
        case measure => have h1 := Ho6.out.lenV; have h2 := Hlv.out; rw [h1, h2]; simp; omega

end Go.Proofs.YthhebfknikfleaaGreat

