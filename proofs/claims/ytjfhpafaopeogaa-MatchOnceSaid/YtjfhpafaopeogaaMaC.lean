/-
  What becomes of a reply: Got, of the program: the answers that take nothing off (layer 22).
-/
import Derived.Test.YtjfhpafaopeogaaMaB
import Derived.Test.YtjfhpafaopeogaaEntryB
namespace Go.Proofs.Ytjfhpafaopeogaa
open Go.RowKit
set_option linter.unusedVariables false
set_option linter.unusedSimpArgs false

structure ResV where
  shw : Bool
  name : EnV
  ended : List EnV
  failed : List EnV
  dropped : List EnV
  ready : Int
structure ResP where
  a : EnP
  pe : Option Addr
  ce : Nat
  pf : Option Addr
  cf : Nat
  pd : Option Addr
  cd : Nat
/-- A result's cells. -/
def resCells (r : ResV) (p : ResP) : Array Value := #[.bool r.shw, .int .i64 r.name.kind, .bool r.name.hide, .string r.name.frm, .string r.name.dst, .slice p.a.pg r.name.good.length p.a.cg, .slice p.a.pb r.name.bad.length p.a.cb, .slice p.a.pc r.name.cache.length p.a.cc, .slice p.a.pr r.name.reply.length p.a.cr, .slice p.pe r.ended.length p.ce, .slice p.pf r.failed.length p.cf, .slice p.pd r.dropped.length p.cd, .int .u8 r.ready]
def resArg (r : ResV) (p : ResP) : Value := .agg (resCells r p)
structure ResL (G : Nat → Prop) (w : World) (r : ResV) (p : ResP) : Prop where
  name : EnL G w r.name p.a
  ended : SliceS 8 EnS G w [.slice p.pe r.ended.length p.ce] r.ended
  failed : SliceS 8 EnS G w [.slice p.pf r.failed.length p.cf] r.failed
  dropped : SliceS 8 EnS G w [.slice p.pd r.dropped.length p.cd] r.dropped
theorem ResL.keep {G G' : Nat → Prop} {w w' : World} {r : ResV} {p : ResP} (h : ResL G w r p) (hk : Kept G G' w w') : ResL G' w' r p :=
  ⟨h.name.keep hk, (SliceS.still EnS.still) _ _ _ _ _ _ h.ended hk, (SliceS.still EnS.still) _ _ _ _ _ _ h.failed hk, (SliceS.still EnS.still) _ _ _ _ _ _ h.dropped hk⟩

def resZero : ResV := ⟨false, enZero, [], [], [], 0⟩
def resZeroP : ResP := ⟨enZeroP, none, 0, none, 0, none, 0⟩
theorem resZero_l (G : Nat → Prop) (w : World) : ResL G w resZero resZeroP :=
  ⟨enZero_l G w 0, SliceS.empty _ _ (by simp [maxLen, resZeroP]), SliceS.empty _ _ (by simp [maxLen, resZeroP]), SliceS.empty _ _ (by simp [maxLen, resZeroP])⟩

/-- A reply: the two bytes that count, and the rest. -/
structure BkV where
  kind : Int
  status : Int
  tag : ByteArray
  name : ByteArray
  value : ByteArray
  n : Int
  m : Int
  oids : Option Addr
  noids : Nat
  coids : Nat
  cols : Option Addr
  ncols : Nat
  ccols : Nat
  row : Option Addr
  nrow : Nat
  crow : Nat
  flds : Option Addr
  nflds : Nat
  cflds : Nat
def bkArg (b : BkV) : Value := .agg #[.int .u8 b.kind, .int .u8 b.status, .string b.tag, .string b.name, .string b.value, .int .i64 b.n, .int .i64 b.m, .slice b.oids b.noids b.coids, .slice b.cols b.ncols b.ccols, .slice b.row b.nrow b.crow, .slice b.flds b.nflds b.cflds]

/-- Where what is handed out lies. -/
def gG (E : Nat → Prop) (v : Value) (sb : Nat) (w : World) : Nat → Prop := fun j => ((E j ∧ j < w.heap.size) ∨ rowOf v = some j ∨ w.heap.size ≤ j) ∧ j ≠ sb

def readyV (k s : Int) : Int := if k = 90 then s else 0
def insteadV (r : ResV) (k : Int) : ResV :=
  match r.dropped with
  | [] => r
  | d :: _ => if r.name.hide && (!d.hide && failsB d.kind k) then { r with name := d, shw := true } else r
/-- What becomes of a reply: the result, the error, what is left. -/
def gotV (L : List EnV) (k s : Int) : ResV × Int × List EnV :=
  match L with
  | [] => (resZero, 10, [])
  | x :: T =>
    if takesB x.kind k then
      if failsB x.kind k then
        let d := ahead isSync T
        let M := T.drop d
        (insteadV ⟨!x.hide, x, M.take (ahead notSyn M), [x], T.take d, readyV k s⟩ k, 0, M.drop (ahead notSyn M))
      else if endsB x.kind k then (⟨!x.hide, x, x :: T.take (ahead notSyn T), [], [], readyV k s⟩, 0, T.drop (ahead notSyn T))
      else (⟨!x.hide, x, [], [], [], readyV k s⟩, 0, x :: T)
    else (resZero, 10, x :: T)

/-- What Got leaves. -/
def GotR (t : TypeId) (B sb : Nat) (E : Nat → Prop) (L : List EnV) (most : Nat) (v : Value) (k s : Int) (w : World) (e : Ending) (w' : World) : Prop :=
  ∃ p, e = .returned (.tuple #[resArg (gotV L k s).1 p, .int .i64 (gotV L k s).2.1]) ∧ ResL (gG E v sb w) w' (gotV L k s).1 p ∧ OpM t B sb E (gotV L k s).2.2 most v w w'

def resZ : Array Value := #[.bool false, .int .i64 0, .bool false, .string ⟨#[]⟩, .string ⟨#[]⟩, .slice none 0 0, .slice none 0 0, .slice none 0 0, .slice none 0 0, .slice none 0 0, .slice none 0 0, .slice none 0 0, .int .u8 0]
/-- A result is stored into a block of its own. -/
abbrev setRes (w : World) (g : Nat) (r : ResV) (p : ResP) : World :=
  (((((((((((((w.setCell ⟨g, 0, none⟩ (.bool r.shw)).setCell ⟨g, 1, none⟩ (.int .i64 r.name.kind)).setCell ⟨g, 2, none⟩ (.bool r.name.hide)).setCell ⟨g, 3, none⟩ (.string r.name.frm)).setCell ⟨g, 4, none⟩ (.string r.name.dst)).setCell ⟨g, 5, none⟩ (.slice p.a.pg r.name.good.length p.a.cg)).setCell ⟨g, 6, none⟩ (.slice p.a.pb r.name.bad.length p.a.cb)).setCell ⟨g, 7, none⟩ (.slice p.a.pc r.name.cache.length p.a.cc)).setCell ⟨g, 8, none⟩ (.slice p.a.pr r.name.reply.length p.a.cr)).setCell ⟨g, 9, none⟩ (.slice p.pe r.ended.length p.ce)).setCell ⟨g, 10, none⟩ (.slice p.pf r.failed.length p.cf)).setCell ⟨g, 11, none⟩ (.slice p.pd r.dropped.length p.cd)).setCell ⟨g, 12, none⟩ (.int .u8 r.ready))
theorem setRes_touch (w : World) (g : Nat) (r : ResV) (p : ResP) : Touch (fun k => k = g) w (setRes w g r p) :=
  ((((((((((((((Touch.refl (fun k => k = g) w).setCell (x := ⟨g, 0, none⟩) (fun _ => rfl) _).setCell (x := ⟨g, 1, none⟩) (fun _ => rfl) _).setCell (x := ⟨g, 2, none⟩) (fun _ => rfl) _).setCell (x := ⟨g, 3, none⟩) (fun _ => rfl) _).setCell (x := ⟨g, 4, none⟩) (fun _ => rfl) _).setCell (x := ⟨g, 5, none⟩) (fun _ => rfl) _).setCell (x := ⟨g, 6, none⟩) (fun _ => rfl) _).setCell (x := ⟨g, 7, none⟩) (fun _ => rfl) _).setCell (x := ⟨g, 8, none⟩) (fun _ => rfl) _).setCell (x := ⟨g, 9, none⟩) (fun _ => rfl) _).setCell (x := ⟨g, 10, none⟩) (fun _ => rfl) _).setCell (x := ⟨g, 11, none⟩) (fun _ => rfl) _).setCell (x := ⟨g, 12, none⟩) (fun _ => rfl) _)
theorem setRes_blk {t : TypeId} {w : World} {g : Nat} (r : ResV) (p : ResP) (h : Blk w g t resZ) : Blk (setRes w g r p) g t (resCells r p) := by
  have h8 := (((((((((((((h.set_ 0 (.bool r.shw)).set_ 1 (.int .i64 r.name.kind)).set_ 2 (.bool r.name.hide)).set_ 3 (.string r.name.frm)).set_ 4 (.string r.name.dst)).set_ 5 (.slice p.a.pg r.name.good.length p.a.cg)).set_ 6 (.slice p.a.pb r.name.bad.length p.a.cb)).set_ 7 (.slice p.a.pc r.name.cache.length p.a.cc)).set_ 8 (.slice p.a.pr r.name.reply.length p.a.cr)).set_ 9 (.slice p.pe r.ended.length p.ce)).set_ 10 (.slice p.pf r.failed.length p.cf)).set_ 11 (.slice p.pd r.dropped.length p.cd)).set_ 12 (.int .u8 r.ready))
  unfold resZ at h8
  simpa [resCells] using h8

def enCl (x : EnV) (a : EnP) : Array Value := #[.int .i64 x.kind, .bool x.hide, .string x.frm, .string x.dst, .slice a.pg x.good.length a.cg, .slice a.pb x.bad.length a.cb, .slice a.pc x.cache.length a.cc, .slice a.pr x.reply.length a.cr]
def bkCl (b : BkV) : Array Value := #[.int .u8 b.kind, .int .u8 b.status, .string b.tag, .string b.name, .string b.value, .int .i64 b.n, .int .i64 b.m, .slice b.oids b.noids b.coids, .slice b.cols b.ncols b.ccols, .slice b.row b.nrow b.crow, .slice b.flds b.nflds b.cflds]

/-- A queue behind steps, and blocks (X) that it has nothing to do with. -/
def OpX (t : TypeId) (B sb : Nat) (E : Nat → Prop) (L' : List EnV) (most : Nat) (v : Value) (w : World) (X : Nat → Prop) (wr : World) : Prop :=
  ∃ E1 v1, QO t B wr sb E1 L' most v1 ∧ (∀ j, E1 j → (E j ∧ j < w.heap.size) ∨ rowOf v = some j ∨ (w.heap.size ≤ j ∧ j < wr.heap.size)) ∧
    (∀ j, rowOf v1 = some j → rowOf v = some j ∨ w.heap.size ≤ j) ∧ Touch (fun i => i = sb) w wr ∧ (∀ j, X j → w.heap.size ≤ j ∧ j < wr.heap.size ∧ ¬ E1 j ∧ rowOf v1 ≠ some j)

section
variable {t : TypeId} {B sb : Nat} {E X Y : Nat → Prop} {L L' : List EnV} {most : Nat} {v : Value} {w wr w2 : World}
theorem OpX.start (h : QO t B w sb E L most v) : OpX t B sb E L most v w (fun _ => False) w :=
  ⟨fun j => E j ∧ j < w.heap.size, v, h.weak (fun k hk e => ⟨e, hk⟩) (fun e => h.noE e.1), fun j e => .inl e, fun _ e => .inl e, Touch.refl _ _, fun j e => e.elim⟩
theorem OpX.size (h : OpX t B sb E L most v w X wr) : w.heap.size ≤ wr.heap.size := by
  obtain ⟨E1, v1, h1, h2, h3, h4, h5⟩ := h
  exact h4.size
theorem OpX.grab (h : OpX t B sb E L most v w X wr) (hb : Below wr.heap.size wr w2) (hv : ∀ j, rowOf v = some j → j < w.heap.size) (hY : ∀ j, Y j → X j ∨ (wr.heap.size ≤ j ∧ j < w2.heap.size)) : OpX t B sb E L most v w Y w2 := by
  obtain ⟨E1, v1, h1, h2, h3, h4, h5⟩ := h
  have hz := hb.size
  have hz4 := h4.size
  refine ⟨E1, v1, h1.still hb, fun j e => ?_, h3, h4.trans (Touch.of_below hb), fun j e => ?_⟩
  · rcases h2 j e with e | e | e
    · exact .inl e
    · exact .inr (.inl e)
    · exact .inr (.inr ⟨e.1, by omega⟩)
  · rcases hY j e with e | e
    · have := h5 j e
      exact ⟨this.1, by omega, this.2.2⟩
    · refine ⟨by omega, e.2, fun e' => ?_, fun e' => by have := (h1.own.row j e').2; omega⟩
      rcases h2 j e' with e' | e' | e'
      · omega
      · have := hv j e'; omega
      · omega
theorem OpX.still (h : OpX t B sb E L most v w X wr) (hb : Below wr.heap.size wr w2) (hv : ∀ j, rowOf v = some j → j < w.heap.size) : OpX t B sb E L most v w X w2 := h.grab hb hv (fun j e => .inl e)
theorem OpX.less (h : OpX t B sb E L most v w X wr) (hY : ∀ j, Y j → X j) : OpX t B sb E L most v w Y wr := by
  obtain ⟨E1, v1, h1, h2, h3, h4, h5⟩ := h
  exact ⟨E1, v1, h1, h2, h3, h4, fun j e => h5 j (hY j e)⟩
theorem OpX.pass (h : OpX t B sb E L most v w X wr) (hT : Touch X wr w2) (hsb : sb < w.heap.size) : OpX t B sb E L most v w X w2 := by
  obtain ⟨E1, v1, h1, h2, h3, h4, h5⟩ := h
  have hz := hT.size
  refine ⟨E1, v1, h1.touch hT (fun e => by have := (h5 sb e).1; omega) (fun k hk e => (h5 k e).2.2.2 hk) (fun k _ hE _ e => (h5 k e).2.2.1 hE), fun j e => ?_, h3, h4.then hT (fun i hi e => by have := (h5 i e).1; omega), fun j e => ?_⟩
  · rcases h2 j e with e | e | e
    · exact .inl e
    · exact .inr (.inl e)
    · exact .inr (.inr ⟨e.1, by omega⟩)
  · have := h5 j e
    exact ⟨this.1, by omega, this.2.2⟩
theorem OpX.done (h : OpX t B sb E L most v w X wr) (hsb : sb < w.heap.size) (hE : ¬ E sb) (hno : rowOf v ≠ some sb) : OpM t B sb E L most v w wr := by
  obtain ⟨E1, v1, h1, h2, h3, h4, h5⟩ := h
  refine ⟨v1, h1.weak (fun k hk e => ?_) ?_, h3, h4⟩
  · rcases h2 k e with e | e | e
    · exact .inl e.1
    · exact .inr (.inl e)
    · exact .inr (.inr ⟨e.1, hk⟩)
  · rintro (e | e | e)
    · exact hE e
    · exact hno e
    · omega
/-- A call on the queue: what it leans on, and how it goes on. -/
theorem OpX.open (h : OpX t B sb E L most v w X wr) (hv : ∀ j, rowOf v = some j → j < w.heap.size) : ∃ E1 v1, QO t B wr sb E1 L most v1 ∧ (∀ j, E1 j ∨ rowOf v1 = some j → j < wr.heap.size ∧ ¬ X j ∧ ((E j ∧ j < w.heap.size) ∨ rowOf v = some j ∨ w.heap.size ≤ j)) ∧
    ∀ w' L'', OpM t B sb E1 L'' most v1 wr w' → OpX t B sb E L'' most v w X w' := by
  obtain ⟨E1, v1, h1, h2, h3, h4, h5⟩ := h
  have hz := h4.size
  have hlt : ∀ j, E1 j ∨ rowOf v1 = some j → j < wr.heap.size := by
    rintro j (e | e)
    · rcases h2 j e with e | e | e
      · omega
      · have := hv j e; omega
      · omega
    · exact (h1.own.row j e).2
  refine ⟨E1, v1, h1, fun j e => ⟨hlt j e, ?_, ?_⟩, ?_⟩
  · intro hx
    have := h5 j hx
    rcases e with e | e
    · exact this.2.2.1 e
    · exact this.2.2.2 e
  · rcases e with e | e
    · rcases h2 j e with e | e | e
      · exact .inl e
      · exact .inr (.inl e)
      · exact .inr (.inr e.1)
    · rcases h3 j e with e | e
      · exact .inr (.inl e)
      · exact .inr (.inr e)
  · rintro w' L'' ⟨v2, k1, k2, k3⟩
    have hz3 := k3.size
    have hr2 := k1.own.row
    refine ⟨fun j => gE E1 v1 wr w' j, v2, k1, fun j e => ?_, fun j e => ?_, h4.trans k3, fun j e => ?_⟩
    · rcases e with e | e | e
      · rcases h2 j e with e | e | e
        · exact .inl e
        · exact .inr (.inl e)
        · exact .inr (.inr ⟨e.1, by omega⟩)
      · have := (h1.own.row j e).2
        rcases h3 j e with e | e
        · exact .inr (.inl e)
        · exact .inr (.inr ⟨e, by omega⟩)
      · exact .inr (.inr ⟨by omega, e.2⟩)
    · rcases k2 j e with e | e
      · exact h3 j e
      · exact .inr (by omega)
    · have := h5 j e
      refine ⟨this.1, by omega, ?_, fun e' => ?_⟩
      · rintro (e' | e' | e')
        · exact this.2.2.1 e'
        · exact this.2.2.2 e'
        · omega
      · rcases k2 j e' with e' | e'
        · exact this.2.2.2 e'
        · omega
end

/-- What a call of Got holds: the head, the reply, the place of the answer. -/
structure GotS (t : TypeId) (w wr : World) (ge : Nat) (x : EnV) (a : EnP) (b : BkV) : Prop where
  be : Blk wr ge 52 (enCl x a)
  bb : Blk wr w.heap.size 69 (bkCl b)
  bo : Blk wr (w.heap.size + 1) t resZ
  l : EnL (fun j => w.heap.size + 2 ≤ j ∧ j < ge) wr x a
  lo : w.heap.size + 1 < ge
theorem GotS.touch {t : TypeId} {p : Nat → Prop} {w wr w2 : World} {ge : Nat} {x : EnV} {a : EnP} {b : BkV} (h : GotS t w wr ge x a b) (hT : Touch p wr w2) (hp : ∀ i, w.heap.size ≤ i → i ≤ ge → ¬ p i) : GotS t w w2 ge x a b :=
  ⟨hT.blk h.be (hp _ (by have := h.lo; omega) (Nat.le_refl _)), hT.blk h.bb (hp _ (Nat.le_refl _) (by have := h.lo; omega)), hT.blk h.bo (hp _ (by omega) (by have := h.lo; omega)), h.l.keep (Kept.touch hT (fun k _ hk => ⟨hk, hp k (by omega) (by omega)⟩)), h.lo⟩
theorem GotS.below {t : TypeId} {w wr w2 : World} {ge : Nat} {x : EnV} {a : EnP} {b : BkV} (h : GotS t w wr ge x a b) (hb : Below wr.heap.size wr w2) : GotS t w w2 ge x a b :=
  h.touch (Touch.of_below (p := fun _ => False) hb) (fun _ _ _ e => e)

/-- Up to the head. -/
theorem got_start {t : TypeId} {w : World} (x : EnV) (a : EnP) (b : BkV) {W w1 : World} (hW : W = (w.alloc (.cells (bkCl b) 69)).alloc (.cells resZ t)) (hl : EnL (fun k => W.heap.size ≤ k) w1 x a) (hb : Below W.heap.size W w1) :
    GotS t w (w1.alloc (.cells (enCl x a) 52)) w1.heap.size x a b ∧ Below w.heap.size w (w1.alloc (.cells (enCl x a) 52)) := by
  have hz : W.heap.size = w.heap.size + 2 := by rw [hW]; simp
  have hz1 := hb.size
  have hbW : Below w.heap.size w W := by rw [hW]; exact ((Below.refl _ _).alloc (Nat.le_refl _) _).alloc (by simp) _
  have hk : Blk W w.heap.size 69 (bkCl b) := by rw [hW]; exact (Blk.new _ _ _).alloc _
  have hr : Blk W (w.heap.size + 1) t resZ := by
    rw [hW]
    have := Blk.new (w.alloc (.cells (bkCl b) 69)) t resZ
    simpa using this
  have hal : Below w1.heap.size w1 (w1.alloc (.cells (enCl x a) 52)) := (Below.refl _ _).alloc (Nat.le_refl _) _
  refine ⟨⟨Blk.new _ _ _, (hk.below hb (by omega)).below hal (by omega), (hr.below hb (by omega)).below hal (by omega), (hl.keep (Kept.mono (S' := fun j => w.heap.size + 2 ≤ j ∧ j < w1.heap.size) w1 (fun k hk hj => ⟨by omega, hk⟩))).keep (Kept.all hal), by omega⟩, ?_⟩
  exact (hbW.trans (hb.mono (by omega))).trans (hal.mono (by omega))

set_option maxRecDepth 100000 in
set_option maxHeartbeats 4000000 in
theorem got_none (B sb : Nat) (E : Nat → Prop) (most : Nat) (v : Value) (b : BkV) (w : World) (h : QO 126 B w sb E [] most v) (hB : B ≤ w.heap.size) :
    Calls Try.prog 32 #[.pointer (some ⟨sb, 0, none⟩), bkArg b] w (GotR 126 B sb E [] most v b.kind b.status w) := by
  obtain ⟨bk, bs, bt, bn, bv, n, m, oa, oln, oc, ca, cln, cc, ra, rl, rc, fa, fl, fc⟩ := b
  unfold bkArg
  dsimp only
  obtain ⟨W, hW⟩ : ∃ W, W = (w.alloc (.cells #[.int .u8 bk, .int .u8 bs, .string bt, .string bn, .string bv, .int .i64 n, .int .i64 m, .slice oa oln oc, .slice ca cln cc, .slice ra rl rc, .slice fa fl fc] 69)).alloc (.cells #[.bool false, .int .i64 0, .bool false, .string ⟨#[]⟩, .string ⟨#[]⟩, .slice none 0 0, .slice none 0 0, .slice none 0 0, .slice none 0 0, .slice none 0 0, .slice none 0 0, .slice none 0 0, .int .u8 0] 62) := ⟨_, rfl⟩
  have hz : W.heap.size = w.heap.size + 2 := by rw [hW]; simp
  have hb : Below w.heap.size w W := by rw [hW]; exact ((Below.refl _ _).alloc (Nat.le_refl _) _).alloc (by simp) _
  have hk : Blk W w.heap.size 69 #[.int .u8 bk, .int .u8 bs, .string bt, .string bn, .string bv, .int .i64 n, .int .i64 m, .slice oa oln oc, .slice ca cln cc, .slice ra rl rc, .slice fa fl fc] := by rw [hW]; exact (Blk.new _ _ _).alloc _
  have hr : Blk W (w.heap.size + 1) 62 #[.bool false, .int .i64 0, .bool false, .string ⟨#[]⟩, .string ⟨#[]⟩, .slice none 0 0, .slice none 0 0, .slice none 0 0, .slice none 0 0, .slice none 0 0, .slice none 0 0, .slice none 0 0, .int .u8 0] := by
    rw [hW]
    have := Blk.new (w.alloc (.cells #[.int .u8 bk, .int .u8 bs, .string bt, .string bn, .string bv, .int .i64 n, .int .i64 m, .slice oa oln oc, .slice ca cln cc, .slice ra rl rc, .slice fa fl fc] 69)) 62 #[.bool false, .int .i64 0, .bool false, .string ⟨#[]⟩, .string ⟨#[]⟩, .slice none 0 0, .slice none 0 0, .slice none 0 0, .slice none 0 0, .slice none 0 0, .slice none 0 0, .slice none 0 0, .int .u8 0]
    simpa using this
  have Hh := Lib.hid (qHead_none (some ⟨sb, 0, none⟩) W (by
    have := qLen_any _ _ _ _ _ _ _ _ ((h.still hb).still ((Below.refl _ W).alloc (Nat.le_refl _) (.cells enZ 52)))
    exact this))
  have H := Lib.hid h
  have Hb := Lib.hid hb
  have Hr := Lib.hid hr
  have HW := Lib.hid hW
  clear h hb hr hk hW
  go_enter Try.func32, Try.ntmps32
  go_wp2_with fail
  rw [← HW.out]
  refine Hh.out.mono ?_
  rintro e w1 ⟨rfl, hb1⟩
  have Hb1 := Lib.hid (Hb.out.trans (hb1.mono Hb.out.size))
  have Hr1 := Lib.hid (Hr.out.below hb1 (by omega))
  unfold enArg enZero enZeroP
  clear hb1
  go_upto_region 3 with (fail)
  have hal : Below w1.heap.size w1 (w1.alloc (.cells #[.int .i64 0, .bool false, .string ⟨#[]⟩, .string ⟨#[]⟩, .slice none 0 0, .slice none 0 0, .slice none 0 0, .slice none 0 0] 52)) := (Below.refl _ _).alloc (Nat.le_refl _) _
  have Hb2 := Lib.hid (Hb1.out.trans (hal.mono Hb1.out.size))
  have Hr2 := Lib.hid (Hr1.out.below hal Hr1.out.lt)
  clear hal
  generalize w1.alloc (.cells #[.int .i64 0, .bool false, .string ⟨#[]⟩, .string ⟨#[]⟩, .slice none 0 0, .slice none 0 0, .slice none 0 0, .slice none 0 0] 52) = w2 at *
  have hr2 := Hr2.out.cell
  have hf2 := Hr2.out.frozen
  have hT := setRes_touch w2 (w.heap.size + 1) resZero resZeroP
  have hbf := setRes_blk resZero resZeroP Hr2.out
  have HK := Lib.hid (resZero_l (gG E v sb w) (setRes w2 (w.heap.size + 1) resZero resZeroP))
  have HM := Lib.hid (H.out.startM (Hb2.out.trans (hT.below Hb2.out.size (fun k hk => by omega))))
  unfold setRes resZero resZeroP enZero enZeroP at hbf HK HM
  unfold resCells at hbf
  dsimp only [List.length_nil] at hbf HK HM
  clear hT
  go_wp2_with fail
  have hcf := hbf.cell
  clear hr2 hf2 hbf
  refine bodyPost_ret (v := .tuple #[.agg #[.bool false, .int .i64 0, .bool false, .string ⟨#[]⟩, .string ⟨#[]⟩, .slice none 0 0, .slice none 0 0, .slice none 0 0, .slice none 0 0, .slice none 0 0, .slice none 0 0, .slice none 0 0, .int .u8 0], .int .i64 10]) (by simp [results, Try.results32, go_sem, hcf]) rfl ?_
  exact ⟨resZeroP, by simp [gotV, resArg, resCells, resZero, resZeroP, enZero, enZeroP], by simpa [gotV, resZero, enZero, resZeroP, enZeroP] using HK.out, by simpa [gotV] using HM.out⟩

end Go.Proofs.Ytjfhpafaopeogaa
